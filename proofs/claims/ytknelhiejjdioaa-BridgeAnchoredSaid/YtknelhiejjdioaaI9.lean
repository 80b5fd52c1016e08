/-
  Texts of this seat put together: AbsD, B3, B4, U1, B5, B6, N1, N2.
-/
import Derived.Test.YtknelhiejjdioaaI8
import Derived.Test.YtknelhiejjdioaaI6
import Derived.Test.YtknelhiejjdioaaJ5
import Derived.Test.YtknelhiejjdioaaJ4
set_option linter.unusedVariables false
set_option linter.unusedSimpArgs false
namespace Go.Abs
open Go.RowKit

/-- The inner slices' objects: elements of type e, m cells each; the k-th is called 1000000 + k. -/
def dyn (e : TypeId) (m : Nat) : Nat → List (List (List D)) → List (Nat × Option Ob)
  | _, [] => []
  | k, r :: S => (1000000 + k, some ⟨e, m, dr r⟩) :: dyn e m (k + 1) S
def dynP (e : TypeId) (m : Nat) : Nat → List (List (List D)) → List (Nat × Ob)
  | _, [] => []
  | k, r :: S => (1000000 + k, ⟨e, m, dr r⟩) :: dynP e m (k + 1) S
def dynN : Nat → List Nat → List (Nat × Option Nat)
  | _, [] => []
  | k, x :: r => (1000000 + k, some x) :: dynN (k + 1) r
def dynI : Nat → Nat → List (Nat × Nat)
  | _, 0 => []
  | k, n + 1 => (1000000 + k, 1000000 + k) :: dynI (k + 1) n
/-- The outer slice's rows: a slice each, over the objects called ids. -/
def rowsAt (ids lens : List Nat) : List (List AV) := List.zipWith (fun x l => [AV.hs x 0 l]) ids lens
def idsN (n : Nat) : List Nat := (List.range n).map fun k => 1000000 + k

section
variable {e : TypeId} {m : Nat}
theorem find_dyn : ∀ (S : List (List (List D))) (k i : Nat), find (dyn e m k S) i = if 1000000 + k ≤ i then (S[i - (1000000 + k)]?).map (fun r => some ⟨e, m, dr r⟩) else none
  | [], k, i => by simp [dyn, find]
  | r :: S, k, i => by
    simp only [dyn, find]
    by_cases h : 1000000 + k = i
    · subst h; simp
    · rw [if_neg h, find_dyn S (k + 1) i]
      by_cases h2 : 1000000 + k ≤ i
      · rw [if_pos h2, if_pos (by omega), show i - (1000000 + k) = (i - (1000000 + (k + 1))) + 1 by omega, List.getElem?_cons_succ]
      · rw [if_neg h2, if_neg (by omega)]
theorem find_dyn0 (S : List (List (List D))) (j : Nat) : find (dyn e m 0 S) (1000000 + j) = (S[j]?).map (fun r => some ⟨e, m, dr r⟩) := by
  rw [find_dyn, if_pos (by omega), show 1000000 + j - (1000000 + 0) = j by omega]
theorem find_dynP : ∀ (S : List (List (List D))) (k i : Nat), find (dynP e m k S) i = if 1000000 + k ≤ i then (S[i - (1000000 + k)]?).map (fun r => ⟨e, m, dr r⟩) else none
  | [], k, i => by simp [dynP, find]
  | r :: S, k, i => by
    simp only [dynP, find]
    by_cases h : 1000000 + k = i
    · subst h; simp
    · rw [if_neg h, find_dynP S (k + 1) i]
      by_cases h2 : 1000000 + k ≤ i
      · rw [if_pos h2, if_pos (by omega), show i - (1000000 + k) = (i - (1000000 + (k + 1))) + 1 by omega, List.getElem?_cons_succ]
      · rw [if_neg h2, if_neg (by omega)]
theorem find_dynN : ∀ (S : List Nat) (k i : Nat), find (dynN k S) i = if 1000000 + k ≤ i then (S[i - (1000000 + k)]?).map some else none
  | [], k, i => by simp [dynN, find]
  | r :: S, k, i => by
    simp only [dynN, find]
    by_cases h : 1000000 + k = i
    · subst h; simp
    · rw [if_neg h, find_dynN S (k + 1) i]
      by_cases h2 : 1000000 + k ≤ i
      · rw [if_pos h2, if_pos (by omega), show i - (1000000 + k) = (i - (1000000 + (k + 1))) + 1 by omega, List.getElem?_cons_succ]
      · rw [if_neg h2, if_neg (by omega)]
theorem find_dynN0 (S : List Nat) (j : Nat) : find (dynN 0 S) (1000000 + j) = (S[j]?).map some := by
  rw [find_dynN, if_pos (by omega), show 1000000 + j - (1000000 + 0) = j by omega]
theorem find_dynI : ∀ (n k i : Nat), find (dynI k n) i = if 1000000 + k ≤ i ∧ i < 1000000 + k + n then some i else none
  | 0, k, i => by simp only [dynI, find]; rw [if_neg (by omega)]
  | n + 1, k, i => by
    simp only [dynI, find]
    by_cases h : 1000000 + k = i
    · subst h; simp
    · rw [if_neg h, find_dynI n (k + 1) i]
      by_cases h2 : 1000000 + k ≤ i ∧ i < 1000000 + k + (n + 1)
      · rw [if_pos h2, if_pos (by omega)]
      · rw [if_neg h2, if_neg (by omega)]
end

theorem find_app {α : Type} (x : Nat) : ∀ (a b : List (Nat × α)), find (a ++ b) x = (find a x).or (find b x) := find_append' x
theorem find_lowN {α : Type} {x b : Nat} : ∀ {l : List (Nat × α)}, (l.all fun y => Nat.blt y.1 b) = true → b ≤ x → find l x = none
  | [], _, _ => rfl
  | (k, v) :: r, h, hx => by
    simp only [List.all_cons, Bool.and_eq_true] at h
    have h1 : k < b := Nat.le_of_ble_eq_true h.1
    simp only [find]
    rw [if_neg (by omega)]
    exact find_lowN h.2 hx

theorem idsN_length (n : Nat) : (idsN n).length = n := by simp [idsN]
theorem idsN_get {n k : Nat} (h : k < n) : (idsN n)[k]? = some (1000000 + k) := by simp [idsN, h]
theorem idsN_get' {n k x : Nat} (h : (idsN n)[k]? = some x) : k < n ∧ x = 1000000 + k := by
  have hk : k < n := by have := (List.getElem?_eq_some_iff.1 h).1; simpa [idsN] using this
  rw [idsN_get hk] at h
  exact ⟨hk, by cases h; rfl⟩
theorem idsN_succ (n : Nat) : idsN (n + 1) = idsN n ++ [1000000 + n] := by simp [idsN, List.range_succ]
theorem idsN_mem {n x : Nat} : x ∈ idsN n ↔ 1000000 ≤ x ∧ x < 1000000 + n := by
  simp only [idsN, List.mem_map, List.mem_range]
  constructor
  · rintro ⟨k, hk, rfl⟩; omega
  · intro h; exact ⟨x - 1000000, by omega, by omega⟩
theorem idsN_nodup (n : Nat) : (idsN n).Nodup := by
  induction n with
  | zero => simp [idsN]
  | succ n ih =>
    rw [idsN_succ, List.nodup_append]
    exact ⟨ih, by simp, fun a ha b hb => by have := idsN_mem.1 ha; simp at hb; omega⟩
theorem rowsAt_length {ids lens : List Nat} (h : ids.length = lens.length) : (rowsAt ids lens).length = lens.length := by simp [rowsAt, h]
theorem rowsAt_get {ids lens : List Nat} {k x l : Nat} (h1 : ids[k]? = some x) (h2 : lens[k]? = some l) : (rowsAt ids lens)[k]? = some [.hs x 0 l] := by
  simp [rowsAt, List.getElem?_zipWith, h1, h2]
theorem rowsAt_get' {ids lens : List Nat} {k : Nat} {r : List AV} (h : (rowsAt ids lens)[k]? = some r) : ∃ x l, ids[k]? = some x ∧ lens[k]? = some l ∧ r = [.hs x 0 l] := by
  simp only [rowsAt, List.getElem?_zipWith] at h
  cases h1 : ids[k]? <;> cases h2 : lens[k]? <;> simp [h1, h2] at h
  exact ⟨_, _, rfl, rfl, h.symm⟩
theorem rowsAt_app {ids lens : List Nat} (h : ids.length = lens.length) (x l : Nat) : rowsAt ids lens ++ [[.hs x 0 l]] = rowsAt (ids ++ [x]) (lens ++ [l]) := by
  simp only [rowsAt]
  rw [List.zipWith_append h]; rfl

theorem upR_of {σ : List (Nat × Option Nat)} : ∀ {x y : List (List AV)}, x.length = y.length → (∀ (i : Nat) (r q : List AV), x[i]? = some r → y[i]? = some q → upL σ r = some q) → upR σ x = some y
  | [], [], _, _ => rfl
  | [], _ :: _, h, _ => by simp at h
  | _ :: _, [], h, _ => by simp at h
  | a :: x, b :: y, h, hg => by
    have h1 := hg 0 a b rfl rfl
    have h2 := upR_of (x := x) (y := y) (by simpa using h) fun i r q hr hq => hg (i + 1) r q (by simpa using hr) (by simpa using hq)
    simp [upR, h1, h2]
theorem upR_rows {σ0 : List (Nat × Option Nat)} (hlow : (σ0.all fun x => Nat.blt x.1 1000000) = true) {ns lens : List Nat} (h : ns.length = lens.length) : upR (σ0 ++ dynN 0 ns) (rowsAt (idsN lens.length) lens) = some (rowsAt ns lens) := by
  refine upR_of (by rw [rowsAt_length (by rw [idsN_length]), rowsAt_length h]) fun i r q hr hq => ?_
  obtain ⟨x, l, h1, h2, rfl⟩ := rowsAt_get' hr
  obtain ⟨y, l', h3, h4, rfl⟩ := rowsAt_get' hq
  obtain ⟨hk, rfl⟩ := idsN_get' h1
  rw [h2] at h4
  cases h4
  simp [upL, up, find_app, find_lowN hlow (show 1000000 ≤ 1000000 + i by omega), find_dynN0, h3]
theorem rnR_of {σ : List (Nat × Nat)} : ∀ {x y : List (List AV)}, x.length = y.length → (∀ (i : Nat) (r q : List AV), x[i]? = some r → y[i]? = some q → rnL σ r = some q) → rnR σ x = some y
  | [], [], _, _ => rfl
  | [], _ :: _, h, _ => by simp at h
  | _ :: _, [], h, _ => by simp at h
  | a :: x, b :: y, h, hg => by
    have h1 := hg 0 a b rfl rfl
    have h2 := rnR_of (x := x) (y := y) (by simpa using h) fun i r q hr hq => hg (i + 1) r q (by simpa using hr) (by simpa using hq)
    simp [rnR, h1, h2]
theorem rnR_rows {ρ0 : List (Nat × Nat)} (hlow : (ρ0.all fun x => Nat.blt x.1 1000000) = true) {lens : List Nat} : rnR (ρ0 ++ dynI 0 lens.length) (rowsAt (idsN lens.length) lens) = some (rowsAt (idsN lens.length) lens) := by
  refine rnR_of rfl fun i r q hr hq => ?_
  rw [hr] at hq
  cases hq
  obtain ⟨x, l, h1, h2, rfl⟩ := rowsAt_get' hr
  obtain ⟨hk, rfl⟩ := idsN_get' h1
  have : find (dynI 0 lens.length) (1000000 + i) = some (1000000 + i) := by rw [find_dynI, if_pos (by omega)]
  simp [rnL, rn, find_app, find_lowN hlow (show 1000000 ≤ 1000000 + i by omega), this]
theorem dnR_of {τ : List (Nat × Nat)} : ∀ {x : List (List AV)}, (∀ (i : Nat) (r : List AV), x[i]? = some r → dnL τ r = r) → dnR τ x = x
  | [], _ => rfl
  | a :: x, hg => by
    have h1 := hg 0 a rfl
    have h2 := dnR_of (x := x) fun i r hr => hg (i + 1) r (by simpa using hr)
    simp [dnR, h1, h2]

theorem upH_app {σ : List (Nat × Option Nat)} {s : St} : ∀ {a b : List (Nat × Option Ob)}, upH σ s a → upH σ s b → upH σ s (a ++ b)
  | [], b, _, h => h
  | (k, some o) :: a, b, ha, hb => by
    simp only [List.cons_append, upH] at ha ⊢
    exact ⟨ha.1, upH_app ha.2 hb⟩
  | (k, none) :: a, b, ha, hb => by
    simp only [List.cons_append, upH] at ha ⊢
    exact upH_app ha hb
theorem upH_dyn {σ : List (Nat × Option Nat)} {s : St} {e : TypeId} {m : Nat} : ∀ {S : List (List (List D))} {k : Nat}, (∀ (j : Nat) (r : List (List D)), S[j]? = some r → ∃ x o0, find σ (1000000 + (k + j)) = some (some x) ∧ s.obj x = some o0 ∧ o0.elem = e ∧ o0.m = m ∧ o0.rows = dr r) → upH σ s (dyn e m k S)
  | [], k, _ => trivial
  | r :: S, k, h => by
    simp only [dyn, upH]
    obtain ⟨x, o0, h1, h2, h3, h4, h5⟩ := h 0 r rfl
    refine ⟨?_, upH_dyn fun j r' hr => ?_⟩
    · rw [Nat.add_zero] at h1
      rw [h1]
      exact ⟨o0, h2, h3, h4, by rw [h5]; exact upR_dr σ r⟩
    · have := h (j + 1) r' (by simpa using hr)
      rwa [show k + (j + 1) = k + 1 + j by omega] at this
theorem namesOk_app {s' : St} : ∀ {a b : List (Nat × Option Nat)}, namesOk s' a → namesOk s' b → namesOk s' (a ++ b)
  | [], b, _, h => h
  | (k, v) :: a, b, ha, hb => by
    simp only [List.cons_append, namesOk] at ha ⊢
    exact ⟨ha.1, ha.2.1, namesOk_app ha.2.2 hb⟩
theorem namesOk_dyn {s' : St} : ∀ {ns : List Nat} {k : Nat}, (∀ j, j < ns.length → (s'.obj (1000000 + (k + j))).isSome = true ∧ 1000000 + (k + j) < s'.nxt) → namesOk s' (dynN k ns)
  | [], k, _ => trivial
  | x :: r, k, h => by
    simp only [dynN, namesOk]
    have h0 := h 0 (by simp)
    refine ⟨h0.1, h0.2, namesOk_dyn fun j hj => ?_⟩
    have := h (j + 1) (by simpa using hj)
    rwa [show k + (j + 1) = k + 1 + j by omega] at this
theorem olds_app : ∀ (a b : List (Nat × Option Nat)), olds (a ++ b) = olds a ++ olds b
  | [], b => rfl
  | (k, some x) :: a, b => by simp [olds, olds_app a b]
  | (k, none) :: a, b => by simp [olds, olds_app a b]
theorem olds_dyn : ∀ (ns : List Nat) (k : Nat), olds (dynN k ns) = ns
  | [], k => rfl
  | x :: r, k => by simp [dynN, olds, olds_dyn r]

/-- A STATE SEEN AS ANOTHER, with inner slices: ns are the names that they had. -/
theorem weak_dyn {s : St} {n : Nat} {tm : List (Nat × AV)} {nxt : Nat} {e : TypeId} {m : Nat} (σ0 : List (Nat × Option Nat)) (ns : List Nat) (H0 : List (Nat × Option Ob)) (S : List (List (List D)))
    (hlow : (σ0.all fun x => Nat.blt x.1 1000000) = true) (hlow2 : (H0.all fun x => Nat.blt x.1 1000000) = true) (hnx : 1000000 + S.length ≤ nxt) (hlen : ns.length = S.length)
    (hn : n = s.n) (htm : upT (σ0 ++ dynN 0 ns) s tm) (hh : upH (σ0 ++ dynN 0 ns) s H0) (hnm : namesOk ⟨n, tm, H0, nxt⟩ σ0)
    (ho : (olds σ0).Nodup) (hns : ns.Nodup) (hd : ∀ x ∈ ns, x ∉ olds σ0)
    (hS : ∀ (j : Nat) (r : List (List D)) (x : Nat), S[j]? = some r → ns[j]? = some x → s.obj x = some ⟨e, m, dr r⟩) : Weak s ⟨n, tm, H0 ++ dyn e m 0 S, nxt⟩ := by
  have hget : ∀ x, find (σ0 ++ dynN 0 ns) x = (find σ0 x).or (find (dynN 0 ns) x) := fun x => find_app x _ _
  refine weak_of (σ0 ++ dynN 0 ns) hn htm (upH_app hh (upH_dyn fun j r hr => ?_)) (namesOk_app ?_ (namesOk_dyn fun j hj => ?_)) ?_
  · have hj : j < ns.length := by rw [hlen]; exact (List.getElem?_eq_some_iff.1 hr).1
    have hx : ns[j]? = some ns[j] := List.getElem?_eq_getElem hj
    refine ⟨ns[j], _, ?_, hS j r _ hr hx, rfl, rfl, rfl⟩
    rw [hget, find_lowN hlow (by omega), Nat.zero_add, find_dynN0, hx]; rfl
  · have key : ∀ (σ : List (Nat × Option Nat)), namesOk ⟨n, tm, H0, nxt⟩ σ → namesOk ⟨n, tm, H0 ++ dyn e m 0 S, nxt⟩ σ := by
      intro σ
      induction σ with
      | nil => intro _; trivial
      | cons p r ih =>
        obtain ⟨k, v⟩ := p
        intro h
        simp only [namesOk] at h ⊢
        refine ⟨?_, h.2.1, ih h.2.2⟩
        have h1 := h.1
        simp only [St.obj] at h1 ⊢
        rw [find_app]
        cases hf : find H0 k with
        | none => rw [hf] at h1; simp at h1
        | some o => rw [hf] at h1; simpa using h1
    exact key σ0 hnm
  · have hj' : j < S.length := by omega
    refine ⟨?_, by simp only; omega⟩
    simp only [St.obj]
    rw [find_app, find_lowN hlow2 (by omega), Nat.zero_add, find_dyn0, List.getElem?_eq_getElem hj']; rfl
  · rw [olds_app, olds_dyn, List.nodup_append]
    exact ⟨ho, hns, fun a ha b hb hab => hd b hb (hab ▸ ha)⟩

/-- States that say the same. -/
theorem weak_ext {s s' : St} (hn : s'.n = s.n) (h1 : ∀ t, s'.get t = s.get t) (h2 : ∀ x, s'.obj x = s.obj x) (h3 : s.nxt ≤ s'.nxt) : Weak s s' := by
  intro g a w hr
  refine ⟨g, ?_, Step.refl g w⟩
  have := Rel.congr hr h1 h2
  exact ⟨this.defers, by rw [hn]; exact this.size, this.tmp, fun id hu => Nat.lt_of_lt_of_le (this.used id hu) h3, this.heap⟩

theorem fzH_dyn {e : TypeId} {m : Nat} (id : Nat) (rs : List (List D)) : ∀ (S : List (List (List D))) (k : Nat), fzH id rs (dyn e m k S) = dyn e m k S
  | [], k => rfl
  | r :: S, k => by
    have h := fzH_dyn (e := e) (m := m) id rs S (k + 1)
    simp only [dyn, fzH] at h ⊢
    rw [h, fzO, fzR_dr]

/-- The rows of the outer slice, the first k of them plain data. -/
def mixR (S : List (List (List D))) (k : Nat) : List (List AV) := dr ((S.take k).map fun r => [D.sl r]) ++ rowsAt ((idsN S.length).drop k) ((S.map List.length).drop k)
theorem mixR_all (S : List (List (List D))) : mixR S S.length = dr (S.map fun r => [D.sl r]) := by
  have : (idsN S.length).drop S.length = [] := by rw [List.drop_eq_nil_iff]; simp [idsN]
  simp only [mixR, List.take_length, this]
  simp [rowsAt]
theorem mixR_zero (S : List (List (List D))) : mixR S 0 = rowsAt (idsN S.length) (S.map List.length) := by simp [mixR, dr]
theorem fzR_appA (id : Nat) (rs : List (List D)) : ∀ (a b : List (List AV)), fzR id rs (a ++ b) = fzR id rs a ++ fzR id rs b
  | [], b => rfl
  | x :: a, b => by simp only [List.cons_append, fzR, fzR_appA id rs a b]
theorem fzR_keep (id : Nat) (rs : List (List D)) : ∀ {x : List (List AV)}, (∀ (i : Nat) (r : List AV), x[i]? = some r → fzL id rs r = r) → fzR id rs x = x
  | [], _ => rfl
  | a :: x, hg => by
    have h1 := hg 0 a rfl
    have h2 := fzR_keep id rs (x := x) fun i r hr => hg (i + 1) r (by simpa using hr)
    simp [fzR, h1, h2]
theorem mixR_step {S : List (List (List D))} {k : Nat} {r : List (List D)} (h : S[k]? = some r) : fzR (1000000 + k) r (mixR S k) = mixR S (k + 1) := by
  have hk : k < S.length := (List.getElem?_eq_some_iff.1 h).1
  have h1 : (idsN S.length).drop k = (1000000 + k) :: (idsN S.length).drop (k + 1) := by
    rw [List.drop_eq_getElem_cons (by rw [idsN_length]; exact hk)]
    congr 1
    have := idsN_get hk
    rw [List.getElem?_eq_getElem (by rw [idsN_length]; exact hk)] at this
    exact Option.some.inj this
  have h2 : (S.map List.length).drop k = r.length :: (S.map List.length).drop (k + 1) := by
    rw [List.drop_eq_getElem_cons (by simpa using hk)]
    congr 1
    rw [List.getElem_map]
    rw [List.getElem?_eq_getElem hk] at h
    rw [Option.some.inj h]
  have h3 : S.take (k + 1) = S.take k ++ [r] := by rw [List.take_add_one, h]; rfl
  unfold mixR
  rw [h1, h2, h3, fzR_appA, fzR_dr, List.map_append, List.map_cons, List.map_nil]
  rw [show rowsAt ((1000000 + k) :: (idsN S.length).drop (k + 1)) (r.length :: (S.map List.length).drop (k + 1)) = [AV.hs (1000000 + k) 0 r.length] :: rowsAt ((idsN S.length).drop (k + 1)) ((S.map List.length).drop (k + 1)) from rfl]
  simp only [fzR]
  rw [fzR_keep]
  · simp [fzL, fz, dr]
  · intro i q hq
    obtain ⟨x, l, q1, q2, rfl⟩ := rowsAt_get' hq
    rw [List.getElem?_drop] at q1
    obtain ⟨_, rfl⟩ := idsN_get' q1
    simp only [fzL, fz]
    rw [if_neg (by omega)]

/-- Nothing but data, the outer slice and what is not looked at. -/
def tmLow : List (Nat × AV) → Bool
  | [] => true
  | (_, .d _) :: r => tmLow r
  | (_, .any) :: r => tmLow r
  | (_, .nl) :: r => tmLow r
  | (_, .hs i _ _) :: r => Nat.blt i 1000000 && tmLow r
  | (_, .ptr i _ _) :: r => Nat.blt i 1000000 && tmLow r
  | _ :: _ => false
theorem fzT_low {id : Nat} (hid : 1000000 ≤ id) (rs : List (List D)) : ∀ {tm : List (Nat × AV)}, tmLow tm = true → fzT id rs tm = tm
  | [], _ => rfl
  | (t, v) :: r, h => by
    cases v <;> simp only [tmLow, Bool.and_eq_true] at h <;> try (cases h; done)
    all_goals simp only [fzT, fz]
    case any => rw [fzT_low hid rs h]
    case nl => rw [fzT_low hid rs h]
    case d => rw [fzT_low hid rs h]
    case hs =>
      have h1 : _ < 1000000 := Nat.le_of_ble_eq_true h.1
      rw [fzT_low hid rs h.2, if_neg (by omega)]
    case ptr =>
      have h1 : _ < 1000000 := Nat.le_of_ble_eq_true h.1
      rw [fzT_low hid rs h.2, if_neg (by omega)]

/-- All inner slices become plain data. -/
theorem weak_fzdyn {n : Nat} {tm : List (Nat × AV)} {nxt id eo mo : Nat} {e : TypeId} {m : Nat} (hid : id < 1000000) (htm : tmLow tm = true) (S : List (List (List D))) :
    Weak ⟨n, tm, (id, some ⟨eo, mo, rowsAt (idsN S.length) (S.map List.length)⟩) :: dyn e m 0 S, nxt⟩ ⟨n, tm, [(id, some ⟨eo, mo, dr (S.map fun r => [D.sl r])⟩)], nxt⟩ := by
  have step : ∀ k, k ≤ S.length → Weak ⟨n, tm, (id, some ⟨eo, mo, mixR S 0⟩) :: dyn e m 0 S, nxt⟩ ⟨n, tm, (id, some ⟨eo, mo, mixR S k⟩) :: dyn e m k (S.drop k), nxt⟩ := by
    intro k
    induction k with
    | zero => intro _; exact Weak.refl _
    | succ k ih =>
      intro hk
      refine Weak.trans (ih (by omega)) ?_
      have hr : S[k]? = some S[k] := List.getElem?_eq_getElem (by omega)
      have hdk : S.drop k = S[k] :: S.drop (k + 1) := List.drop_eq_getElem_cons (by omega)
      rw [hdk]
      simp only [dyn]
      refine Weak.trans (weak_freeze (1000000 + k) S[k] (o := ⟨e, m, dr S[k]⟩) (by simp only [St.obj, find]; rw [if_neg (by omega)]; simp) (rowsD_dr _)) ?_
      refine weak_ext rfl (fun t => ?_) (fun x => ?_) (Nat.le_refl _)
      · simp only [St.get, St.fz]; rw [fzT_low (by omega) _ htm]
      · simp only [St.obj, St.fz, fzH, fzO, find, mixR_step hr, fzH_dyn, find_dyn]
        by_cases h1 : id = x
        · subst h1; rw [if_pos rfl, if_neg (by omega), if_pos rfl]
        · rw [if_neg h1, if_neg h1]
          by_cases h2 : 1000000 + k = x
          · subst h2; rw [if_pos rfl, if_neg (by omega)]; rfl
          · rw [if_neg h2, if_neg h2]
  have h := step S.length (Nat.le_refl _)
  rw [mixR_zero, mixR_all, List.drop_length] at h
  exact h

/-! ### A region whose order is drawn, its orders gone through one by one; its last operations: a call that makes inner slices, and what follows it. -/
inductive Tr where
  | leaf
  | stop
  | alt (i : Nat) (t u : Tr)
def Tr.heads : Tr → List Nat
  | .alt i _ u => i :: u.heads
  | _ => []
def seqOk (ops : Array Oper) : Nat → Array Bool → Nat → Bool
  | 0, listed, k => (Region.ready .any ops listed).isEmpty
  | f + 1, listed, k => decide (Region.ready .any ops listed = [k]) && seqOk ops f (listed.setIfInBounds k true) (k + 1)
def trOk (ops : Array Oper) (d m : Nat) : Bool → Nat → Array Bool → Tr → Bool
  | top, fuel, listed, .leaf => top && decide (fuel = m) && seqOk ops m listed d
  | top, fuel, listed, .stop => !top
  | top, f + 1, listed, .alt i t u => (!top || decide (Region.ready .any ops listed = i :: u.heads)) && trOk ops d m true f (listed.setIfInBounds i true) t && trOk ops d m false (f + 1) listed u
  | _, 0, _, .alt _ _ _ => false

theorem seqOk_any {P : Program} {ops : Array Oper} {Q : Exit → Act → World → Prop} : ∀ (f : Nat) (listed : Array Bool) (k : Nat) (a : Act) (w : World), seqOk ops f listed k = true → wpOps P ops Q (List.range' k f) a w → wpAny P .any ops Q f listed a w
  | 0, listed, k, a, w, h, hw => by
    simp only [seqOk, List.isEmpty_iff] at h
    exact ⟨h, by simpa [wpOps] using hw⟩
  | f + 1, listed, k, a, w, h, hw => by
    simp only [seqOk, Bool.and_eq_true, decide_eq_true_eq] at h
    refine ⟨fun hn => (by rw [h.1] at hn; cases hn), fun i hi => ?_⟩
    rw [h.1] at hi
    simp only [List.mem_singleton] at hi
    subst hi
    rw [List.range'_succ, wpOps_cons] at hw
    exact wpOp_mono (fun a w hh => seqOk_any f _ _ a w h.2 hh) hw

section
variable (ty : TypeId → Option TI) (P : Program) (orc : List (Nat × Res)) (l : List Oper)
def stepE (i : Nat) (s : St) (K : St → Prop) : Prop :=
  match l[i]? with
  | some o => o.guard = none ∧ (match eff ty P (find orc i) o.op s.obj s.nxt (o.op.operands.toList.map s.eval) with
    | some e => e.ob ∧ (match o.dst with | some d => d < s.n | none => True) ∧ K { s.app o.dst e with nxt := s.nxt + 1 }
    | none => False)
  | none => False
def wpTr : Tr → St → (St → Prop) → Prop
  | .leaf, s, K => K s
  | .stop, _, _ => True
  | .alt i t u, s, K => stepE ty P orc l i s (fun s' => wpTr t s' K) ∧ wpTr u s K
end

theorem wpTr_sound {P : Program} {ty : TypeId → Option TI} (hc : Ctx P ty) {orc : List (Nat × Res)} {l : List Oper} {d m : Nat} {Q : Exit → Act → World → Prop} {K : St → Prop} {g0 : G} {w0 : World}
    (hQ : ∀ s g a w, RelS s g a w → Step g0 w0 g w → K s → wpOps P l.toArray Q (List.range' d m) a w) :
    ∀ (T : Tr) (top : Bool) (fuel : Nat) (listed : Array Bool) (s : St) (g : G) (a : Act) (w : World), trOk l.toArray d m top fuel listed T = true → RelS s g a w → Step g0 w0 g w → wpTr ty P orc l T s K →
      (top = true → wpAny P .any l.toArray Q fuel listed a w) ∧ (top = false → ∀ i ∈ T.heads, ∃ f, fuel = f + 1 ∧ wpOp P l.toArray Q i (wpAny P .any l.toArray Q f (listed.setIfInBounds i true)) a w)
  | .leaf, top, fuel, listed, s, g, a, w, h, hr, hs, hk => by
    simp only [trOk, Bool.and_eq_true, decide_eq_true_eq] at h
    obtain ⟨⟨h1, h2⟩, h3⟩ := h
    subst h2
    exact ⟨fun _ => seqOk_any fuel listed d a w h3 (hQ s g a w hr hs hk), fun h => by rw [h1] at h; cases h⟩
  | .stop, top, fuel, listed, s, g, a, w, h, hr, hs, hk => by
    simp only [trOk, Bool.not_eq_true'] at h
    exact ⟨fun h' => (by rw [h] at h'; cases h'), fun _ i hi => by simp [Tr.heads] at hi⟩
  | .alt i t u, top, 0, listed, s, g, a, w, h, hr, hs, hk => by simp [trOk] at h
  | .alt i t u, top, f + 1, listed, s, g, a, w, h, hr, hs, hk => by
    simp only [trOk, Bool.and_eq_true] at h
    obtain ⟨⟨h1, h2⟩, h3⟩ := h
    simp only [wpTr] at hk
    obtain ⟨k1, k2⟩ := hk
    have hu := (wpTr_sound hc hQ u false (f + 1) listed s g a w h3 hr hs k2).2 rfl
    have hi : wpOp P l.toArray Q i (wpAny P .any l.toArray Q f (listed.setIfInBounds i true)) a w := by
      unfold stepE at k1
      split at k1
      · rename_i o ho
        obtain ⟨hg, k1⟩ := k1
        split at k1
        · rename_i e he
          obtain ⟨hob, hd, k1⟩ := k1
          have ho' : l.toArray[i]? = some o := by simpa using ho
          unfold wpOp
          rw [ho']
          simp only
          rw [if_pos (by simp [Region.wanted, hg])]
          left
          have hargs : RepAs g w (o.op.operands.toList.map s.eval) (o.op.operands.toList.map a.eval) := by
            refine RepAs.of_get (by simp) fun j av hj => ?_
            rw [List.getElem?_map] at hj ⊢
            cases hx : o.op.operands.toList[j]? with
            | none => rw [hx] at hj; cases hj
            | some x => rw [hx] at hj; cases hj; exact ⟨a.eval x, rfl, eval_rep hr (fun _ => rfl) x⟩
          refine op_step hc (nid := s.nxt) hr (by simp) hargs he hob (fun d' hd' => by rw [hd'] at hd; exact hd) fun g' a' w' hr' hs' => ?_
          refine (wpTr_sound hc hQ t true f _ { s.app o.dst e with nxt := s.nxt + 1 } g' a' w' h2 ?_ (hs.trans hs') k1).1 rfl
          have hn : (s.app o.dst e).n = s.n := by unfold St.app St.put; cases o.dst <;> rfl
          have hcg := hr'.congr (get' := (s.app o.dst e).get) (obj' := (s.app o.dst e).obj) (fun t => app_get s o.dst e t) (fun id => app_obj s o.dst e id)
          exact ⟨hcg.defers, by show a'.tmps.size = (s.app o.dst e).n; rw [hn]; exact hcg.size, hcg.tmp, fun k hk => by
            show k < s.nxt + 1
            rcases hcg.used k hk with hh | hh <;> omega, hcg.heap⟩
        · exact k1.elim
      · exact k1.elim
    refine ⟨fun ht => ⟨fun hn => ?_, fun j hj => ?_⟩, fun _ j hj => ?_⟩
    · rw [ht] at h1
      simp only [Bool.not_true, Bool.false_or, decide_eq_true_eq] at h1
      rw [h1] at hn; cases hn
    · rw [ht] at h1
      simp only [Bool.not_true, Bool.false_or, decide_eq_true_eq] at h1
      rw [h1] at hj
      rcases List.mem_cons.1 hj with rfl | hj
      · exact hi
      · obtain ⟨f', e1, e2⟩ := hu j hj
        cases e1; exact e2
    · rcases List.mem_cons.1 hj with rfl | hj
      · exact ⟨f, rfl, hi⟩
      · exact hu j hj

theorem nodupB_of : ∀ {l : List Nat}, l.Nodup → nodupB l = true
  | [], _ => rfl
  | a :: r, h => by
    have h' := List.nodup_cons.1 h
    simp only [nodupB, Bool.and_eq_true, List.all_eq_true, Bool.not_eq_true']
    refine ⟨fun b hb => ?_, nodupB_of h'.2⟩
    cases hab : Nat.beq a b with
    | false => rfl
    | true => exact absurd (Nat.eq_of_beq_eq_true hab ▸ hb) h'.1
theorem dynI_fst : ∀ (n k : Nat), (dynI k n).map (·.1) = List.range' (1000000 + k) n
  | 0, k => rfl
  | n + 1, k => by simp [dynI, dynI_fst n (k + 1), List.range'_succ]; omega
theorem dynI_snd : ∀ (n k : Nat), (dynI k n).map (·.2) = List.range' (1000000 + k) n
  | 0, k => rfl
  | n + 1, k => by simp [dynI, dynI_snd n (k + 1), List.range'_succ]; omega
theorem dynI_swp : ∀ (n k : Nat), swp (dynI k n) = dynI k n
  | 0, k => rfl
  | n + 1, k => by simp [dynI, swp, dynI_swp n (k + 1)]
theorem dynP_fst {e : TypeId} {m : Nat} : ∀ (S : List (List (List D))) (k : Nat), (dynP e m k S).map (·.1) = List.range' (1000000 + k) S.length
  | [], k => rfl
  | r :: S, k => by simp [dynP, dynP_fst S (k + 1), List.range'_succ]; omega
theorem fresh_dyn {lo n : Nat} (hlo : lo ≤ 999999) (hn : n ≤ 1000000000) : ∀ (j k : Nat), k + j ≤ n → freshOk lo 1000000000000 (dynI k j)
  | 0, k, _ => trivial
  | j + 1, k, h => ⟨by omega, fresh_dyn hlo hn j (k + 1) (by omega)⟩

/-- The contract's objects: an outer slice and its inner ones. -/
def nestP (eo e m : Nat) (S : List (List (List D))) : List (Nat × Ob) := (0, ⟨eo, 1, rowsAt (idsN S.length) (S.map List.length)⟩) :: dynP e m 0 S
def nestH (eo e m : Nat) (S : List (List (List D))) : List (Nat × Option Ob) := (999999, some ⟨eo, 1, rowsAt (idsN S.length) (S.map List.length)⟩) :: dyn e m 0 S

theorem nest_ob {eo e m : Nat} {S : List (List (List D))} {obj : Nat → Option Ob} (x : Nat) : updL obj (gone [] ++ back (swp ((999999, 0) :: dynI 0 S.length)) (nestP eo e m S) ((999999, 0) :: dynI 0 S.length)) x = (find (nestH eo e m S) x).getD (obj x) := by
  have hsw : swp ((999999, 0) :: dynI 0 S.length) = [(0, 999999)] ++ dynI 0 S.length := by simp [swp, dynI_swp]
  rw [show (gone [] : List (Nat × Option Ob)) = [] from rfl, List.nil_append, updL_get (by
    rw [back_keys, List.map_cons, dynI_fst]
    refine List.nodup_cons.2 ⟨fun h => ?_, List.nodup_range'⟩
    obtain ⟨_, h1, h2⟩ := List.mem_range'.1 h
    omega), back_find]
  congr 1
  simp only [nestH, nestP, find]
  by_cases h0 : 999999 = x
  · subst h0
    rw [if_pos rfl, if_pos rfl]
    simp only [Option.map_some, if_true]
    congr 2
    have : dnR (swp ((999999, 0) :: dynI 0 S.length)) (rowsAt (idsN S.length) (S.map List.length)) = rowsAt (idsN S.length) (S.map List.length) := by
      refine dnR_of fun i r hr => ?_
      obtain ⟨x, l, h1, h2, rfl⟩ := rowsAt_get' hr
      obtain ⟨hk, rfl⟩ := idsN_get' h1
      have hf : find (dynI 0 S.length) (1000000 + i) = some (1000000 + i) := by rw [find_dynI, if_pos (by omega)]
      have hf2 : find (swp ((999999, 0) :: dynI 0 S.length)) (1000000 + i) = some (1000000 + i) := by
        rw [hsw]; simp only [List.cons_append, List.nil_append, find]; rw [if_neg (by omega), hf]
      simp only [dnL, dn, hf2]
    rw [this]
  · rw [if_neg h0, if_neg h0, find_dynI, find_dyn]
    by_cases h1 : 1000000 + 0 ≤ x ∧ x < 1000000 + 0 + S.length
    · rw [if_pos h1, if_pos h1.1]
      have hlt : x - (1000000 + 0) < S.length := by omega
      rw [List.getElem?_eq_getElem hlt]
      simp only [Option.map_some]
      rw [if_neg (by omega), find_dynP, if_pos h1.1, List.getElem?_eq_getElem hlt]
      simp only [Option.map_some, dnR_dr]
    · rw [if_neg h1]
      by_cases h2 : 1000000 + 0 ≤ x
      · rw [if_pos h2, List.getElem?_eq_none (by omega)]; rfl
      · rw [if_neg h2]; rfl

theorem wpOps_range {P : Program} {l pre post : List Oper} {o : Oper} (hl : l = pre ++ o :: post) {Q : Exit → Act → World → Prop} {a : Act} {w : World} (h : wpOp P l.toArray Q pre.length (fun a' w' => wpList P l.toArray Q post a' w') a w) : wpOps P l.toArray Q (List.range' pre.length (post.length + 1)) a w := by
  rw [List.range'_succ, wpOps_cons]
  refine wpOp_mono (fun a' w' hh => ?_) h
  rw [wpOps_eq_wpList post (pre.length + 1) (fun j => by simp [hl, show pre.length + 1 + j = pre.length + (1 + j) by omega, List.getElem?_append_right, Nat.add_comm 1 j])]
  exact hh

section
variable {P : Program} {ty : TypeId → Option TI} {orc : List (Nat × Res)} {l pre post : List Oper} {o : Oper} {cl : Call} {fo : Operand} {I s1 : St} {f : FuncId} {caps av : List AV} {eo e m : Nat} {S : List (List (List D))} {Q : Exit → St → Prop} {g g1 : G} {w w1 : World} {a1 : Act}
/-- The call itself, and what follows it. -/
theorem dyn_core (hc : Ctx P ty) (hl : l = pre ++ o :: post) (ho : o.op = .call cl) (hcal : cl.callee = .value fo) (hf : calleeA (I.eval fo) = some (f, caps))
    (hpx : PX P f av [] [] (nestP eo e m S) (.hs 0 0 S.length)) (hS : S.length ≤ 1000000000) (has : rnsOk [] av (cl.args.toList.map I.eval ++ caps)) (hnx : I.nxt ≤ 999999) (hd : match o.dst with | some d => d < I.n | none => True)
    (h2 : ∀ K : St → Prop, (∀ s', Q .normal s' → K s') → wpT ty P orc (l.map (·.dst)) 1000000000000 0 post { (I.put o.dst (.hs 999999 0 S.length)) with hp := nestH eo e m S ++ I.hp, nxt := 1000000000000 + post.length } K)
    (hr1 : RelS s1 g1 a1 w1) (hs1 : Step g w g1 w1) (hw1 : Weak s1 I) : o.wp P a1 w1 (fun a' w' => wpList P l.toArray (fun e a' w' => ∃ s' g', RelS s' g' a' w' ∧ Step g w g' w' ∧ Q e s') post a' w') (fun e a' w' => ∃ s' g', RelS s' g' a' w' ∧ Step g w g' w' ∧ Q e s') := by
  have hgs : ∀ j : Nat, (l.map (·.dst))[j]? = (l.toArray[j]?).map fun o : Oper => o.dst := by intro j; simp
  obtain ⟨g2, hr2, hs2⟩ := hw1 g1 a1 w1 hr1
  have hev : ∀ x : Operand, RepA g2 w1 (I.eval x) (a1.eval x) := fun x => eval_rep hr2 (fun _ => rfl) x
  have hargs : RepAs g2 w1 (cl.args.toList.map I.eval) (cl.args.toList.map a1.eval) := by
    refine RepAs.of_get (by simp) fun j av hj => ?_
    rw [List.getElem?_map] at hj ⊢
    cases hx : cl.args.toList[j]? with
    | none => rw [hx] at hj; cases hj
    | some x => rw [hx] at hj; cases hj; exact ⟨a1.eval x, rfl, hev x⟩
  have hfv : ∃ cs : List Value, a1.eval fo = .func (.func f) #[] cs.toArray ∧ RepAs g2 w1 caps cs := by
    have hfv := hev fo
    unfold calleeA at hf
    split at hf
    · rename_i heq
      cases hf
      rw [heq] at hfv
      simp only [RepA, RepD] at hfv
      obtain ⟨cs, h1, h2⟩ := hfv
      exact ⟨cs, h1, RepAs.of_ds h2⟩
    · rename_i heq
      cases hf
      rw [heq] at hfv
      simp only [RepA] at hfv
      exact hfv
    · cases hf
  obtain ⟨cs, hcs, hrc⟩ := hfv
  obtain ⟨fn, hfn, hname, hbody⟩ := hpx.1
  have hrun : (execOp a1.eval o).run P w1 = .ok (.enter f ((cl.args.toList.map a1.eval) ++ cs).toArray) w1 := by
    unfold execOp
    simp only [ho, resolve, hcal, Deferred.ofValue, hcs, Sem.run_bind, Sem.run_pure, Result.andThen_ok, invoke, callFunc, run_program, hfn, hname, hbody, Bool.false_eq_true, if_false]
    congr 2
    simp
  have hkeys : ∀ x j, find ((999999, 0) :: dynI 0 S.length) x = some j → 999999 ≤ x ∧ x < 1000000000000 := by
    intro x j hx
    simp only [find] at hx
    split at hx
    · rename_i e0; omega
    · rw [find_dynI] at hx
      split at hx
      · omega
      · cases hx
  have hob : (effY P f ⟨[], av, [], [], none, nestP eo e m S, .hs 0 0 S.length⟩ ((999999, 0) :: dynI 0 S.length) I.obj (cl.args.toList.map I.eval ++ caps)).ob := by
    refine ⟨⟨has, trivial, rfl, rfl, ?_, ?_⟩, hpx⟩
    · refine nodupB_of ?_
      rw [List.map_cons, dynI_fst]
      refine List.nodup_cons.2 ⟨fun h => ?_, List.nodup_range'⟩
      obtain ⟨_, h1, h2⟩ := List.mem_range'.1 h
      omega
    · refine nodupB_of ?_
      rw [List.map_cons, dynI_snd]
      refine List.nodup_cons.2 ⟨fun h => ?_, List.nodup_range'⟩
      obtain ⟨_, h1, h2⟩ := List.mem_range'.1 h
      omega
  have hys := y_sound (N := fun x => 999999 ≤ x ∧ x < 1000000000000) hr2.heap (fun x hx hu => by have h3 : x < I.nxt := hr2.used x hu; omega) (c := ⟨[], av, [], [], none, nestP eo e m S, .hs 0 0 S.length⟩) (ti := (999999, 0) :: dynI 0 S.length) (fun x j hx => .inl (hkeys x j hx)) (hargs.append hrc) hob
  refine does_calls hrun hys _ _ fun v w2 hA => ?_
  obtain ⟨g3, k1, k2, k3, k4, k5⟩ := hA
  have hval : (effY P f ⟨[], av, [], [], none, nestP eo e m S, .hs 0 0 S.length⟩ ((999999, 0) :: dynI 0 S.length) I.obj (cl.args.toList.map I.eval ++ caps)).val = .hs 999999 0 S.length := by
    simp [effY, dn, swp, find]
  have hput := rel_put (U' := fun x => x < 1000000000000 + 0) (dst := o.dst) hr2 k1 k3 (fun x hx => by
    rcases k4 x hx with hx | hx
    · have h3 : x < I.nxt := hr2.used x hx
      omega
    · omega) k5 (fun d hd' => by rw [hd'] at hd; exact hd)
  rw [hval] at hput
  have hn : ({ (I.put o.dst (.hs 999999 0 S.length)) with hp := nestH eo e m S ++ I.hp, nxt := 1000000000000 + post.length } : St).n = I.n := by unfold St.put; cases o.dst <;> rfl
  refine wpT_sound (P := P) hc (orc := orc) (gs := l.map (·.dst)) (ops := l.toArray) hgs (base := 1000000000000) (nxt := 1000000000000 + post.length) (K := fun s' => Q .normal s') (g0 := g) (w0 := w)
    (fun s' g' a' w' h1 h2 h3 => ⟨s', g', h1, h2, h3⟩) post 0 _ g3 _ w2 (by omega) rfl ?_ ((hs1.trans hs2).trans k2) (h2 _ fun _ hq => hq)
  rw [hn]
  refine hput.congr (fun t => ?_) fun x => ?_
  · rw [← St.get_put]
    unfold St.get St.put; cases o.dst <;> rfl
  · have hb := nest_ob (eo := eo) (e := e) (m := m) (S := S) (obj := I.obj) x
    simp only [effY]
    rw [hb]
    simp only [St.obj]
    rw [find_app]
    cases find (nestH eo e m S) x <;> rfl
end

/-- A REGION, its order drawn, that ends with a call which makes inner slices. -/
theorem awp_region_dyn {P : Program} {ty : TypeId → Option TI} (hc : Ctx P ty) (hm : P.follows .mixedOrders = true) (orc : List (Nat × Res)) {id : Nat} {l : List Oper} (pre post : List Oper) (o : Oper) (hl : l = pre ++ o :: post) (hg : o.guard = none) {cl : Call} {fo : Operand} (ho : o.op = .call cl) (hcal : cl.callee = .value fo)
    (T : Tr) (hT : trOk l.toArray pre.length (post.length + 1) true l.length (Array.replicate l.length false) T = true) (I : St) (f : FuncId) (caps : List AV) (hf : calleeA (I.eval fo) = some (f, caps)) (av : List AV) (eo e m : Nat) (S : List (List (List D)))
    (hpx : PX P f av [] [] (nestP eo e m S) (.hs 0 0 S.length)) (hS : S.length ≤ 1000000000) (has : rnsOk [] av (cl.args.toList.map I.eval ++ caps)) (hnx : I.nxt ≤ 999999) (hd : match o.dst with | some d => d < I.n | none => True) {Q : Exit → St → Prop} {s : St}
    (h1 : ∀ K : St → Prop, (∀ s', Weak s' I → K s') → wpTr ty P orc l T s K)
    (h2 : ∀ K : St → Prop, (∀ s', Q .normal s' → K s') → wpT ty P orc (l.map (·.dst)) 1000000000000 0 post { (I.put o.dst (.hs 999999 0 S.length)) with hp := nestH eo e m S ++ I.hp, nxt := 1000000000000 + post.length } K) : AWp P (.region id l.toArray true) Q s := by
  intro g a w hr
  refine wp_region_any hm ?_
  obtain ⟨d1, d2, d3⟩ := hr.heap.idle (w' := { w with drawn := w.drawn + 1 }) ⟨rfl, ⟨rfl, Nat.le_succ _⟩, rfl, Nat.le_refl _, fun _ _ => rfl⟩
  have hr' : RelS s g a { w with drawn := w.drawn + 1 } := ⟨hr.defers, hr.size, fun t => RepA.later d3 _ _ (hr.tmp t), hr.used, d1⟩
  have hsz : l.toArray.size = l.length := by simp
  rw [hsz]
  refine (wpTr_sound hc (orc := orc) (d := pre.length) (m := post.length + 1) (K := fun s' => Weak s' I) (g0 := g) (w0 := w) ?_ T true l.length (Array.replicate l.length false) s g a _ hT hr' d2 (h1 _ fun _ hq => hq)).1 rfl
  intro s1 g1 a1 w1 hr1 hs1 hw1
  refine wpOps_range hl ?_
  unfold wpOp
  have hlo : l.toArray[pre.length]? = some o := by simp [hl]
  rw [hlo]
  simp only
  rw [if_pos (by simp [Region.wanted, hg])]
  left
  exact dyn_core hc hl ho hcal hf hpx hS has hnx hd h2 hr1 hs1 hw1

/-- The same in the text's order. -/
theorem awp_region_dynT {P : Program} {ty : TypeId → Option TI} (hc : Ctx P ty) (orc : List (Nat × Res)) {id : Nat} {l : List Oper} (pre post : List Oper) (o : Oper) (hl : l = pre ++ o :: post) (hg : o.guard = none) {cl : Call} {fo : Operand} (ho : o.op = .call cl) (hcal : cl.callee = .value fo)
    (I : St) (f : FuncId) (caps : List AV) (hf : calleeA (I.eval fo) = some (f, caps)) (av : List AV) (eo e m : Nat) (S : List (List (List D)))
    (hpx : PX P f av [] [] (nestP eo e m S) (.hs 0 0 S.length)) (hS : S.length ≤ 1000000000) (has : rnsOk [] av (cl.args.toList.map I.eval ++ caps)) (hnx : I.nxt ≤ 999999) (hd : match o.dst with | some d => d < I.n | none => True) {Q : Exit → St → Prop} {s : St}
    (h1 : ∀ K : St → Prop, (∀ s', Weak s' I → K s') → wpT ty P orc (l.map (·.dst)) s.nxt 0 pre { s with nxt := s.nxt + l.length } K)
    (h2 : ∀ K : St → Prop, (∀ s', Q .normal s' → K s') → wpT ty P orc (l.map (·.dst)) 1000000000000 0 post { (I.put o.dst (.hs 999999 0 S.length)) with hp := nestH eo e m S ++ I.hp, nxt := 1000000000000 + post.length } K) : AWp P (.region id l.toArray false) Q s := by
  intro g a w hr
  refine wp_region ?_
  have hgs : ∀ j : Nat, (l.map (·.dst))[j]? = (l.toArray[j]?).map fun o : Oper => o.dst := by intro j; simp
  have hlen : l.length = pre.length + 1 + post.length := by rw [hl]; simp; omega
  have key : wpList P l.toArray (fun e a' w' => ∃ s' g', RelS s' g' a' w' ∧ Step g w g' w' ∧ Q e s') l a w := by
    have h3 := wpT_sound2 (P := P) hc (orc := orc) (gs := l.map (·.dst)) (ops := l.toArray) hgs (base := s.nxt) (nxt := s.nxt + l.length)
      (Q := fun e a' w' => ∃ s' g', RelS s' g' a' w' ∧ Step g w g' w' ∧ Q e s') (g0 := g) (w0 := w) (l2 := o :: post) (en := pre.length) (n0 := s.n) (K := fun s1 => Weak s1 I) ?_ pre 0 { s with nxt := s.nxt + l.length } g a w (by simp) rfl rfl ⟨hr.defers, hr.size, hr.tmp, fun id hu => by have := hr.used id hu; simpa using this, hr.heap⟩ (Step.refl g w) (h1 _ fun _ hq => hq)
    · rw [← hl] at h3; exact h3
    · intro s1 g1 a1 w1 hnx1 hn0 hrel hst hk
      simp only [wpList]
      rw [if_pos (by simp [Region.wanted, hg])]
      left
      have hr1 : RelS s1 g1 a1 w1 := ⟨hrel.defers, hrel.size, hrel.tmp, fun id hu => by have := hrel.used id hu; show id < s1.nxt; rw [hnx1]; omega, hrel.heap⟩
      exact dyn_core hc hl ho hcal hf hpx hS has hnx hd h2 hr1 hst hk
  have := wpOps_eq_wpList (P := P) (ops := l.toArray) (Q := fun e a' w' => ∃ s' g', RelS s' g' a' w' ∧ Step g w g' w' ∧ Q e s') l 0 (by intro j; simp)
  rw [show List.range l.toArray.size = List.range' 0 l.length by simp [List.range_eq_range'], this]
  exact key

/-- The end of a function that hands back an outer slice. -/
theorem rx_nest {ty : TypeId → Option TI} {rs : List ResultVar} {n : Nat} {Ls : Nat → Loc} {s : St} {eo e m idO : Nat} {S : List (List (List D))} {rows : List (List AV)} (hid : idO < 1000000) (hl : resAs ty s rs = some [.hs idO 0 S.length]) (hO : s.obj idO = some ⟨eo, 1, rows⟩) (hrows : rows = rowsAt (idsN S.length) (S.map List.length))
    (hS : ∀ (j : Nat) (r : List (List D)), S[j]? = some r → s.obj (1000000 + j) = some ⟨e, m, dr r⟩) : retX ty rs n [] (nestP eo e m S) (.hs 0 0 S.length) Ls .ret s := by
  subst hrows
  refine rx_r ([(0, idO)] ++ dynI 0 S.length) ?_
  rw [hl]
  have hlen : (S.map List.length).length = S.length := by simp
  refine ⟨by simp [rnsOk, rn, oneOf, find], ?_, ?_, ?_, trivial⟩
  · simp only [nestP, hpOk]
    refine ⟨?_, ?_⟩
    · simp only [List.cons_append, find, if_true, hO]
      refine ⟨trivial, trivial, ?_⟩
      have := rnR_rows (ρ0 := [(0, idO)]) rfl (lens := S.map List.length)
      rw [hlen] at this
      exact this
    · have key : ∀ (T : List (List (List D))) (k : Nat), (∀ j r, T[j]? = some r → s.obj (1000000 + (k + j)) = some ⟨e, m, dr r⟩) → k + T.length ≤ S.length → hpOk s.obj ([(0, idO)] ++ dynI 0 S.length) (dynP e m k T) := by
        intro T
        induction T with
        | nil => intro k _ _; trivial
        | cons r T ih =>
          intro k hk hle
          simp only [List.length_cons] at hle
          simp only [dynP, hpOk]
          refine ⟨?_, ih (k + 1) (fun j r' hr => by have := hk (j + 1) r' (by simpa using hr); rwa [show k + (j + 1) = k + 1 + j by omega] at this) (by omega)⟩
          have hf : find ([(0, idO)] ++ dynI 0 S.length) (1000000 + k) = some (1000000 + k) := by
            simp only [List.cons_append, List.nil_append, find]
            rw [if_neg (by omega), find_dynI, if_pos (by omega)]
          have h0 := hk 0 r rfl
          rw [hf]
          simp only [Nat.add_zero] at h0
          simp only [h0]
          exact ⟨trivial, trivial, rnR_dr _ _⟩
      exact key S 0 (fun j r hr => by rw [Nat.zero_add]; exact hS j r hr) (by omega)
  · refine nodupB_of ?_
    rw [List.map_append, dynI_snd]
    simp only [List.map_cons, List.map_nil, List.cons_append, List.nil_append]
    refine List.nodup_cons.2 ⟨fun h => ?_, List.nodup_range'⟩
    obtain ⟨_, h1, h2⟩ := List.mem_range'.1 h
    omega
  · simp only [nestP, List.map_append, List.map_cons, List.map_nil, dynI_fst, dynP_fst]; rfl
end Go.Abs

set_option linter.unusedVariables false
set_option linter.unusedSimpArgs false
set_option maxRecDepth 100000
namespace Go.Proofs.Ytknelhiejjdioaa
open Go.Abs

def spD (L : List (List Cell)) : List (List (List D)) := L.map fun l => l.map Cell.row
theorem spD_length (L : List (List Cell)) : (spD L).length = L.length := by simp [spD]
theorem spD_lens (L : List (List Cell)) : (spD L).map List.length = L.map List.length := by simp [spD, Function.comp_def]
theorem spD_app (L K : List (List Cell)) : spD (L ++ K) = spD L ++ spD K := by simp [spD]
/-- The outer slice's rows. -/
def outR (L : List (List Cell)) : List (List AV) := rowsAt (idsN L.length) (L.map List.length)
theorem outR_length (L : List (List Cell)) : (outR L).length = L.length := by simp [outR, rowsAt_length, idsN_length]
theorem outR_nil : outR [] = [] := rfl
theorem outR_eq (L : List (List Cell)) : outR L = rowsAt (idsN (spD L).length) ((spD L).map List.length) := by rw [spD_length, spD_lens]; rfl
theorem upR_out {σ0 : List (Nat × Option Nat)} (hlow : (σ0.all fun x => Nat.blt x.1 1000000) = true) (L : List (List Cell)) : upR (σ0 ++ dynN 0 (idsN (spD L).length)) (outR L) = some (outR L) := by
  have := upR_rows (ns := idsN L.length) (lens := L.map List.length) hlow (by simp [idsN_length])
  rw [List.length_map] at this
  rw [spD_length]
  exact this

theorem upR_out1 {σ0 : List (Nat × Option Nat)} (hlow : (σ0.all fun x => Nat.blt x.1 1000000) = true) (L : List (List Cell)) (l : List Cell) (z : Nat) : upR (σ0 ++ dynN 0 (idsN L.length ++ [z])) (outR (L ++ [l])) = some (outR L ++ [[.hs z 0 l.length]]) := by
  have := upR_rows (ns := idsN L.length ++ [z]) (lens := (L ++ [l]).map List.length) hlow (by simp [idsN_length])
  rw [List.length_map] at this
  unfold outR
  rw [rowsAt_app (by simp [idsN_length]), this, List.map_append]; rfl

theorem bloose_ok (r b : List Row) (hr : bigR r) (hb0 : bigR b) : PC Try.prog 25 [.agg (regRow r), .agg (regRow b)] (.p (.agg (regRow (opR fD r b)))) := by
  have c := subtractR_big r b hr hb0
  refine pc_of_awp cx (fn := Try.f25) (c := _) Try.func25 rfl rfl (Nat.le_of_ble_eq_true rfl) ?_
  rw [Try.ntmps25]; refine Nav.imp ?_
  refine awp_region cx [] fun K hK => ?_
  simp [push_cast]
  repeat (refine And.intro (by clear hK; intros; first | omega | (simp_all; done) | (simp_all <;> omega)) ?_)
  refine hK _ ?_; clear hK K; refine Nav.imp ?_
  refine awp_region cx [(2, .p (.agg (regRow (opR fD r b))))] fun K hK => ?_
  simp [push_cast, c]
  repeat (refine And.intro (by clear hK; intros; first | omega | (simp_all; done) | (simp_all <;> omega)) ?_)
  refine hK _ ?_; clear hK K; refine Nav.imp ?_
  simp [push_cast]

set_option maxHeartbeats 8000000 in
theorem rowspans_px (r b : List Row) (hr : validR r = true) (hb0 : validR b = true) (hn : (regCells r).length ≤ 1000000) : PX Try.prog 51 [.d (.agg (regRow r)), .d (.agg (regRow b))] [] [] (nestP 40 31 2 (spD (spansL r b))) (.hs 0 0 (spD (spansL r b)).length) := by
  have c1 := intersectR_ok r b (small_valid hr) (small_valid hb0)
  have c2 := bloose_ok r b (big_of (small_valid hr)) (big_of (small_valid hb0))
  have hD := (opR_facts (f := fD) rfl hr hb0).1
  have hH := (opR_facts (f := fI) rfl hr hb0).1
  have hDn : (regCells (opR fD r b)).length ≤ 1000000 := Nat.le_trans (cells_le hD hr fun c hc => ((opD_iff hr hb0 c).1 hc).1) hn
  have hsp : spansL r b = spanR (opR fD r b) (opR fI r b) := rfl
  rw [hsp]
  generalize opR fD r b = D at *
  generalize opR fI r b = H at *
  have hDs := small_valid hD
  have hHs := small_valid hH
  have htake : ∀ i w, D[i]? = some w → spanR (D.take (i + 1)) H = spanR (D.take i) H ++ spanRow H w := fun i w h => flat_take _ h
  have hall : spanR (D.take D.length) H = spanR D H := by rw [List.take_length]
  have hnum : ∀ (X Y : List (List Cell)), spanR D H = X ++ Y → X.length ≤ 1000000 := fun X Y h => by
    have := span_num (H := H) hD
    rw [h, List.length_append] at this
    omega
  have hsplit : ∀ i w k, D[i]? = some w → spanR D H = (spanR (D.take i) H ++ (w.runs.take k).flatMap (spanRun H w.y)) ++ ((w.runs.drop k).flatMap (spanRun H w.y) ++ spanR (D.drop (i + 1)) H) := fun i w k h => by
    unfold spanR
    rw [flat_split _ h, List.append_assoc, List.append_assoc]
    congr 1
    rw [← List.append_assoc, ← List.flatMap_append, List.take_append_drop]; rfl
  have hDl := hDs.1
  clear hsp hr hb0 hn
  refine px_of_awp cx (fn := Try.f51) (c := _) 0 Try.func51 rfl rfl (Nat.le_of_ble_eq_true rfl) rfl rfl fun Ls => ?_
  rw [Try.ntmps51]; refine Nav.imp ?_
  refine awp_region cx [] fun K hK => ?_
  simp [push_cast]
  repeat (refine And.intro (by clear hK; intros; first | omega | (simp_all; done) | (simp_all <;> omega)) ?_)
  refine hK _ ?_; clear hK K; refine Nav.imp ?_
  refine awp_region cx [] fun K hK => ?_
  simp [push_cast]
  repeat (refine And.intro (by clear hK; intros; first | omega | (simp_all; done) | (simp_all <;> omega)) ?_)
  refine hK _ ?_; clear hK K; refine Nav.imp ?_
  refine awp_region cx [(2, .p (.agg (regRow H)))] fun K hK => ?_
  simp [push_cast, c1]
  repeat (refine And.intro (by clear hK; intros; first | omega | (simp_all; done) | (simp_all <;> omega)) ?_)
  refine hK _ ?_; clear hK K; refine Nav.imp ?_
  refine awp_region cx [(2, .p (.agg (regRow D)))] fun K hK => ?_
  simp [push_cast, c2]
  repeat (refine And.intro (by clear hK; intros; first | omega | (simp_all; done) | (simp_all <;> omega)) ?_)
  refine hK _ ?_; clear hK K; refine Nav.imp ?_
  refine awp_loop (β := Nat × List (List Cell)) (fun s => ⟨73, [(5, .hs 0 0 s.2.length), (6, .ptr 1 0 0), (19, .d (encRows D)), (20, .d (.int .i64 D.length)), (21, .d (.int .i64 s.1))], [(0, some ⟨40, 1, outR s.2⟩), (1, some ⟨24, 1, [(regRow H).map .d]⟩)] ++ dyn 31 2 0 (spD s.2), 1000000000000⟩) (fun s => s.1 ≤ D.length ∧ s.2 = spanR (D.take s.1) H) (fun s => D.length - s.1) (0, []) ?_ ⟨Nat.zero_le _, by simp [spanR]⟩ ?_
  · have hl0 : (spD []).length ≤ 1000000 := by simp [spD]
    refine weak_dyn [(0, none), (1, some 7)] (idsN (spD []).length) _ (spD []) rfl rfl ?_ (idsN_length _) rfl (by simp [upT, up, upL, upH, upR, namesOk, olds, find_app, find_dynN0, List.cons_append, List.nil_append, push_cast, outR_nil]) (by simp [upT, up, upL, upH, upR, namesOk, olds, find_app, find_dynN0, List.cons_append, List.nil_append, push_cast, outR_nil]) (by simp [upT, up, upL, upH, upR, namesOk, olds, find_app, find_dynN0, List.cons_append, List.nil_append, push_cast]) (by simp [olds]) (idsN_nodup _) (fun x hx => by have h1 := idsN_mem.1 hx; simp [olds]; omega) (fun j r_ x hr_ hx => by
      obtain ⟨hj, rfl⟩ := idsN_get' hx
      have hjN : ∀ m, (m < 1000000 ∨ 1000000000 < m) → (m = 1000000 + j) = False := fun m hm => by simp; omega
      first | (simp [spD] at hr_; done) | simp [push_cast, find_dyn0, hr_, hjN, outR_nil])
    omega
  · rintro ⟨i, X⟩ ⟨hi, hX⟩
    simp only at hi hX
    refine Nav.imp ?_
    refine awp_region cx [] fun K hK => ?_
    simp [push_cast]
    repeat (refine And.intro (by clear hK; intros; first | omega | (simp_all; done) | (simp_all <;> omega)) ?_)
    refine hK _ ?_; clear hK K; refine Nav.imp ?_
    refine awp_cond (b := decide ((i : Int) < D.length)) (by simp [push_cast]) (fun hb => ?_) (fun hb => ?_) <;> (refine Nav.imp ?_)
    · have hlt : i < D.length := by simpa using hb
      obtain ⟨w, hw⟩ := getq hlt
      have e0 := wrap_i64 (n := (i : Int) + 1) (by omega) (by omega)
      have hrf := row_fine hD (List.mem_of_getElem? hw)
      have hrr := fun q (hq : q ∈ w.runs) => row_runs hD (List.mem_of_getElem? hw) hq
      have hwl := hDs.2 w (List.mem_of_getElem? hw)
      have hnx := htake i w hw
      have hsp2 := fun k => hsplit i w k hw
      rw [← hX] at hnx hsp2
      unfold spanRow at hnx
      obtain ⟨y, L⟩ := w
      simp only at hrf hrr hwl hnx hsp2
      refine awp_region cx [] fun K hK => ?_
      simp [push_cast, hw]
      repeat (refine And.intro (by clear hK; intros; first | omega | (simp_all; done) | (simp_all <;> omega)) ?_)
      refine hK _ ?_; clear hK K; refine Nav.imp ?_
      refine awp_region cx [] fun K hK => ?_
      simp [push_cast]
      repeat (refine And.intro (by clear hK; intros; first | omega | (simp_all; done) | (simp_all <;> omega)) ?_)
      refine hK _ ?_; clear hK K; refine Nav.imp ?_
      refine awp_loop (β := Nat × List (List Cell)) (fun s => ⟨73, [(5, .hs 0 0 s.2.length), (6, .ptr 1 0 0), (8, .ptr 2 0 0), (19, .d (encRows D)), (20, .d (.int .i64 D.length)), (21, .d (.int .i64 i)), (26, .d (encRuns L)), (27, .d (.int .i64 L.length)), (28, .d (.int .i64 s.1))], [(0, some ⟨40, 1, outR s.2⟩), (1, some ⟨24, 1, [(regRow H).map .d]⟩), (2, some ⟨48, 2, [(Row.row ⟨y, L⟩).map .d]⟩)] ++ dyn 31 2 0 (spD s.2), 1000000000000⟩) (fun s => s.1 ≤ L.length ∧ s.2 = X ++ (L.take s.1).flatMap (spanRun H y)) (fun s => L.length - s.1) (0, X) ?_ ⟨Nat.zero_le _, by simp⟩ ?_
      · have hXl := hnum X _ (by have := hsp2 0; simp only [List.take_zero, List.flatMap_nil, List.append_nil] at this; exact this)
        have hl0 : (spD X).length ≤ 1000000 := by rw [spD_length]; exact hXl
        have hup := upR_out (σ0 := [(0, some 0), (1, some 1), (2, some 1000000000003)]) rfl X
        simp only [List.cons_append, List.nil_append] at hup
        refine weak_dyn [(0, some 0), (1, some 1), (2, some 1000000000003)] (idsN (spD X).length) _ (spD X) rfl rfl ?_ (idsN_length _) rfl (by simp [upT, up, upL, upH, upR, namesOk, olds, find_app, find_dynN0, List.cons_append, List.nil_append, push_cast, Row.row, hup]) (by simp [upT, up, upL, upH, upR, namesOk, olds, find_app, find_dynN0, List.cons_append, List.nil_append, push_cast, Row.row, hup]) (by simp [upT, up, upL, upH, upR, namesOk, olds, find_app, find_dynN0, List.cons_append, List.nil_append, push_cast]) (by simp [olds]) (idsN_nodup _) (fun x hx => by have h1 := idsN_mem.1 hx; simp [olds]; omega) (fun j r_ x hr_ hx => by
          obtain ⟨hj, rfl⟩ := idsN_get' hx
          have hjN : ∀ m, (m < 1000000 ∨ 1000000000 < m) → (m = 1000000 + j) = False := fun m hm => by simp; omega
          first | (simp [spD] at hr_; done) | simp [push_cast, find_dyn0, hr_, hjN, Row.row, hup])
        omega
      · rintro ⟨k, Y⟩ ⟨hk, hY⟩
        simp only at hk hY
        have hYl := hnum Y _ (by rw [hY]; exact hsp2 k)
        refine Nav.imp ?_
        refine awp_region cx [] fun K hK => ?_
        simp [push_cast]
        repeat (refine And.intro (by clear hK; intros; first | omega | (simp_all; done) | (simp_all <;> omega)) ?_)
        refine hK _ ?_; clear hK K; refine Nav.imp ?_
        refine awp_cond (b := decide ((k : Int) < L.length)) (by simp [push_cast]) (fun hb => ?_) (fun hb => ?_) <;> (refine Nav.imp ?_)
        · have hkl : k < L.length := by simpa using hb
          obtain ⟨q, hq⟩ := getq hkl
          have e1 := wrap_i64 (n := (k : Int) + 1) (by omega) (by omega)
          have hqb := hrr q (List.mem_of_getElem? hq)
          have hY1 : X ++ (L.take (k + 1)).flatMap (spanRun H y) = Y ++ spanRun H y q := by rw [take_get hq, List.flatMap_append, ← List.append_assoc, ← hY]; simp
          have hYs := hnum (Y ++ spanRun H y q) _ (by rw [← hY1]; exact hsp2 (k + 1))
          have hsr : spanRun H y q = if (decide ((⟨q.a - 1, y⟩ : Cell) ∈ regCells H) && decide ((⟨q.b, y⟩ : Cell) ∈ regCells H)) = true then [runCells y q] else [] := rfl
          generalize spanRun H y q = Z at hsr hY1 hYs
          obtain ⟨qa, qb⟩ := q
          simp only at hqb hsr
          have e2 := wrap_i64 (n := qa - 1) (by omega) (by omega)
          have d1 := contains_ok H ⟨qa - 1, y⟩ hHs
          have d2 := contains_ok H ⟨qb, y⟩ hHs
          rw [conB_mem hH] at d1 d2
          generalize decide ((⟨qa - 1, y⟩ : Cell) ∈ regCells H) = v1 at *
          generalize decide ((⟨qb, y⟩ : Cell) ∈ regCells H) = v2 at *
          refine awp_region cx [] fun K hK => ?_
          simp [push_cast, hq]
          repeat (refine And.intro (by clear hK; intros; first | omega | (simp_all; done) | (simp_all <;> omega)) ?_)
          refine hK _ ?_; clear hK K; refine Nav.imp ?_
          cases v1 with
          | false =>
            rw [if_neg (by simp)] at hsr; subst hsr
            rw [List.append_nil] at hY1
            refine awp_region cx [(7, .p (.bool false)), (16, .skip)] fun K hK => ?_
            simp [push_cast, d1, e2, Cell.row]
            repeat (refine And.intro (by clear hK; intros; first | omega | (simp_all; done) | (simp_all <;> omega)) ?_)
            refine hK _ ?_; clear hK K; refine Nav.imp ?_
            refine awp_cond (b := true) (by simp [push_cast]) (fun hb => ?_) (fun hb => ?_) <;> (refine Nav.imp ?_)
            · refine awp_region cx [] fun K hK => ?_
              simp [push_cast, e1]
              repeat (refine And.intro (by clear hK; intros; first | omega | (simp_all; done) | (simp_all <;> omega)) ?_)
              refine hK _ ?_; clear hK K; refine Nav.imp ?_
              refine ⟨(k + 1, Y), ⟨hkl, hY1.symm⟩, by simp only; omega, ?_⟩
              have hl0 : (spD Y).length ≤ 1000000 := by rw [spD_length]; exact hYl
              have hup := upR_out (σ0 := [(0, some 0), (1, some 1), (2, some 2)]) rfl Y
              simp only [List.cons_append, List.nil_append] at hup
              refine weak_dyn [(0, some 0), (1, some 1), (2, some 2)] (idsN (spD Y).length) _ (spD Y) rfl rfl ?_ (idsN_length _) rfl (by simp [upT, up, upL, upH, upR, namesOk, olds, find_app, find_dynN0, List.cons_append, List.nil_append, push_cast, Row.row, hup]) (by simp [upT, up, upL, upH, upR, namesOk, olds, find_app, find_dynN0, List.cons_append, List.nil_append, push_cast, Row.row, hup]) (by simp [upT, up, upL, upH, upR, namesOk, olds, find_app, find_dynN0, List.cons_append, List.nil_append, push_cast]) (by simp [olds]) (idsN_nodup _) (fun x hx => by have h1 := idsN_mem.1 hx; simp [olds]; omega) (fun j r_ x hr_ hx => by
                obtain ⟨hj, rfl⟩ := idsN_get' hx
                have hjN : ∀ m, (m < 1000000 ∨ 1000000000 < m) → (m = 1000000 + j) = False := fun m hm => by simp; omega
                first | (simp [spD] at hr_; done) | simp [push_cast, find_dyn0, hr_, hjN, Row.row, hup])
              omega
            · simp at hb
          | true =>
            cases v2 with
            | false =>
              rw [if_neg (by simp)] at hsr; subst hsr
              rw [List.append_nil] at hY1
              refine awp_region cx [(7, .p (.bool true)), (16, .p (.bool false))] fun K hK => ?_
              simp [push_cast, d1, d2, e2, Cell.row]
              repeat (refine And.intro (by clear hK; intros; first | omega | (simp_all; done) | (simp_all <;> omega)) ?_)
              refine hK _ ?_; clear hK K; refine Nav.imp ?_
              refine awp_cond (b := true) (by simp [push_cast]) (fun hb => ?_) (fun hb => ?_) <;> (refine Nav.imp ?_)
              · refine awp_region cx [] fun K hK => ?_
                simp [push_cast, e1]
                repeat (refine And.intro (by clear hK; intros; first | omega | (simp_all; done) | (simp_all <;> omega)) ?_)
                refine hK _ ?_; clear hK K; refine Nav.imp ?_
                refine ⟨(k + 1, Y), ⟨hkl, hY1.symm⟩, by simp only; omega, ?_⟩
                have hl0 : (spD Y).length ≤ 1000000 := by rw [spD_length]; exact hYl
                have hup := upR_out (σ0 := [(0, some 0), (1, some 1), (2, some 2)]) rfl Y
                simp only [List.cons_append, List.nil_append] at hup
                refine weak_dyn [(0, some 0), (1, some 1), (2, some 2)] (idsN (spD Y).length) _ (spD Y) rfl rfl ?_ (idsN_length _) rfl (by simp [upT, up, upL, upH, upR, namesOk, olds, find_app, find_dynN0, List.cons_append, List.nil_append, push_cast, Row.row, hup]) (by simp [upT, up, upL, upH, upR, namesOk, olds, find_app, find_dynN0, List.cons_append, List.nil_append, push_cast, Row.row, hup]) (by simp [upT, up, upL, upH, upR, namesOk, olds, find_app, find_dynN0, List.cons_append, List.nil_append, push_cast]) (by simp [olds]) (idsN_nodup _) (fun x hx => by have h1 := idsN_mem.1 hx; simp [olds]; omega) (fun j r_ x hr_ hx => by
                  obtain ⟨hj, rfl⟩ := idsN_get' hx
                  have hjN : ∀ m, (m < 1000000 ∨ 1000000000 < m) → (m = 1000000 + j) = False := fun m hm => by simp; omega
                  first | (simp [spD] at hr_; done) | simp [push_cast, find_dyn0, hr_, hjN, Row.row, hup])
                omega
              · simp at hb
            | true =>
              rw [if_pos (show (true && true) = true from rfl)] at hsr; subst hsr
              refine awp_region cx [(7, .p (.bool true)), (16, .p (.bool true))] fun K hK => ?_
              simp [push_cast, d1, d2, e2, Cell.row]
              repeat (refine And.intro (by clear hK; intros; first | omega | (simp_all; done) | (simp_all <;> omega)) ?_)
              refine hK _ ?_; clear hK K; refine Nav.imp ?_
              refine awp_cond (b := false) (by simp [push_cast]) (fun hb => ?_) (fun hb => ?_) <;> (refine Nav.imp ?_)
              · simp at hb
              · refine awp_region cx [] fun K hK => ?_
                simp [push_cast]
                repeat (refine And.intro (by clear hK; intros; first | omega | (simp_all; done) | (simp_all <;> omega)) ?_)
                refine hK _ ?_; clear hK K; refine Nav.imp ?_
                refine awp_region cx [] fun K hK => ?_
                simp [push_cast]
                repeat (refine And.intro (by clear hK; intros; first | omega | (simp_all; done) | (simp_all <;> omega)) ?_)
                refine hK _ ?_; clear hK K; refine Nav.imp ?_
                have hrl : (runCells y ⟨qa, qb⟩).length = (qb - qa).toNat := runCells_len _ _
                have htk : ∀ j, j < (qb - qa).toNat → (runCells y ⟨qa, qb⟩).take (j + 1) = (runCells y ⟨qa, qb⟩).take j ++ [⟨qa + j, y⟩] := fun j hj => runCells_take y ⟨qa, qb⟩ hj
                have hYs2 : (spD Y).length ≤ 1000000 := by rw [spD_length]; exact hYl
                generalize hl : runCells y ⟨qa, qb⟩ = l at *
                refine awp_loop (β := Nat × List Cell) (fun s => ⟨73, [(5, .hs 0 0 Y.length), (6, .ptr 1 0 0), (8, .ptr 2 0 0), (10, .ptr 3 0 0), (11, .hs 4 0 s.2.length), (12, .d (.int .i64 (qa + s.1))), (19, .d (encRows D)), (20, .d (.int .i64 D.length)), (21, .d (.int .i64 i)), (26, .d (encRuns L)), (27, .d (.int .i64 L.length)), (28, .d (.int .i64 k))], [(0, some ⟨40, 1, outR Y⟩), (1, some ⟨24, 1, [(regRow H).map .d]⟩), (2, some ⟨48, 2, [(Row.row ⟨y, L⟩).map .d]⟩), (3, some ⟨51, 2, [(Run.row ⟨qa, qb⟩).map .d]⟩), (4, some ⟨31, 2, dr (s.2.map Cell.row)⟩)] ++ dyn 31 2 0 (spD Y), 1000000000000⟩) (fun s => s.1 ≤ (qb - qa).toNat ∧ s.2 = l.take s.1) (fun s => (qb - qa).toNat - s.1) (0, []) ?_ ⟨Nat.zero_le _, by simp⟩ ?_
                · have hup := upR_out (σ0 := [(0, some 0), (1, some 1), (2, some 2), (3, some 1000000000003), (4, none)]) rfl Y
                  simp only [List.cons_append, List.nil_append] at hup
                  refine weak_dyn [(0, some 0), (1, some 1), (2, some 2), (3, some 1000000000003), (4, none)] (idsN (spD Y).length) _ (spD Y) rfl rfl ?_ (idsN_length _) rfl (by simp [upT, up, upL, upH, upR, namesOk, olds, find_app, find_dynN0, List.cons_append, List.nil_append, push_cast, Row.row, Run.row, hup]) (by simp [upT, up, upL, upH, upR, namesOk, olds, find_app, find_dynN0, List.cons_append, List.nil_append, push_cast, Row.row, Run.row, hup]) (by simp [upT, up, upL, upH, upR, namesOk, olds, find_app, find_dynN0, List.cons_append, List.nil_append, push_cast]) (by simp [olds]) (idsN_nodup _) (fun x hx => by have h1 := idsN_mem.1 hx; simp [olds]; omega) (fun j r_ x hr_ hx => by
                    obtain ⟨hj, rfl⟩ := idsN_get' hx
                    have hjN : ∀ m, (m < 1000000 ∨ 1000000000 < m) → (m = 1000000 + j) = False := fun m hm => by simp; omega
                    first | (simp [spD] at hr_; done) | simp [push_cast, find_dyn0, hr_, hjN, Row.row, Run.row, hup])
                  omega
                · rintro ⟨j, Z⟩ ⟨hj, hZ⟩
                  simp only at hj hZ
                  refine Nav.imp ?_
                  refine awp_region cx [] fun K hK => ?_
                  simp [push_cast]
                  repeat (refine And.intro (by clear hK; intros; first | omega | (simp_all; done) | (simp_all <;> omega)) ?_)
                  refine hK _ ?_; clear hK K; refine Nav.imp ?_
                  by_cases hjl : j < (qb - qa).toNat
                  · have hcd : qa + (j : Int) < qb := by omega
                    have e3 := wrap_i64 (n := qa + (j : Int) + 1) (by omega) (by omega)
                    have hZl : Z.length = j := by rw [hZ, List.length_take]; omega
                    have hZ16 : (Z.length + 1) * 16 ≤ 140737488355328 := by omega
                    have hZ1 := htk j hjl
                    rw [← hZ] at hZ1
                    refine awp_cond (b := true) (by simp [push_cast, hcd]) (fun hb => ?_) (fun hb => ?_) <;> (refine Nav.imp ?_)
                    · refine awp_region cx [] fun K hK => ?_
                      simp [push_cast, hZ16]
                      repeat (refine And.intro (by clear hK; intros; first | omega | (simp_all; done) | (simp_all <;> omega)) ?_)
                      refine hK _ ?_; clear hK K; refine Nav.imp ?_
                      refine awp_region cx [] fun K hK => ?_
                      simp [push_cast, e3]
                      repeat (refine And.intro (by clear hK; intros; first | omega | (simp_all; done) | (simp_all <;> omega)) ?_)
                      refine hK _ ?_; clear hK K; refine Nav.imp ?_
                      refine ⟨(j + 1, Z ++ [⟨qa + j, y⟩]), ⟨hjl, hZ1.symm⟩, by simp only; omega, ?_⟩
                      have hup := upR_out (σ0 := [(0, some 0), (1, some 1), (2, some 2), (3, some 3), (4, some 1000000000010)]) rfl Y
                      simp only [List.cons_append, List.nil_append] at hup
                      refine weak_dyn [(0, some 0), (1, some 1), (2, some 2), (3, some 3), (4, some 1000000000010)] (idsN (spD Y).length) _ (spD Y) rfl rfl ?_ (idsN_length _) rfl (by simp [upT, up, upL, upH, upR, namesOk, olds, find_app, find_dynN0, List.cons_append, List.nil_append, push_cast, Row.row, Run.row, Cell.row, Int.add_assoc, hup]) (by simp [upT, up, upL, upH, upR, namesOk, olds, find_app, find_dynN0, List.cons_append, List.nil_append, push_cast, Row.row, Run.row, Cell.row, Int.add_assoc, hup]) (by simp [upT, up, upL, upH, upR, namesOk, olds, find_app, find_dynN0, List.cons_append, List.nil_append, push_cast]) (by simp [olds]) (idsN_nodup _) (fun x hx => by have h1 := idsN_mem.1 hx; simp [olds]; omega) (fun j r_ x hr_ hx => by
                        obtain ⟨hj, rfl⟩ := idsN_get' hx
                        have hjN : ∀ m, (m < 1000000 ∨ 1000000000 < m) → (m = 1000000 + j) = False := fun m hm => by simp; omega
                        first | (simp [spD] at hr_; done) | simp [push_cast, find_dyn0, hr_, hjN, Row.row, Run.row, Cell.row, Int.add_assoc, hup])
                      omega
                    · simp at hb
                  · have hje : j = (qb - qa).toNat := by omega
                    have hcd : ¬ qa + (j : Int) < qb := by omega
                    have hcd2 : qb ≤ qa + (j : Int) := by omega
                    rw [hje, ← hrl, List.take_length] at hZ
                    refine awp_cond (b := false) (by simp [push_cast, hcd, hcd2]) (fun hb => ?_) (fun hb => ?_) <;> (refine Nav.imp ?_)
                    · simp at hb
                    · subst hZ
                      have hY24 : (Y.length + 1) * 24 ≤ 140737488355328 := by omega
                      have hYs3 : (Y ++ [Z]).length ≤ 1000000 := hYs
                      have hto : List.take Y.length (outR Y) = outR Y := List.take_of_length_le (by rw [outR_length]; omega)
                      refine awp_region cx [] fun K hK => ?_
                      simp [push_cast, hY24, outR_length, hto]
                      repeat (refine And.intro (by clear hK; intros; first | omega | (simp_all; done) | (simp_all <;> omega)) ?_)
                      refine hK _ ?_; clear hK K; refine Nav.imp ?_
                      refine awp_region cx [] fun K hK => ?_
                      simp [push_cast, e1]
                      repeat (refine And.intro (by clear hK; intros; first | omega | (simp_all; done) | (simp_all <;> omega)) ?_)
                      refine hK _ ?_; clear hK K; refine Nav.imp ?_
                      refine ⟨(k + 1, Y ++ [Z]), ⟨hkl, hY1.symm⟩, by simp only; omega, ?_⟩
                      have hup := upR_out1 (σ0 := [(0, some 1000000000007), (1, some 1), (2, some 2)]) rfl Y Z 4
                      simp only [List.cons_append, List.nil_append] at hup
                      refine weak_dyn [(0, some 1000000000007), (1, some 1), (2, some 2)] (idsN Y.length ++ [4]) _ (spD (Y ++ [Z])) rfl rfl (by rw [spD_length]; omega) (by simp [spD_length, idsN_length]) rfl (by simp [upT, up, upL, upH, upR, namesOk, olds, find_app, find_dynN0, List.cons_append, List.nil_append, push_cast]) (by simp [upT, up, upL, upH, upR, namesOk, olds, find_app, find_dynN0, List.cons_append, List.nil_append, push_cast, Row.row, hup]) (by simp [namesOk, push_cast]) (by simp [olds]) (List.nodup_append.2 ⟨idsN_nodup _, by simp, fun a ha c hc => by have := idsN_mem.1 ha; simp at hc; omega⟩) (fun x hx => by
                        rcases List.mem_append.1 hx with hx | hx
                        · have := idsN_mem.1 hx; simp [olds]; omega
                        · simp at hx; subst hx; simp [olds]) (fun j r_ x hr_ hx => ?_)
                      have hjb : j < (spD (Y ++ [Z])).length := (List.getElem?_eq_some_iff.1 hr_).1
                      rw [spD_length, List.length_append] at hjb
                      simp only [List.length_cons, List.length_nil] at hjb
                      rw [spD_app] at hr_
                      by_cases hjY : j < Y.length
                      · rw [List.getElem?_append_left (by rw [spD_length]; exact hjY)] at hr_
                        rw [List.getElem?_append_left (by rw [idsN_length]; exact hjY), idsN_get hjY] at hx
                        cases hx
                        have hjN : ∀ m, (m < 1000000 ∨ 1000000000 < m) → (m = 1000000 + j) = False := fun m hm => by simp; omega
                        simp [push_cast, find_dyn0, hr_, hjN]
                      · have hje2 : j = Y.length := by omega
                        subst hje2
                        rw [List.getElem?_append_right (by rw [spD_length]; omega)] at hr_
                        rw [List.getElem?_append_right (by rw [idsN_length]; omega)] at hx
                        simp [spD_length, idsN_length, spD] at hr_ hx
                        subst hr_ hx
                        simp [push_cast]
        · have hke : k = L.length := by simp at hb; omega
          subst hke
          rw [List.take_length] at hY
          refine awp_region cx [] fun K hK => ?_
          simp [push_cast, e0]
          repeat (refine And.intro (by clear hK; intros; first | omega | (simp_all; done) | (simp_all <;> omega)) ?_)
          refine hK _ ?_; clear hK K; refine Nav.imp ?_
          refine ⟨(i + 1, Y), ⟨hlt, by rw [hnx]; exact hY⟩, by simp only; omega, ?_⟩
          have hl0 : (spD Y).length ≤ 1000000 := by rw [spD_length]; exact hYl
          have hup := upR_out (σ0 := [(0, some 0), (1, some 1)]) rfl Y
          simp only [List.cons_append, List.nil_append] at hup
          refine weak_dyn [(0, some 0), (1, some 1)] (idsN (spD Y).length) _ (spD Y) rfl rfl ?_ (idsN_length _) rfl (by simp [upT, up, upL, upH, upR, namesOk, olds, find_app, find_dynN0, List.cons_append, List.nil_append, push_cast, hup]) (by simp [upT, up, upL, upH, upR, namesOk, olds, find_app, find_dynN0, List.cons_append, List.nil_append, push_cast, hup]) (by simp [upT, up, upL, upH, upR, namesOk, olds, find_app, find_dynN0, List.cons_append, List.nil_append, push_cast]) (by simp [olds]) (idsN_nodup _) (fun x hx => by have h1 := idsN_mem.1 hx; simp [olds]; omega) (fun j r_ x hr_ hx => by
            obtain ⟨hj, rfl⟩ := idsN_get' hx
            have hjN : ∀ m, (m < 1000000 ∨ 1000000000 < m) → (m = 1000000 + j) = False := fun m hm => by simp; omega
            first | (simp [spD] at hr_; done) | simp [push_cast, find_dyn0, hr_, hjN, hup])
          omega
    · have hie : i = D.length := by simp at hb; omega
      subst hie
      rw [hall] at hX
      subst hX
      refine awp_region cx [] fun K hK => ?_
      simp [push_cast]
      repeat (refine And.intro (by clear hK; intros; first | omega | (simp_all; done) | (simp_all <;> omega)) ?_)
      refine hK _ ?_; clear hK K; refine Nav.imp ?_
      refine rx_nest (idO := 0) (by decide) (by simp [push_cast, spD_length]) (by simp [push_cast]) (outR_eq _) fun j r_ hr_ => ?_
      have hjb : j < (spD (spanR D H)).length := (List.getElem?_eq_some_iff.1 hr_).1
      have hjN : ∀ m, (m < 1000000 ∨ 1000000000 < m) → (m = 1000000 + j) = False := fun m hm => by
        have := hnum (spanR D H) [] (by simp)
        rw [spD_length] at hjb
        simp; omega
      simp [push_cast, find_dyn0, hr_, hjN]
end Go.Proofs.Ytknelhiejjdioaa

set_option linter.unusedVariables false
set_option linter.unusedSimpArgs false
set_option maxRecDepth 100000
namespace Go.Proofs.Ytknelhiejjdioaa
open Go.Abs

abbrev encSpans (L : List (List Cell)) : D := .sl (L.map fun l => [encCells l])
theorem covered_ok (L : List (List Cell)) (hL : L.length ≤ 1000000) (hn : L.flatten.length ≤ 1000000) : PC Try.prog 31 [encSpans L] (.p (.agg (regRow (coverR L)))) := by
  have c2 := of_ok L.flatten hn
  rw [show ofD L.flatten = .tup [.agg (regRow (coverR L)), .int .i64 (ofE L.flatten)] from rfl] at c2
  have htake : ∀ k l, L[k]? = some l → (L.take (k + 1)).flatten = (L.take k).flatten ++ l := fun k l h => by rw [take_get h]; simp
  have hall : (L.take L.length).flatten = L.flatten := by rw [List.take_length]
  have hlen : ∀ k l, L[k]? = some l → ((L.take k).flatten ++ l).length ≤ 1000000 := fun k l h => by
    rw [← htake k l h]
    refine Nat.le_trans ?_ hn
    have : L.flatten = (L.take (k + 1)).flatten ++ (L.drop (k + 1)).flatten := by rw [← List.flatten_append, List.take_append_drop]
    rw [this, List.length_append]; omega
  generalize ofE L.flatten = er at *
  generalize coverR L = W at *
  refine pc_of_awp cx (fn := Try.f31) (c := _) Try.func31 rfl rfl (Nat.le_of_ble_eq_true rfl) ?_
  rw [Try.ntmps31]; refine Nav.imp ?_
  refine awp_region cx [] fun K hK => ?_
  simp [push_cast]
  repeat (refine And.intro (by clear hK; intros; first | omega | (simp_all; done) | (simp_all <;> omega)) ?_)
  refine hK _ ?_; clear hK K; refine Nav.imp ?_
  refine awp_region cx [] fun K hK => ?_
  simp [push_cast]
  repeat (refine And.intro (by clear hK; intros; first | omega | (simp_all; done) | (simp_all <;> omega)) ?_)
  refine hK _ ?_; clear hK K; refine Nav.imp ?_
  refine awp_region cx [] fun K hK => ?_
  simp [push_cast]
  repeat (refine And.intro (by clear hK; intros; first | omega | (simp_all; done) | (simp_all <;> omega)) ?_)
  refine hK _ ?_; clear hK K; refine Nav.imp ?_
  refine awp_loop (β := Nat × List Cell) (fun s => ⟨24, [(2, .ptr 1 0 0), (3, .hs 0 0 s.2.length), (8, .d (encSpans L)), (9, .d (.int .i64 L.length)), (10, .d (.int .i64 s.1))], [(0, some ⟨31, 2, dr (s.2.map Cell.row)⟩), (1, some ⟨24, 1, [[.nl]]⟩)], 2⟩) (fun s => s.1 ≤ L.length ∧ s.2 = (L.take s.1).flatten) (fun s => L.length - s.1) (0, []) ?_ ⟨Nat.zero_le _, by simp⟩ ?_
  · refine weak_of [(0, none), (1, some 0)] rfl (by simp [upT, up, upL, push_cast]) (by simp [upH, upR, upL, up, push_cast]) (by simp [namesOk, push_cast]) (by simp [olds])
  · rintro ⟨k, X⟩ ⟨hk, hX⟩
    simp only at hk hX
    refine Nav.imp ?_
    refine awp_region cx [] fun K hK => ?_
    simp [push_cast]
    repeat (refine And.intro (by clear hK; intros; first | omega | (simp_all; done) | (simp_all <;> omega)) ?_)
    refine hK _ ?_; clear hK K; refine Nav.imp ?_
    refine awp_cond (b := decide ((k : Int) < L.length)) (by simp [push_cast]) (fun hb => ?_) (fun hb => ?_) <;> (refine Nav.imp ?_)
    · have hlt : k < L.length := by simpa using hb
      obtain ⟨l, hl⟩ := getq hlt
      have e0 := wrap_i64 (n := (k : Int) + 1) (by omega) (by omega)
      have hle := hlen k l hl
      have hnx := htake k l hl
      rw [← hX] at hle hnx
      rw [List.length_append] at hle
      have h16 : (X.length + l.length) * 16 ≤ 140737488355328 := by omega
      refine awp_region cx [] fun K hK => ?_
      simp [push_cast, hl]
      repeat (refine And.intro (by clear hK; intros; first | omega | (simp_all; done) | (simp_all <;> omega)) ?_)
      refine hK _ ?_; clear hK K; refine Nav.imp ?_
      refine awp_region cx [] fun K hK => ?_
      simp [push_cast, h16]
      repeat (refine And.intro (by clear hK; intros; first | omega | (simp_all; done) | (simp_all <;> omega)) ?_)
      refine hK _ ?_; clear hK K; refine Nav.imp ?_
      refine awp_region cx [] fun K hK => ?_
      simp [push_cast, e0]
      repeat (refine And.intro (by clear hK; intros; first | omega | (simp_all; done) | (simp_all <;> omega)) ?_)
      refine hK _ ?_; clear hK K; refine Nav.imp ?_
      refine ⟨(k + 1, X ++ l), ⟨hlt, hnx.symm⟩, by simp only; omega, ?_⟩
      refine weak_of [(0, some 8), (1, some 1)] rfl (by simp [upT, up, upL, push_cast]) (by simp [upH, upR, upL, up, push_cast]) (by simp [namesOk, push_cast]) (by simp [olds])
    · have hke : k = L.length := by simp at hb; omega
      subst hke
      rw [hall] at hX
      subst hX
      generalize L.flatten = m at *
      have ht : List.take m.length (m.map Cell.row) = m.map Cell.row := List.take_of_length_le (by simp)
      refine awp_freeze 0 (m.map Cell.row) rfl (by simp [push_cast]) fun K hK => ?_
      simp [push_cast, St.fz, fzT, fzH, fzO, fz, fzL, fzR, fzR_dr, fzR_app, fzR_set, fzL_map]
      refine hK _ ?_; clear hK K; refine Nav.imp ?_
      refine awp_region cx [(1, .p (.tup [.agg (regRow W), .int .i64 er]))] fun K hK => ?_
      simp [push_cast, c2]
      repeat (refine And.intro (by clear hK; intros; first | omega | (simp_all; done) | (simp_all <;> omega)) ?_)
      refine hK _ ?_; clear hK K; refine Nav.imp ?_
      refine awp_region cx [] fun K hK => ?_
      simp [push_cast]
      repeat (refine And.intro (by clear hK; intros; first | omega | (simp_all; done) | (simp_all <;> omega)) ?_)
      refine hK _ ?_; clear hK K; refine Nav.imp ?_
      simp [push_cast]

/-! spans: the inner slices are turned in their places. -/
theorem set_stepG {α : Type} {f : α → α} {l Z : List α} {k : Nat} {c : α} (hZ : Z = (l.take k).map f ++ l.drop k) (hc : l[k]? = some c) : Z[k]? = some c ∧ Z.set k (f c) = (l.take (k + 1)).map f ++ l.drop (k + 1) := by
  have hk : k < l.length := (List.getElem?_eq_some_iff.1 hc).1
  have hlen : ((l.take k).map f).length = k := by rw [List.length_map, List.length_take]; omega
  have hdr := drop_get hc
  subst hZ
  constructor
  · rw [List.getElem?_append_right (by omega), hlen, Nat.sub_self, hdr]; rfl
  · rw [List.set_append_right _ _ (by omega), hlen, Nat.sub_self, hdr, take_get hc, List.map_append, List.append_assoc]; rfl
theorem outR_set {X : List (List Cell)} {k : Nat} {l m : List Cell} (h : X[k]? = some l) (hm : m.length = l.length) : outR (X.set k m) = outR X := by
  unfold outR
  rw [List.length_set, List.map_set, hm]
  congr 1
  refine List.ext_getElem? fun j => ?_
  rw [List.getElem?_set]
  split
  · rename_i e
    subst e
    split
    · rw [List.getElem?_map, h]; rfl
    · rename_i hn; rw [List.length_map] at hn; rw [List.getElem?_eq_none (by simpa using hn)]
  · rfl
theorem spD_get {X : List (List Cell)} {k : Nat} {l : List Cell} (h : X[k]? = some l) : (spD X)[k]? = some (l.map Cell.row) := by simp [spD, h]
theorem outR_get {X : List (List Cell)} {k : Nat} {l : List Cell} (h : X[k]? = some l) : (outR X)[k]? = some [.hs (1000000 + k) 0 l.length] := by
  have hk : k < X.length := (List.getElem?_eq_some_iff.1 h).1
  exact rowsAt_get (idsN_get hk) (by simp [h])
theorem weak_fzout {n : Nat} {tm : List (Nat × AV)} {nxt id eo : Nat} {e : TypeId} {m : Nat} (hid : id < 1000000) (htm : tmLow tm = true) (X : List (List Cell)) :
    Weak ⟨n, tm, (id, some ⟨eo, 1, outR X⟩) :: dyn e m 0 (spD X), nxt⟩ ⟨n, tm, [(id, some ⟨eo, 1, dr (X.map fun l => [encCells l])⟩)], nxt⟩ := by
  have h := weak_fzdyn (n := n) (nxt := nxt) (eo := eo) (mo := 1) (e := e) (m := m) hid htm (spD X)
  rw [← outR_eq] at h
  have e2 : (spD X).map (fun r => [D.sl r]) = X.map fun l => [encCells l] := by simp [spD, Function.comp_def]
  rw [e2] at h
  exact h
theorem nestH_out {eo e m : Nat} (X : List (List Cell)) : nestH eo e m (spD X) = (999999, some ⟨eo, 1, outR X⟩) :: dyn e m 0 (spD X) := by rw [outR_eq]; rfl

set_option maxHeartbeats 8000000 in
theorem spans_row (r b : List Row) (hr : validR r = true) (hb0 : validR b = true) (hn : (regCells r).length ≤ 1000000) : PC Try.prog 32 [.agg (regRow r), .agg (regRow b), .bool false] (.p (encSpans (spansL r b))) := by
  have c1 := rowspans_px r b hr hb0 hn
  have hl : (spD (spansL r b)).length ≤ 1000000000 := by
    have h1 := (opR_facts (f := fD) rfl hr hb0).1
    have h2 := span_num (H := opR fI r b) h1
    have h3 := cells_le h1 hr fun c hc => ((opD_iff hr hb0 c).1 hc).1
    rw [spD_length]
    unfold spansL
    omega
  generalize spansL r b = X at *
  refine pc_of_awp cx (fn := Try.f32) (c := _) Try.func32 rfl rfl (Nat.le_of_ble_eq_true rfl) ?_
  rw [Try.ntmps32]; refine Nav.imp ?_
  refine awp_region cx [] fun K hK => ?_
  simp [push_cast]
  repeat (refine And.intro (by clear hK; intros; first | omega | (simp_all; done) | (simp_all <;> omega)) ?_)
  refine hK _ ?_; clear hK K; refine Nav.imp ?_
  refine awp_region cx [] fun K hK => ?_
  simp [push_cast]
  repeat (refine And.intro (by clear hK; intros; first | omega | (simp_all; done) | (simp_all <;> omega)) ?_)
  refine hK _ ?_; clear hK K; refine Nav.imp ?_
  refine awp_cond (b := true) (by simp [push_cast]) (fun hb => ?_) (fun hb => ?_) <;> (refine Nav.imp ?_)
  · refine awp_region_dynT cx [] [_, _] [_] _ rfl rfl rfl rfl ⟨46, [(14, .d (.agg (regRow r))), (15, .d (.agg (regRow b)))], [], 10⟩ 51 [] rfl [.d (.agg (regRow r)), .d (.agg (regRow b))] 40 31 2 (spD X) c1 hl (by simp [push_cast]) (by simp) (by simp) (fun K hK => ?_) (fun K hK => ?_)
    · simp [push_cast]
      refine hK _ ?_
      refine weak_of [] rfl (by simp [upT, up, upL, push_cast]) (by simp [upH, upR, upL, up, push_cast]) (by simp [namesOk, push_cast]) (by simp [olds])
    · simp [push_cast, nestH_out, spD_length]
      refine hK _ (sq_n ?_)
      clear hK K
      refine awp_weak (weak_fzout (by decide) rfl X) ?_
      refine Nav.imp ?_
      simp [push_cast]
  · simp at hb

theorem spD_set (X : List (List Cell)) (k : Nat) (m : List Cell) : spD (X.set k m) = (spD X).set k (m.map Cell.row) := by simp [spD, List.map_set]

set_option maxHeartbeats 16000000 in
theorem spans_col (r b : List Row) (hr : validR r = true) (hb0 : validR b = true) (hn : (regCells r).length ≤ 1000000) (hnb : (regCells b).length ≤ 1000000) : PC Try.prog 32 [.agg (regRow r), .agg (regRow b), .bool true] (.p (encSpans ((spansL (turnR r) (turnR b)).map (·.map xc)))) := by
  obtain ⟨hr1, _, hr3⟩ := turn_facts hr
  obtain ⟨hb1, _, _⟩ := turn_facts hb0
  have t1 := turned_ok r hr hn
  have t2 := turned_ok b hb0 hnb
  have c1 := rowspans_px (turnR r) (turnR b) hr1 hb1 (by omega)
  have h1 := (opR_facts (f := fD) rfl hr1 hb1).1
  have h3 := cells_le h1 hr1 fun c hc => ((opD_iff hr1 hb1 c).1 hc).1
  have h2 := span_num (H := opR fI (turnR r) (turnR b)) h1
  have hmem : ∀ l ∈ spansL (turnR r) (turnR b), l.length ≤ 1000000 := fun l hl => by
    have := flat_mem hl
    omega
  have hl : (spansL (turnR r) (turnR b)).length ≤ 1000000 := by
    unfold spansL
    omega
  have hl2 : (spD (spansL (turnR r) (turnR b))).length ≤ 1000000000 := by rw [spD_length]; omega
  generalize spansL (turnR r) (turnR b) = X at *
  generalize turnR r = r1 at *
  generalize turnR b = b1 at *
  clear h1 h2 h3 hr1 hb1 hr3
  refine pc_of_awp cx (fn := Try.f32) (c := _) Try.func32 rfl rfl (Nat.le_of_ble_eq_true rfl) ?_
  rw [Try.ntmps32]; refine Nav.imp ?_
  refine awp_region cx [] fun K hK => ?_
  simp [push_cast]
  repeat (refine And.intro (by clear hK; intros; first | omega | (simp_all; done) | (simp_all <;> omega)) ?_)
  refine hK _ ?_; clear hK K; refine Nav.imp ?_
  refine awp_region cx [] fun K hK => ?_
  simp [push_cast]
  repeat (refine And.intro (by clear hK; intros; first | omega | (simp_all; done) | (simp_all <;> omega)) ?_)
  refine hK _ ?_; clear hK K; refine Nav.imp ?_
  refine awp_cond (b := false) (by simp [push_cast]) (fun hb => ?_) (fun hb => ?_) <;> (refine Nav.imp ?_)
  · simp at hb
  · refine awp_region_dyn cx mixed [(1, .p (.agg (regRow r1))), (3, .p (.agg (regRow b1)))] [_, _, _, _] [_] _ rfl rfl rfl rfl (.alt 0 (.alt 1 (.alt 2 (.alt 3 .leaf .stop) .stop) (.alt 2 (.alt 1 (.alt 3 .leaf .stop) .stop) .stop)) (.alt 2 (.alt 0 (.alt 1 (.alt 3 .leaf .stop) .stop) .stop) .stop)) (by kernel_rfl) ⟨46, [(18, .d (.agg (regRow r1))), (20, .d (.agg (regRow b1)))], [], 10⟩ 51 [] rfl [.d (.agg (regRow r1)), .d (.agg (regRow b1))] 40 31 2 (spD X) c1 hl2 (by simp [push_cast]) (by simp) (by simp) (fun K hK => ?_) (fun K hK => ?_)
    · simp [push_cast, wpTr, stepE, t1, t2]
      refine ⟨⟨hK _ ?_, hK _ ?_⟩, hK _ ?_⟩
      · refine weak_of [] rfl (by simp [upT, up, upL, push_cast]) (by simp [upH, upR, upL, up, push_cast]) (by simp [namesOk, push_cast]) (by simp [olds])
      · refine weak_of [] rfl (by simp [upT, up, upL, push_cast]) (by simp [upH, upR, upL, up, push_cast]) (by simp [namesOk, push_cast]) (by simp [olds])
      · refine weak_of [] rfl (by simp [upT, up, upL, push_cast]) (by simp [upH, upR, upL, up, push_cast]) (by simp [namesOk, push_cast]) (by simp [olds])
    · simp [push_cast, nestH_out, spD_length]
      refine hK _ ?_
      clear hK K
      refine Nav.imp ?_
      refine awp_region cx [] fun K hK => ?_
      simp [push_cast]
      repeat (refine And.intro (by clear hK; intros; first | omega | (simp_all; done) | (simp_all <;> omega)) ?_)
      refine hK _ ?_; clear hK K; refine Nav.imp ?_
      refine awp_loop (β := Nat × List (List Cell)) (fun s => ⟨46, [(7, .hs 0 0 s.2.length), (22, .hs 0 0 s.2.length), (23, .d (.int .i64 s.2.length)), (24, .d (.int .i64 s.1))], [(0, some ⟨40, 1, outR s.2⟩)] ++ dyn 31 2 0 (spD s.2), 1000000000000⟩) (fun s => s.1 ≤ X.length ∧ s.2 = (X.take s.1).map (·.map xc) ++ X.drop s.1) (fun s => X.length - s.1) (0, X) ?_ ⟨Nat.zero_le _, by simp⟩ ?_
      · have hl0 : (spD X).length ≤ 1000000 := by rw [spD_length]; exact hl
        have hup := upR_out (σ0 := [(0, some 999999)]) rfl X
        simp only [List.cons_append, List.nil_append] at hup
        refine weak_dyn [(0, some 999999)] (idsN (spD X).length) _ (spD X) rfl rfl ?_ (idsN_length _) rfl (by simp [upT, up, upL, upH, upR, namesOk, olds, find_app, find_dynN0, List.cons_append, List.nil_append, push_cast, hup]) (by simp [upT, up, upL, upH, upR, namesOk, olds, find_app, find_dynN0, List.cons_append, List.nil_append, push_cast, hup]) (by simp [upT, up, upL, upH, upR, namesOk, olds, find_app, find_dynN0, List.cons_append, List.nil_append, push_cast]) (by simp [olds]) (idsN_nodup _) (fun x hx => by have h1 := idsN_mem.1 hx; simp [olds]; omega) (fun j r_ x hr_ hx => by
          obtain ⟨hj, rfl⟩ := idsN_get' hx
          have hjN : ∀ m, (m < 1000000 ∨ 1000000000 < m) → (m = 1000000 + j) = False := fun m hm => by simp; omega
          first | (simp [spD] at hr_; done) | simp [push_cast, find_dyn0, hr_, hjN, hup])
        omega
      · rintro ⟨k, Y⟩ ⟨hk, hY⟩
        simp only at hk hY
        have hYl : Y.length = X.length := by rw [hY]; simp; omega
        refine Nav.imp ?_
        refine awp_region cx [] fun K hK => ?_
        simp [push_cast]
        repeat (refine And.intro (by clear hK; intros; first | omega | (simp_all; done) | (simp_all <;> omega)) ?_)
        refine hK _ ?_; clear hK K; refine Nav.imp ?_
        refine awp_cond (b := decide ((k : Int) < Y.length)) (by simp [push_cast]) (fun hb => ?_) (fun hb => ?_) <;> (refine Nav.imp ?_)
        · have hkX : k < X.length := by have : k < Y.length := by simpa using hb
                                        omega
          obtain ⟨l, hl1⟩ := getq hkX
          have e0 := wrap_i64 (n := (k : Int) + 1) (by omega) (by omega)
          obtain ⟨hyk, hys⟩ := set_stepG hY hl1
          have hll := hmem l (List.mem_of_getElem? hl1)
          have hor := outR_get hyk
          have hsy := spD_get hyk
          have hkN : ∀ m, (m < 1000000 ∨ 1000000000 < m) → (m = 1000000 + k) = False := fun m hm => by simp; omega
          have hkY : k < Y.length := by omega
          refine awp_region cx [] fun K hK => ?_
          simp [push_cast, hor]
          repeat (refine And.intro (by clear hK; intros; first | omega | (simp_all; done) | (simp_all <;> omega)) ?_)
          refine hK _ ?_; clear hK K; refine Nav.imp ?_
          refine awp_region cx [] fun K hK => ?_
          simp [push_cast, hkN, find_dyn0, hsy]
          repeat (refine And.intro (by clear hK; intros; first | omega | (simp_all; done) | (simp_all <;> omega)) ?_)
          refine hK _ ?_; clear hK K; refine Nav.imp ?_
          refine awp_loop (β := Nat × List Cell) (fun s => ⟨46, [(7, .hs 0 0 Y.length), (9, .hs (1000000 + k) 0 l.length), (22, .hs 0 0 Y.length), (23, .d (.int .i64 Y.length)), (24, .d (.int .i64 k)), (28, .hs (1000000 + k) 0 l.length), (29, .d (.int .i64 l.length)), (30, .d (.int .i64 s.1))], [(0, some ⟨40, 1, outR Y⟩)] ++ dyn 31 2 0 (spD (Y.set k s.2)), 1000000000000⟩) (fun s => s.1 ≤ l.length ∧ s.2 = (l.take s.1).map xc ++ l.drop s.1) (fun s => l.length - s.1) (0, l) ?_ ⟨Nat.zero_le _, by simp⟩ ?_
          · have hse : Y.set k l = Y := by
              refine List.ext_getElem? fun j => ?_
              rw [List.getElem?_set]
              split
              · rename_i e; subst e; first | (rw [if_pos hkY, hyk]; done) | exact hyk.symm
              · rfl
            have hl0 : (spD Y).length ≤ 1000000 := by rw [spD_length]; omega
            simp only [hse]
            have hik : (idsN (spD Y).length)[k]? = some (1000000 + k) := idsN_get (by rw [spD_length]; exact hkY)
            have hup := upR_out (σ0 := [(0, some 0)]) rfl Y
            simp only [List.cons_append, List.nil_append] at hup
            refine weak_dyn [(0, some 0)] (idsN (spD Y).length) _ (spD Y) rfl rfl ?_ (idsN_length _) rfl (by simp [upT, up, upL, upH, upR, namesOk, olds, find_app, find_dynN0, List.cons_append, List.nil_append, push_cast, hkN, hik, find_dynN0, hup]) (by simp [upT, up, upL, upH, upR, namesOk, olds, find_app, find_dynN0, List.cons_append, List.nil_append, push_cast, hkN, hik, find_dynN0, hup]) (by simp [upT, up, upL, upH, upR, namesOk, olds, find_app, find_dynN0, List.cons_append, List.nil_append, push_cast]) (by simp [olds]) (idsN_nodup _) (fun x hx => by have h1 := idsN_mem.1 hx; simp [olds]; omega) (fun j r_ x hr_ hx => by
              obtain ⟨hj, rfl⟩ := idsN_get' hx
              have hjN : ∀ m, (m < 1000000 ∨ 1000000000 < m) → (m = 1000000 + j) = False := fun m hm => by simp; omega
              first | (simp [spD] at hr_; done) | simp [push_cast, find_dyn0, hr_, hjN, hkN, hik, find_dynN0, hup])
            omega
          · rintro ⟨i, m⟩ ⟨hi, hm⟩
            simp only at hi hm
            have hml : m.length = l.length := by rw [hm]; simp; omega
            have hSk : (spD (Y.set k m))[k]? = some (m.map Cell.row) := spD_get (by rw [List.getElem?_set]; simp [hkY])
            have hlen2 : (spD (Y.set k m)).length = Y.length := by rw [spD_length, List.length_set]
            refine Nav.imp ?_
            refine awp_region cx [] fun K hK => ?_
            simp [push_cast]
            repeat (refine And.intro (by clear hK; intros; first | omega | (simp_all; done) | (simp_all <;> omega)) ?_)
            refine hK _ ?_; clear hK K; refine Nav.imp ?_
            refine awp_cond (b := decide ((i : Int) < l.length)) (by simp [push_cast]) (fun hb => ?_) (fun hb => ?_) <;> (refine Nav.imp ?_)
            · have hil : i < l.length := by simpa using hb
              obtain ⟨c, hc⟩ := getq hil
              have e1 := wrap_i64 (n := (i : Int) + 1) (by omega) (by omega)
              obtain ⟨hmi, hms⟩ := set_stepG hm hc
              obtain ⟨x, y⟩ := c
              have him : i < m.length := by omega
              have hset : (dr (m.map Cell.row)).set i [AV.d (.int .i64 y), AV.d (.int .i64 x)] = dr ((m.set i (xc ⟨x, y⟩)).map Cell.row) := by
                rw [List.map_set, dr_set]; rfl
              have hSk2 : (spD (Y.set k (m.set i (xc ⟨x, y⟩))))[k]? = some ((m.set i (xc ⟨x, y⟩)).map Cell.row) := spD_get (by rw [List.getElem?_set]; simp [hkY])
              have hSj : ∀ j, j ≠ k → (spD (Y.set k (m.set i (xc ⟨x, y⟩))))[j]? = (spD (Y.set k m))[j]? := fun j hj => by
                rw [spD_set, spD_set, List.getElem?_set, List.getElem?_set, if_neg (Ne.symm hj), if_neg (Ne.symm hj)]
              have hlen3 : (spD (Y.set k (m.set i (xc ⟨x, y⟩)))).length = Y.length := by rw [spD_length, List.length_set]
              generalize m.set i (xc ⟨x, y⟩) = m2 at *
              refine awp_region cx [] fun K hK => ?_
              simp [push_cast, hkN, find_dyn0, hSk, hmi, Cell.row]
              repeat (refine And.intro (by clear hK; intros; first | omega | (simp_all; done) | (simp_all <;> omega)) ?_)
              refine hK _ ?_; clear hK K; refine Nav.imp ?_
              refine awp_region cx [] fun K hK => ?_
              simp [push_cast, hkN, find_dyn0, hSk, hmi, Cell.row, hset]
              repeat (refine And.intro (by clear hK; intros; first | omega | (simp_all; done) | (simp_all <;> omega)) ?_)
              refine hK _ ?_; clear hK K; refine Nav.imp ?_
              refine awp_region cx [] fun K hK => ?_
              simp [push_cast, e1]
              repeat (refine And.intro (by clear hK; intros; first | omega | (simp_all; done) | (simp_all <;> omega)) ?_)
              refine hK _ ?_; clear hK K; refine Nav.imp ?_
              refine ⟨(i + 1, m2), ⟨hil, hms⟩, by simp only; omega, ?_⟩
              have hup := upR_out (σ0 := [(0, some 0)]) rfl Y
              rw [spD_length] at hup
              simp only [List.cons_append, List.nil_append] at hup
              have hik : (idsN Y.length)[k]? = some (1000000 + k) := idsN_get hkY
              refine weak_dyn [(0, some 0)] (idsN Y.length) _ (spD (Y.set k m2)) rfl rfl (by omega) (by rw [idsN_length, hlen3]) rfl (by simp [upT, up, upL, upH, upR, namesOk, olds, find_app, find_dynN0, List.cons_append, List.nil_append, push_cast, hkN, hik]) (by simp [upT, up, upL, upH, upR, namesOk, olds, find_app, find_dynN0, List.cons_append, List.nil_append, push_cast, hup, hkN]) (by simp [namesOk, push_cast]) (by simp [olds]) (idsN_nodup _) (fun x hx => by have h1 := idsN_mem.1 hx; simp [olds]; omega) (fun j r_ x hr_ hx => ?_)
              obtain ⟨hj, rfl⟩ := idsN_get' hx
              have hjN : ∀ m, (m < 1000000 ∨ 1000000000 < m) → (m = 1000000 + j) = False := fun m hm => by simp; omega
              by_cases hjk : j = k
              · subst hjk
                rw [hSk2] at hr_
                cases hr_
                simp [push_cast, hjN]
              · rw [hSj j hjk] at hr_
                have hne : (1000000 + k = 1000000 + j) = False := by simp; omega
                have hne2 : (k = j) = False := by simp; omega
                simp [push_cast, hjN, hne, hne2, find_dyn0, hr_]
            · have hie : i = l.length := by simp at hb; omega
              rw [hie, List.take_length, List.drop_length, List.append_nil] at hm
              subst hm
              have hoe : outR (Y.set k (l.map xc)) = outR Y := outR_set hyk (by simp)
              refine awp_region cx [] fun K hK => ?_
              simp [push_cast, e0]
              repeat (refine And.intro (by clear hK; intros; first | omega | (simp_all; done) | (simp_all <;> omega)) ?_)
              refine hK _ ?_; clear hK K; refine Nav.imp ?_
              refine ⟨(k + 1, Y.set k (l.map xc)), ⟨hkX, hys⟩, by simp only; omega, ?_⟩
              have hup := upR_out (σ0 := [(0, some 0)]) rfl (Y.set k (l.map xc))
              rw [hoe] at hup
              simp only [List.cons_append, List.nil_append] at hup
              have hl0 : (spD (Y.set k (l.map xc))).length ≤ 1000000 := by omega
              have hls : (Y.set k (l.map xc)).length = Y.length := List.length_set ..
              refine weak_dyn [(0, some 0)] (idsN (spD (Y.set k (l.map xc))).length) _ (spD (Y.set k (l.map xc))) rfl rfl ?_ (idsN_length _) rfl (by simp [upT, up, upL, upH, upR, namesOk, olds, find_app, find_dynN0, List.cons_append, List.nil_append, push_cast, hup, hoe, hls]) (by simp [upT, up, upL, upH, upR, namesOk, olds, find_app, find_dynN0, List.cons_append, List.nil_append, push_cast, hup, hoe, hls]) (by simp [upT, up, upL, upH, upR, namesOk, olds, find_app, find_dynN0, List.cons_append, List.nil_append, push_cast]) (by simp [olds]) (idsN_nodup _) (fun x hx => by have h1 := idsN_mem.1 hx; simp [olds]; omega) (fun j r_ x hr_ hx => by
                obtain ⟨hj, rfl⟩ := idsN_get' hx
                have hjN : ∀ m, (m < 1000000 ∨ 1000000000 < m) → (m = 1000000 + j) = False := fun m hm => by simp; omega
                first | (simp [spD] at hr_; done) | simp [push_cast, find_dyn0, hr_, hjN, hup, hoe, hls])
              omega
        · have hke : k = X.length := by simp at hb; omega
          rw [hke, List.take_length, List.drop_length, List.append_nil] at hY
          subst hY
          refine awp_weak (weak_fzout (by decide) rfl _) ?_
          generalize X.map (fun l => l.map xc) = W at *
          have ht : List.take W.length (W.map fun l => [encCells l]) = W.map fun l => [encCells l] := List.take_of_length_le (by simp)
          refine awp_region cx [] fun K hK => ?_
          simp [push_cast]
          repeat (refine And.intro (by clear hK; intros; first | omega | (simp_all; done) | (simp_all <;> omega)) ?_)
          refine hK _ ?_; clear hK K; refine Nav.imp ?_
          simp [push_cast, ht]
end Go.Proofs.Ytknelhiejjdioaa

set_option linter.unusedVariables false
set_option linter.unusedSimpArgs false
namespace Go.Proofs.Ytknelhiejjdioaa
open Go.Abs

/-! The number of cells. -/
def lenN (l : List Run) : Nat := (l.flatMap (runCells 0)).length
theorem lenN_take {l : List Run} {k : Nat} {r : Run} (h : l[k]? = some r) : lenN (l.take (k + 1)) = lenN (l.take k) + (r.b - r.a).toNat := by
  unfold lenN
  rw [flat_take _ h, List.length_append, runCells_len]
theorem rowCells_len (w : Row) : (rowCells w).length = lenN w.runs := by
  unfold rowCells lenN
  rw [List.length_flatMap, List.length_flatMap]
  simp only [runCells_len]
theorem lenN_bound {l : List Run} (h : rvalid l = true) : ∀ k, k ≤ l.length → lenN (l.take k) ≤ k * 2097152
  | 0, _ => by simp [lenN]
  | k + 1, hk => by
    obtain ⟨r, hr⟩ := getq (show k < l.length by omega)
    have h1 := lenN_bound h k (by omega)
    have h2 := fitsB_bd (rvalid_at h hr).2
    rw [lenN_take hr, Nat.succ_mul]
    omega

theorem length_ok (l : List Run) (hl : l.length ≤ 1000000) (hv : rvalid l = true) : PC Try.prog 47 [encRuns l] (.p (.int .i64 (lenN l))) := by
  have c1 := rvalid_ok l hl
  rw [hv] at c1
  refine pc_of_awp cx (fn := Try.f47) (c := _) Try.func47 rfl rfl (Nat.le_of_ble_eq_true rfl) ?_
  rw [Try.ntmps47]; refine Nav.imp ?_
  refine awp_region cx [] fun K hK => ?_
  simp [push_cast]
  repeat (refine And.intro (by clear hK; intros; first | omega | (simp_all; done) | (simp_all <;> omega)) ?_)
  refine hK _ ?_; clear hK K; refine Nav.imp ?_
  refine awp_region cx [(1, .p (.bool true))] fun K hK => ?_
  simp [push_cast, c1]
  repeat (refine And.intro (by clear hK; intros; first | omega | (simp_all; done) | (simp_all <;> omega)) ?_)
  refine hK _ ?_; clear hK K; refine Nav.imp ?_
  refine awp_cond (b := false) (by simp [push_cast]) (fun hb => ?_) (fun hb => ?_) <;> (refine Nav.imp ?_)
  · simp at hb
  · refine awp_region cx [] fun K hK => ?_
    simp [push_cast]
    repeat (refine And.intro (by clear hK; intros; first | omega | (simp_all; done) | (simp_all <;> omega)) ?_)
    refine hK _ ?_; clear hK K; refine Nav.imp ?_
    refine awp_region cx [] fun K hK => ?_
    simp [push_cast]
    repeat (refine And.intro (by clear hK; intros; first | omega | (simp_all; done) | (simp_all <;> omega)) ?_)
    refine hK _ ?_; clear hK K; refine Nav.imp ?_
    refine awp_loop (β := Nat × Nat) (fun b => ⟨24, [(3, .d (.int .i64 b.2)), (9, .d (encRuns l)), (10, .d (.int .i64 l.length)), (11, .d (.int .i64 b.1))], [], 0⟩) (fun b => b.1 ≤ l.length ∧ b.2 = lenN (l.take b.1)) (fun b => l.length - b.1) (0, 0) ?_ ⟨Nat.zero_le _, by simp [lenN]⟩ ?_
    · refine weak_of [] rfl (by simp [upT, up, upL, push_cast]) (by simp [upH, upR, upL, up, push_cast]) (by simp [namesOk, push_cast]) (by simp [olds])
    · rintro ⟨k, n0⟩ ⟨hk, hn⟩
      simp only at hk hn
      refine Nav.imp ?_
      refine awp_region cx [] fun K hK => ?_
      simp [push_cast]
      repeat (refine And.intro (by clear hK; intros; first | omega | (simp_all; done) | (simp_all <;> omega)) ?_)
      refine hK _ ?_; clear hK K; refine Nav.imp ?_
      refine awp_cond (b := decide ((k : Int) < l.length)) (by simp [push_cast]) (fun hb => ?_) (fun hb => ?_) <;> (refine Nav.imp ?_)
      · have hlt : k < l.length := by simpa using hb
        obtain ⟨r, hr⟩ := getq hlt
        have hs := lenN_take hr
        have hbd := lenN_bound hv k (by omega)
        rw [← hn] at hs hbd
        have hrf := rvalid_at hv hr
        have hf := fitsB_bd hrf.2
        obtain ⟨ra, rb⟩ := r
        simp only at hs hrf hf
        have e0 := wrap_i64 (n := (k : Int) + 1) (by omega) (by omega)
        have e1 := wrap_i64 (n := rb - ra) (by omega) (by omega)
        have e2 := wrap_i64 (n := (n0 : Int) + (rb - ra)) (by omega) (by omega)
        have e3 : (n0 : Int) + (rb - ra) = (lenN (l.take (k + 1)) : Nat) := by rw [hs]; omega
        rw [e3] at e2
        generalize hn1 : lenN (l.take (k + 1)) = n1 at *
        refine awp_region cx [] fun K hK => ?_
        simp [push_cast, hr, Run.row]
        repeat (refine And.intro (by clear hK; intros; first | omega | (simp_all; done) | (simp_all <;> omega)) ?_)
        refine hK _ ?_; clear hK K; refine Nav.imp ?_
        refine awp_region cx [] fun K hK => ?_
        simp [push_cast, e1, e2, e3, Run.row]
        repeat (refine And.intro (by clear hK; intros; first | omega | (simp_all; done) | (simp_all <;> omega)) ?_)
        refine hK _ ?_; clear hK K; refine Nav.imp ?_
        refine awp_region cx [] fun K hK => ?_
        simp [push_cast, e0]
        repeat (refine And.intro (by clear hK; intros; first | omega | (simp_all; done) | (simp_all <;> omega)) ?_)
        refine hK _ ?_; clear hK K; refine Nav.imp ?_
        refine ⟨(k + 1, n1), ⟨hlt, hn1.symm⟩, by simp only; omega, ?_⟩
        refine weak_of [] rfl (by simp [upT, up, upL, push_cast]) (by simp [upH, upR, upL, up, push_cast]) (by simp [namesOk, push_cast]) (by simp [olds])
      · have hge : k = l.length := by simp at hb; omega
        subst hge
        rw [List.take_length] at hn
        subst hn
        refine awp_region cx [] fun K hK => ?_
        simp [push_cast]
        repeat (refine And.intro (by clear hK; intros; first | omega | (simp_all; done) | (simp_all <;> omega)) ?_)
        refine hK _ ?_; clear hK K; refine Nav.imp ?_
        simp [push_cast]

def countR (R : List Row) : Nat := if validR R then (regCells R).length else 0
theorem rows_bound {R : List Row} (h : validR R = true) (hR : smallR R) : ∀ i, i ≤ R.length → (rowsTo R i).length ≤ i * 2097152000000
  | 0, _ => by simp [rowsTo]
  | i + 1, hi => by
    obtain ⟨w, hw⟩ := getq (show i < R.length by omega)
    have h1 := rows_bound h hR i (by omega)
    have h2 := lenN_bound (fine_rv (validR_at h hw).2) w.runs.length (Nat.le_refl _)
    have h3 := hR.2 w (List.mem_of_getElem? hw)
    rw [rowsTo_next hw, List.length_append, rowCells_len, Nat.succ_mul]
    rw [List.take_length] at h2
    have := Nat.mul_le_mul_right 2097152 h3
    omega
theorem rows_big {R : List Row} (h : validR R = true) (hR : smallR R) {i : Nat} (hi : i ≤ R.length) : (rowsTo R i).length ≤ 2097152000000000000 := by
  have h1 := rows_bound h hR i hi
  have h2 := hR.1
  have := Nat.mul_le_mul_right 2097152000000 (show i ≤ 1000000 by omega)
  omega

theorem count_ok (R : List Row) (hR : smallR R) : PC Try.prog 22 [.agg (regRow R)] (.p (.int .i64 (countR R))) := by
  have c1 := valid_ok R hR
  have hl := hR.1
  have hC : countR R = if validR R then (regCells R).length else 0 := rfl
  generalize hv : validR R = v at *
  refine pc_of_awp cx (fn := Try.f22) (c := _) Try.func22 rfl rfl (Nat.le_of_ble_eq_true rfl) ?_
  rw [Try.ntmps22]; refine Nav.imp ?_
  refine awp_region cx [] fun K hK => ?_
  simp [push_cast]
  repeat (refine And.intro (by clear hK; intros; first | omega | (simp_all; done) | (simp_all <;> omega)) ?_)
  refine hK _ ?_; clear hK K; refine Nav.imp ?_
  refine awp_region cx [(1, .p (.bool v))] fun K hK => ?_
  simp [push_cast, c1]
  repeat (refine And.intro (by clear hK; intros; first | omega | (simp_all; done) | (simp_all <;> omega)) ?_)
  refine hK _ ?_; clear hK K; refine Nav.imp ?_
  refine awp_cond (b := !v) (by simp [push_cast]) (fun hb => ?_) (fun hb => ?_) <;> (refine Nav.imp ?_)
  · simp at hb
    rw [hC, hb]
    refine awp_region cx [] fun K hK => ?_
    simp [push_cast]
    repeat (refine And.intro (by clear hK; intros; first | omega | (simp_all; done) | (simp_all <;> omega)) ?_)
    refine hK _ ?_; clear hK K; refine Nav.imp ?_
    simp [push_cast]
  · simp at hb
    rw [hb] at hv hC
    rw [hC, if_pos rfl]
    clear hC
    refine awp_region cx [] fun K hK => ?_
    simp [push_cast]
    repeat (refine And.intro (by clear hK; intros; first | omega | (simp_all; done) | (simp_all <;> omega)) ?_)
    refine hK _ ?_; clear hK K; refine Nav.imp ?_
    refine awp_region cx [] fun K hK => ?_
    simp [push_cast]
    repeat (refine And.intro (by clear hK; intros; first | omega | (simp_all; done) | (simp_all <;> omega)) ?_)
    refine hK _ ?_; clear hK K; refine Nav.imp ?_
    refine awp_loop (β := Nat × Nat) (fun b => ⟨23, [(3, .d (.int .i64 b.2)), (10, .d (encRows R)), (11, .d (.int .i64 R.length)), (12, .d (.int .i64 b.1))], [], 0⟩) (fun b => b.1 ≤ R.length ∧ b.2 = (rowsTo R b.1).length) (fun b => R.length - b.1) (0, 0) ?_ ⟨Nat.zero_le _, by simp [rowsTo]⟩ ?_
    · refine weak_of [] rfl (by simp [upT, up, upL, push_cast]) (by simp [upH, upR, upL, up, push_cast]) (by simp [namesOk, push_cast]) (by simp [olds])
    · rintro ⟨k, n0⟩ ⟨hk, hn⟩
      simp only at hk hn
      refine Nav.imp ?_
      refine awp_region cx [] fun K hK => ?_
      simp [push_cast]
      repeat (refine And.intro (by clear hK; intros; first | omega | (simp_all; done) | (simp_all <;> omega)) ?_)
      refine hK _ ?_; clear hK K; refine Nav.imp ?_
      refine awp_cond (b := decide ((k : Int) < R.length)) (by simp [push_cast]) (fun hb => ?_) (fun hb => ?_) <;> (refine Nav.imp ?_)
      · have hlt : k < R.length := by simpa using hb
        obtain ⟨w, hw⟩ := getq hlt
        have hs : (rowsTo R (k + 1)).length = n0 + lenN w.runs := by rw [rowsTo_next hw, List.length_append, rowCells_len, hn]
        have hbd := rows_big hv hR (i := k + 1) hlt
        have c2 := length_ok w.runs (hR.2 w (List.mem_of_getElem? hw)) (fine_rv (validR_at hv hw).2)
        have e0 := wrap_i64 (n := (k : Int) + 1) (by omega) (by omega)
        have e2 := wrap_i64 (n := (n0 : Int) + (lenN w.runs : Nat)) (by omega) (by omega)
        have e3 : (n0 : Int) + (lenN w.runs : Nat) = ((rowsTo R (k + 1)).length : Nat) := by rw [hs]; omega
        rw [e3] at e2
        generalize hn1 : (rowsTo R (k + 1)).length = n1 at *
        obtain ⟨y, ru⟩ := w
        simp only at c2 e3
        generalize lenN ru = m at *
        refine awp_region cx [] fun K hK => ?_
        simp [push_cast, hw, Row.row]
        repeat (refine And.intro (by clear hK; intros; first | omega | (simp_all; done) | (simp_all <;> omega)) ?_)
        refine hK _ ?_; clear hK K; refine Nav.imp ?_
        refine awp_region cx [(3, .p (.int .i64 m))] fun K hK => ?_
        simp [push_cast, c2, e2, e3, Row.row]
        repeat (refine And.intro (by clear hK; intros; first | omega | (simp_all; done) | (simp_all <;> omega)) ?_)
        refine hK _ ?_; clear hK K; refine Nav.imp ?_
        refine awp_region cx [] fun K hK => ?_
        simp [push_cast, e0]
        repeat (refine And.intro (by clear hK; intros; first | omega | (simp_all; done) | (simp_all <;> omega)) ?_)
        refine hK _ ?_; clear hK K; refine Nav.imp ?_
        refine ⟨(k + 1, n1), ⟨hlt, hn1.symm⟩, by simp only; omega, ?_⟩
        refine weak_of [] rfl (by simp [upT, up, upL, push_cast]) (by simp [upH, upR, upL, up, push_cast]) (by simp [namesOk, push_cast]) (by simp [olds])
      · have hge : k = R.length := by simp at hb; omega
        subst hge
        rw [rowsTo_all] at hn
        subst hn
        refine awp_region cx [] fun K hK => ?_
        simp [push_cast]
        repeat (refine And.intro (by clear hK; intros; first | omega | (simp_all; done) | (simp_all <;> omega)) ?_)
        refine hK _ ?_; clear hK K; refine Nav.imp ?_
        simp [push_cast]

theorem rcount_big (R : List Row) (hR0 : bigR R) (hR1 : validR R = true → smallR R) : PC Try.prog 27 [.agg (regRow R)] (.p (.int .i64 (countR R))) := by
  have c1 := validR_big R hR0
  have hC : countR R = if validR R then (regCells R).length else 0 := rfl
  generalize hv : validR R = v at *
  refine pc_of_awp cx (fn := Try.f27) (c := _) Try.func27 rfl rfl (Nat.le_of_ble_eq_true rfl) ?_
  rw [Try.ntmps27]; refine Nav.imp ?_
  refine awp_region cx [] fun K hK => ?_
  simp [push_cast]
  repeat (refine And.intro (by clear hK; intros; first | omega | (simp_all; done) | (simp_all <;> omega)) ?_)
  refine hK _ ?_; clear hK K; refine Nav.imp ?_
  refine awp_region cx [] fun K hK => ?_
  simp [push_cast]
  repeat (refine And.intro (by clear hK; intros; first | omega | (simp_all; done) | (simp_all <;> omega)) ?_)
  refine hK _ ?_; clear hK K; refine Nav.imp ?_
  refine awp_region cx [(1, .p (.bool v))] fun K hK => ?_
  simp [push_cast, c1]
  repeat (refine And.intro (by clear hK; intros; first | omega | (simp_all; done) | (simp_all <;> omega)) ?_)
  refine hK _ ?_; clear hK K; refine Nav.imp ?_
  refine awp_cond (b := !v) (by simp [push_cast]) (fun hb => ?_) (fun hb => ?_) <;> (refine Nav.imp ?_)
  · simp at hb
    rw [hC, hb]
    refine awp_region cx [] fun K hK => ?_
    simp [push_cast]
    repeat (refine And.intro (by clear hK; intros; first | omega | (simp_all; done) | (simp_all <;> omega)) ?_)
    refine hK _ ?_; clear hK K; refine Nav.imp ?_
    simp [push_cast]
  · simp at hb
    rw [hb] at hv hC
    rw [hC, if_pos rfl]
    clear hC
    have hR := hR1 hb
    have hl := hR.1
    refine awp_region cx [] fun K hK => ?_
    simp [push_cast]
    repeat (refine And.intro (by clear hK; intros; first | omega | (simp_all; done) | (simp_all <;> omega)) ?_)
    refine hK _ ?_; clear hK K; refine Nav.imp ?_
    refine awp_loop (β := Nat × Nat) (fun b => ⟨52, [(1, .ptr 0 0 0), (3, .d (.int .i64 b.2)), (4, .d (.int .i64 b.1))], [(0, some ⟨24, 1, [(regRow R).map .d]⟩)], 1⟩) (fun b => b.1 ≤ R.length ∧ b.2 = (rowsTo R b.1).length) (fun b => R.length - b.1) (0, 0) ?_ ⟨Nat.zero_le _, by simp [rowsTo]⟩ ?_
    · refine weak_of [(0, some 0)] rfl (by simp [upT, up, upL, push_cast]) (by simp [upH, upR, upL, up, push_cast]) (by simp [namesOk, push_cast]) (by simp [olds])
    · rintro ⟨k, n0⟩ ⟨hk, hn⟩
      simp only at hk hn
      refine Nav.imp ?_
      refine awp_region cx [] fun K hK => ?_
      simp [push_cast]
      repeat (refine And.intro (by clear hK; intros; first | omega | (simp_all; done) | (simp_all <;> omega)) ?_)
      refine hK _ ?_; clear hK K; refine Nav.imp ?_
      refine awp_cond (b := decide ((k : Int) < R.length)) (by simp [push_cast]) (fun hb => ?_) (fun hb => ?_) <;> (refine Nav.imp ?_)
      · have hlt : k < R.length := by simpa using hb
        obtain ⟨w, hw⟩ := getq hlt
        have hs : (rowsTo R (k + 1)).length = n0 + lenN w.runs := by rw [rowsTo_next hw, List.length_append, rowCells_len, hn]
        have hbd := rows_big hv hR (i := k + 1) hlt
        have hwl := hR.2 w (List.mem_of_getElem? hw)
        have hfi := (validR_at hv hw).2
        have e0 := wrap_i64 (n := (k : Int) + 1) (by omega) (by omega)
        refine awp_region cx [] fun K hK => ?_
        simp [push_cast]
        repeat (refine And.intro (by clear hK; intros; first | omega | (simp_all; done) | (simp_all <;> omega)) ?_)
        refine hK _ ?_; clear hK K; refine Nav.imp ?_
        refine awp_loop (β := Nat × Nat) (fun b => ⟨52, [(1, .ptr 0 0 0), (3, .d (.int .i64 b.2)), (4, .d (.int .i64 k)), (5, .d (.int .i64 b.1))], [(0, some ⟨24, 1, [(regRow R).map .d]⟩)], 1⟩) (fun b => b.1 ≤ w.runs.length ∧ b.2 = n0 + lenN (w.runs.take b.1)) (fun b => w.runs.length - b.1) (0, n0) ?_ ⟨Nat.zero_le _, by simp [lenN]⟩ ?_
        · refine weak_of [(0, some 0)] rfl (by simp [upT, up, upL, push_cast]) (by simp [upH, upR, upL, up, push_cast]) (by simp [namesOk, push_cast]) (by simp [olds])
        · rintro ⟨j, n1⟩ ⟨hj, hn1⟩
          simp only at hj hn1
          refine Nav.imp ?_
          refine awp_region cx [] fun K hK => ?_
          simp [push_cast, hw, Row.row]
          repeat (refine And.intro (by clear hK; intros; first | omega | (simp_all; done) | (simp_all <;> omega)) ?_)
          refine hK _ ?_; clear hK K; refine Nav.imp ?_
          refine awp_cond (b := decide ((j : Int) < w.runs.length)) (by simp [push_cast]) (fun hb => ?_) (fun hb => ?_) <;> (refine Nav.imp ?_)
          · have hjl : j < w.runs.length := by simpa using hb
            obtain ⟨r, hr⟩ := getq hjl
            have hs2 := lenN_take hr
            have hbj := lenN_bound (fine_rv hfi) j (by omega)
            have hbig := rows_big hv hR hk
            have hrf := fine_at hfi hr
            obtain ⟨ra, rb⟩ := r
            simp only at hs2 hrf
            have e1 := wrap_i64 (n := (j : Int) + 1) (by omega) (by omega)
            have e4 := wrap_i64 (n := rb - ra) (by omega) (by omega)
            have e2 := wrap_i64 (n := (n1 : Int) + (rb - ra)) (by omega) (by omega)
            have e3 : (n1 : Int) + (rb - ra) = ((n0 + lenN (w.runs.take (j + 1)) : Nat) : Int) := by rw [hs2]; omega
            generalize hn2 : n0 + lenN (w.runs.take (j + 1)) = n2 at *
            rw [e3] at e2
            refine awp_region_draw cx mixed [] fun K hK => ?_
            simp [push_cast, hw, hr, e4, e2, e3, Row.row, Run.row]
            repeat (refine And.intro (by clear hK; intros; first | omega | (simp_all; done) | (simp_all <;> omega)) ?_)
            refine hK _ _ (by kernel_rfl) ?_; clear hK K; refine Nav.imp ?_
            refine awp_region cx [] fun K hK => ?_
            simp [push_cast, e1]
            repeat (refine And.intro (by clear hK; intros; first | omega | (simp_all; done) | (simp_all <;> omega)) ?_)
            refine hK _ ?_; clear hK K; refine Nav.imp ?_
            refine ⟨(j + 1, n2), ⟨hjl, hn2.symm⟩, by simp only; omega, ?_⟩
            refine weak_of [(0, some 0)] rfl (by simp [upT, up, upL, push_cast]) (by simp [upH, upR, upL, up, push_cast]) (by simp [namesOk, push_cast]) (by simp [olds])
          · have hjn : j = w.runs.length := by simp at hb; omega
            subst hjn
            rw [List.take_length] at hn1
            rw [← hn1] at hs
            refine awp_region cx [] fun K hK => ?_
            simp [push_cast, e0]
            repeat (refine And.intro (by clear hK; intros; first | omega | (simp_all; done) | (simp_all <;> omega)) ?_)
            refine hK _ ?_; clear hK K; refine Nav.imp ?_
            refine ⟨(k + 1, n1), ⟨hlt, hs.symm⟩, by simp only; omega, ?_⟩
            refine weak_of [(0, some 0)] rfl (by simp [upT, up, upL, push_cast]) (by simp [upH, upR, upL, up, push_cast]) (by simp [namesOk, push_cast]) (by simp [olds])
      · have hge : k = R.length := by simp at hb; omega
        subst hge
        rw [rowsTo_all] at hn
        subst hn
        refine awp_region cx [] fun K hK => ?_
        simp [push_cast]
        repeat (refine And.intro (by clear hK; intros; first | omega | (simp_all; done) | (simp_all <;> omega)) ?_)
        refine hK _ ?_; clear hK K; refine Nav.imp ?_
        simp [push_cast]

theorem rcount_ok (R : List Row) (hR : smallR R) : PC Try.prog 27 [.agg (regRow R)] (.p (.int .i64 (countR R))) := rcount_big R (big_of hR) fun _ => hR

/-! Small regions. -/
def smallB (R : List Row) : Bool := decide (R.length ≤ 40) && R.all (fun w => decide (w.runs.length ≤ 40)) && decide (countR R ≤ 600)
theorem small_of {R : List Row} (h1 : R.length ≤ 40) (h2 : ∀ w ∈ R, w.runs.length ≤ 40) : smallR R := ⟨by omega, fun w hw => by have := h2 w hw; omega⟩
theorem smallB_facts {R : List Row} (h : smallB R = true) : R.length ≤ 40 ∧ (∀ w ∈ R, w.runs.length ≤ 40) ∧ countR R ≤ 600 := by
  simp [smallB] at h
  exact ⟨h.1.1, h.1.2, h.2⟩
end Go.Proofs.Ytknelhiejjdioaa

set_option linter.unusedVariables false
set_option linter.unusedSimpArgs false
set_option maxRecDepth 100000
namespace Go.Proofs.Ytknelhiejjdioaa
open Go.Abs

def anchR (r b : List Row) (up : Bool) : List Row := if validR r && validR b then coverR (spansU r b up) else []
def moreUp (r b : List Row) : Bool := decide (countR (coverR (spansU r b false)) < countR (coverR (spansU r b true)))
def brL (r b : List Row) : List (List Cell) := if validR r && validR b then spansU r b (moreUp r b) else []
def brRest (r b : List Row) : List Row := if validR r && validR b then opR fD (opR fD r b) (coverR (brL r b)) else []
def brT (l : List Cell) : Track := ⟨5, false, l⟩

/-- A region that is valid has at most 1000000 cells. -/
def fewC (R : List Row) : Prop := bigR R ∧ (validR R = true → (regCells R).length ≤ 1000000)

theorem spansU_facts {r b : List Row} (hr : validR r = true) (hb : validR b = true) (up : Bool) : (spansU r b up).flatten.Nodup ∧ (∀ c ∈ (spansU r b up).flatten, onG c = true) ∧ (spansU r b up).flatten.length ≤ (regCells r).length ∧ (spansU r b up).length ≤ (regCells r).length := by
  have plain : ∀ r b : List Row, validR r = true → validR b = true → (spansL r b).flatten.Nodup ∧ (∀ c ∈ (spansL r b).flatten, onG c = true) ∧ (spansL r b).flatten.length ≤ (regCells r).length ∧ (spansL r b).length ≤ (regCells r).length := by
    intro r b hr hb
    have h1 := (opR_facts (f := fD) rfl hr hb).1
    have h3 := cells_le h1 hr fun c hc => ((opD_iff hr hb c).1 hc).1
    have hs := span_sub (opR fD r b) (opR fI r b)
    exact ⟨hs.nodup (nodup_of_ltY (cells_pw h1)), fun c hc => cells_on h1 (hs.subset hc), Nat.le_trans hs.length_le h3, Nat.le_trans (span_num h1) h3⟩
  cases up with
  | false => exact plain r b hr hb
  | true =>
    obtain ⟨t1, _, t3⟩ := turn_facts hr
    obtain ⟨t4, _, _⟩ := turn_facts hb
    obtain ⟨p1, p2, p3, p4⟩ := plain _ _ t1 t4
    have e : (spansU r b true).flatten = (spansL (turnR r) (turnR b)).flatten.map xc := by
      show ((spansL (turnR r) (turnR b)).map (·.map xc)).flatten = _
      rw [List.map_flatten]
    rw [e]
    refine ⟨xc_nodup p1, xc_all p2, by rw [List.length_map]; omega, ?_⟩
    show ((spansL (turnR r) (turnR b)).map (·.map xc)).length ≤ _
    rw [List.length_map]; omega
theorem cover_facts {r b : List Row} (hr : validR r = true) (hb : validR b = true) (up : Bool) : validR (coverR (spansU r b up)) = true ∧ (∀ c, c ∈ regCells (coverR (spansU r b up)) ↔ c ∈ (spansU r b up).flatten) ∧ countR (coverR (spansU r b up)) = (spansU r b up).flatten.length := by
  obtain ⟨h1, h2, _⟩ := spansU_facts hr hb up
  obtain ⟨h3, h4, h5⟩ := of_set h1 h2
  refine ⟨h3, h4, ?_⟩
  unfold countR coverR
  rw [h3, if_pos rfl, h5]

theorem spans_ok (r b : List Row) (up : Bool) (hr : validR r = true) (hb0 : validR b = true) (hn : (regCells r).length ≤ 1000000) (hnb : (regCells b).length ≤ 1000000) : PC Try.prog 32 [.agg (regRow r), .agg (regRow b), .bool up] (.p (encSpans (spansU r b up))) := by
  cases up with
  | false => exact spans_row r b hr hb0 hn
  | true => exact spans_col r b hr hb0 hn hnb

theorem bvalid_ok (r b : List Row) (hr : bigR r) (hb0 : bigR b) : PC Try.prog 30 [.agg (regRow r), .agg (regRow b)] (.p (.bool (validR r && validR b))) := by
  have c1 := valid_big r hr
  have c2 := valid_big b hb0
  generalize validR r = p at *
  generalize validR b = q at *
  refine pc_of_awp cx (fn := Try.f30) (c := _) Try.func30 rfl rfl (Nat.le_of_ble_eq_true rfl) ?_
  rw [Try.ntmps30]; refine Nav.imp ?_
  refine awp_region cx [] fun K hK => ?_
  simp [push_cast]
  repeat (refine And.intro (by clear hK; intros; first | omega | (simp_all; done) | (simp_all <;> omega)) ?_)
  refine hK _ ?_; clear hK K; refine Nav.imp ?_
  cases p with
  | true =>
    refine awp_region cx [(1, .p (.bool true)), (4, .p (.bool q))] fun K hK => ?_
    simp [push_cast, c1, c2]
    repeat (refine And.intro (by clear hK; intros; first | omega | (simp_all; done) | (simp_all <;> omega)) ?_)
    refine hK _ ?_; clear hK K; refine Nav.imp ?_
    simp [push_cast]
  | false =>
    refine awp_region cx [(1, .p (.bool false)), (4, .skip)] fun K hK => ?_
    simp [push_cast, c1]
    repeat (refine And.intro (by clear hK; intros; first | omega | (simp_all; done) | (simp_all <;> omega)) ?_)
    refine hK _ ?_; clear hK K; refine Nav.imp ?_
    simp [push_cast]

theorem anchored_ok (r b : List Row) (up : Bool) (hr : fewC r) (hb0 : fewC b) : PC Try.prog 10 [.agg (regRow r), .agg (regRow b), .bool up] (.p (.agg (regRow (anchR r b up)))) := by
  have c1 := bvalid_ok r b hr.1 hb0.1
  have hA : anchR r b up = if validR r && validR b then coverR (spansU r b up) else [] := rfl
  cases hv : (validR r && validR b) with
  | false =>
    rw [hv] at c1 hA
    rw [hA, if_neg (by simp)]
    refine pc_of_awp cx (fn := Try.f10) (c := _) Try.func10 rfl rfl (Nat.le_of_ble_eq_true rfl) ?_
    rw [Try.ntmps10]; refine Nav.imp ?_
    refine awp_region cx [] fun K hK => ?_
    simp [push_cast]
    repeat (refine And.intro (by clear hK; intros; first | omega | (simp_all; done) | (simp_all <;> omega)) ?_)
    refine hK _ ?_; clear hK K; refine Nav.imp ?_
    refine awp_region cx [(2, .p (.bool false))] fun K hK => ?_
    simp [push_cast, c1]
    repeat (refine And.intro (by clear hK; intros; first | omega | (simp_all; done) | (simp_all <;> omega)) ?_)
    refine hK _ ?_; clear hK K; refine Nav.imp ?_
    refine awp_cond (b := true) (by simp [push_cast]) (fun hb => ?_) (fun hb => ?_) <;> (refine Nav.imp ?_)
    · refine awp_region cx [] fun K hK => ?_
      simp [push_cast]
      repeat (refine And.intro (by clear hK; intros; first | omega | (simp_all; done) | (simp_all <;> omega)) ?_)
      refine hK _ ?_; clear hK K; refine Nav.imp ?_
      simp [push_cast]
    · simp at hb
  | true =>
    rw [hv] at c1 hA
    rw [hA, if_pos rfl]
    simp only [Bool.and_eq_true] at hv
    obtain ⟨hv1, hv2⟩ := hv
    have h1 := hr.2 hv1
    have c2 := spans_ok r b up hv1 hv2 h1 (hb0.2 hv2)
    obtain ⟨_, _, f3, f4⟩ := spansU_facts hv1 hv2 up
    have c3 := covered_ok (spansU r b up) (by omega) (by omega)
    generalize coverR (spansU r b up) = W at *
    generalize spansU r b up = L at *
    refine pc_of_awp cx (fn := Try.f10) (c := _) Try.func10 rfl rfl (Nat.le_of_ble_eq_true rfl) ?_
    rw [Try.ntmps10]; refine Nav.imp ?_
    refine awp_region cx [] fun K hK => ?_
    simp [push_cast]
    repeat (refine And.intro (by clear hK; intros; first | omega | (simp_all; done) | (simp_all <;> omega)) ?_)
    refine hK _ ?_; clear hK K; refine Nav.imp ?_
    refine awp_region cx [(2, .p (.bool true))] fun K hK => ?_
    simp [push_cast, c1]
    repeat (refine And.intro (by clear hK; intros; first | omega | (simp_all; done) | (simp_all <;> omega)) ?_)
    refine hK _ ?_; clear hK K; refine Nav.imp ?_
    refine awp_cond (b := false) (by simp [push_cast]) (fun hb => ?_) (fun hb => ?_) <;> (refine Nav.imp ?_)
    · simp at hb
    · refine awp_region cx [(3, .p (encSpans L)), (4, .p (.agg (regRow W)))] fun K hK => ?_
      simp [push_cast, c2, c3]
      repeat (refine And.intro (by clear hK; intros; first | omega | (simp_all; done) | (simp_all <;> omega)) ?_)
      refine hK _ ?_; clear hK K; refine Nav.imp ?_
      simp [push_cast]
end Go.Proofs.Ytknelhiejjdioaa

set_option linter.unusedVariables false
set_option linter.unusedSimpArgs false
set_option maxRecDepth 100000
namespace Go.Proofs.Ytknelhiejjdioaa
open Go.Abs

set_option maxHeartbeats 8000000 in
theorem bridges_ok (r b : List Row) (hr : fewC r) (hb0 : fewC b) : PC Try.prog 20 [.agg (regRow r), .agg (regRow b)] (.p (.tup [encTracks ((brL r b).map brT), .agg (regRow (brRest r b))])) := by
  have c1 := bvalid_ok r b hr.1 hb0.1
  have hL : brL r b = if validR r && validR b then spansU r b (moreUp r b) else [] := rfl
  have hR : brRest r b = if validR r && validR b then opR fD (opR fD r b) (coverR (brL r b)) else [] := rfl
  cases hv : (validR r && validR b) with
  | false =>
    rw [hv] at c1 hL hR
    rw [if_neg (by simp)] at hL hR
    rw [hL, hR]
    refine pc_of_awp cx (fn := Try.f20) (c := _) Try.func20 rfl rfl (Nat.le_of_ble_eq_true rfl) ?_
    rw [Try.ntmps20]; refine Nav.imp ?_
    refine awp_region cx [] fun K hK => ?_
    simp [push_cast]
    repeat (refine And.intro (by clear hK; intros; first | omega | (simp_all; done) | (simp_all <;> omega)) ?_)
    refine hK _ ?_; clear hK K; refine Nav.imp ?_
    refine awp_region cx [(2, .p (.bool false))] fun K hK => ?_
    simp [push_cast, c1]
    repeat (refine And.intro (by clear hK; intros; first | omega | (simp_all; done) | (simp_all <;> omega)) ?_)
    refine hK _ ?_; clear hK K; refine Nav.imp ?_
    refine awp_cond (b := true) (by simp [push_cast]) (fun hb => ?_) (fun hb => ?_) <;> (refine Nav.imp ?_)
    · refine awp_region cx [] fun K hK => ?_
      simp [push_cast]
      repeat (refine And.intro (by clear hK; intros; first | omega | (simp_all; done) | (simp_all <;> omega)) ?_)
      refine hK _ ?_; clear hK K; refine Nav.imp ?_
      simp [push_cast]
    · simp at hb
  | true =>
    rw [hv] at c1 hL hR
    rw [if_pos rfl] at hL hR
    simp only [Bool.and_eq_true] at hv
    obtain ⟨hv1, hv2⟩ := hv
    have h1 := hr.2 hv1
    have h2 := hb0.2 hv2
    have s1 := spans_ok r b false hv1 hv2 h1 h2
    have s2 := spans_ok r b true hv1 hv2 h1 h2
    obtain ⟨_, _, f3, f4⟩ := spansU_facts hv1 hv2 false
    obtain ⟨_, _, g3, g4⟩ := spansU_facts hv1 hv2 true
    have k1 := covered_ok (spansU r b false) (by omega) (by omega)
    have k2 := covered_ok (spansU r b true) (by omega) (by omega)
    obtain ⟨v1, _, n1⟩ := cover_facts hv1 hv2 false
    obtain ⟨v2, _, n2⟩ := cover_facts hv1 hv2 true
    have m1 := count_ok _ (small_valid v1)
    have m2 := count_ok _ (small_valid v2)
    have hD := (opR_facts (f := fD) rfl hv1 hv2).1
    have q1 := bloose_ok r b (big_of (small_valid hv1)) (big_of (small_valid hv2))
    have hmu : moreUp r b = decide (countR (coverR (spansU r b false)) < countR (coverR (spansU r b true))) := rfl
    have hLl : (brL r b).length ≤ 1000000 := by rw [hL]; cases moreUp r b <;> omega
    have hLm : ∀ l ∈ brL r b, l.length ≤ 1000000 := fun l hl => by
      refine Nat.le_trans (List.sublist_flatten_of_mem hl).length_le ?_
      rw [hL]; cases moreUp r b <;> omega
    have vC : validR (coverR (brL r b)) = true := by rw [hL]; cases moreUp r b <;> assumption
    have q2 := subtractR_ok (opR fD r b) (coverR (brL r b)) (small_valid hD) (small_valid vC)
    rw [← hR] at q2
    have hC : coverR (brL r b) = if moreUp r b then coverR (spansU r b true) else coverR (spansU r b false) := by rw [hL]; cases moreUp r b <;> rfl
    have hL : brL r b = if moreUp r b then spansU r b true else spansU r b false := by rw [hL]; cases moreUp r b <;> rfl
    clear vC hR hD v1 v2 f3 f4 g3 g4 h1 h2 hv1 hv2
    generalize coverR (brL r b) = C at *
    generalize brRest r b = W at *
    generalize brL r b = L at *
    generalize opR fD r b = D at *
    generalize coverR (spansU r b false) = C1 at *
    generalize coverR (spansU r b true) = C2 at *
    rw [n1] at m1 hmu
    rw [n2] at m2 hmu
    generalize (spansU r b false).flatten.length = j1 at *
    generalize (spansU r b true).flatten.length = j2 at *
    generalize spansU r b false = L1 at *
    generalize spansU r b true = L2 at *
    generalize moreUp r b = ud at *
    have hmu2 : decide ((j1 : Int) < (j2 : Int)) = ud := by rw [hmu]; simp
    refine pc_of_awp cx (fn := Try.f20) (c := _) Try.func20 rfl rfl (Nat.le_of_ble_eq_true rfl) ?_
    rw [Try.ntmps20]; refine Nav.imp ?_
    refine awp_region cx [] fun K hK => ?_
    simp [push_cast]
    repeat (refine And.intro (by clear hK; intros; first | omega | (simp_all; done) | (simp_all <;> omega)) ?_)
    refine hK _ ?_; clear hK K; refine Nav.imp ?_
    refine awp_region cx [(2, .p (.bool true))] fun K hK => ?_
    simp [push_cast, c1]
    repeat (refine And.intro (by clear hK; intros; first | omega | (simp_all; done) | (simp_all <;> omega)) ?_)
    refine hK _ ?_; clear hK K; refine Nav.imp ?_
    refine awp_cond (b := false) (by simp [push_cast]) (fun hb => ?_) (fun hb => ?_) <;> (refine Nav.imp ?_)
    · simp at hb
    · refine awp_region cx [(2, .p (encSpans L1))] fun K hK => ?_
      simp [push_cast, s1]
      repeat (refine And.intro (by clear hK; intros; first | omega | (simp_all; done) | (simp_all <;> omega)) ?_)
      refine hK _ ?_; clear hK K; refine Nav.imp ?_
      refine awp_region cx [(1, .p (.agg (regRow C1)))] fun K hK => ?_
      simp [push_cast, k1]
      repeat (refine And.intro (by clear hK; intros; first | omega | (simp_all; done) | (simp_all <;> omega)) ?_)
      refine hK _ ?_; clear hK K; refine Nav.imp ?_
      refine awp_region cx [(2, .p (encSpans L2))] fun K hK => ?_
      simp [push_cast, s2]
      repeat (refine And.intro (by clear hK; intros; first | omega | (simp_all; done) | (simp_all <;> omega)) ?_)
      refine hK _ ?_; clear hK K; refine Nav.imp ?_
      refine awp_region cx [(1, .p (.agg (regRow C2)))] fun K hK => ?_
      simp [push_cast, k2]
      repeat (refine And.intro (by clear hK; intros; first | omega | (simp_all; done) | (simp_all <;> omega)) ?_)
      refine hK _ ?_; clear hK K; refine Nav.imp ?_
      refine awp_region_draw cx mixed [(1, .p (.int .i64 j2)), (3, .p (.int .i64 j1))] fun K hK => ?_
      simp [push_cast, m1, m2, hmu2]
      repeat (refine And.intro (by clear hK; intros; first | omega | (simp_all; done) | (simp_all <;> omega)) ?_)
      refine hK _ _ (by kernel_rfl) ?_; clear hK K; refine Nav.imp ?_
      apply cut_
      · intro key
        cases ud with
        | true =>
          rw [if_pos rfl] at hL hC
          subst hL hC
          have hj : j1 < j2 := by simpa using hmu.symm
          refine awp_cond (b := true) (by simp [push_cast, hj]) (fun hb => ?_) (fun hb => ?_) <;> (refine Nav.imp ?_)
          · refine awp_region_draw cx mixed [] fun K hK => ?_
            simp [push_cast]
            repeat (refine And.intro (by clear hK; intros; first | omega | (simp_all; done) | (simp_all <;> omega)) ?_)
            refine hK _ _ (by kernel_rfl) ?_; clear hK K; refine Nav.imp ?_
            refine awp_weak (s' := ⟨61, [(2, .ptr 0 0 0), (3, .ptr 1 0 0), (5, .ptr 2 0 0), (6, .d (encSpans L)), (7, .ptr 3 0 0)], [(0, some ⟨24, 1, [(regRow r).map .d]⟩), (1, some ⟨24, 1, [(regRow b).map .d]⟩), (2, some ⟨24, 1, [[.nl]]⟩), (3, some ⟨24, 1, [(regRow C).map .d]⟩)], 4⟩) ?_ key.h
            refine weak_of [(0, some 0), (1, some 1), (2, some 3), (3, some 14)] rfl (by simp [upT, up, upL, push_cast]) (by simp [upH, upR, upL, up, push_cast]) (by simp [namesOk, push_cast]) (by simp [olds])
          · simp at hb
        | false =>
          rw [if_neg (by simp)] at hL hC
          subst hL hC
          have hj : j2 ≤ j1 := by simpa using hmu.symm
          refine awp_cond (b := false) (by simp [push_cast, hj]) (fun hb => ?_) (fun hb => ?_) <;> (refine Nav.imp ?_)
          · simp at hb
          · refine awp_weak (s' := ⟨61, [(2, .ptr 0 0 0), (3, .ptr 1 0 0), (5, .ptr 2 0 0), (6, .d (encSpans L)), (7, .ptr 3 0 0)], [(0, some ⟨24, 1, [(regRow r).map .d]⟩), (1, some ⟨24, 1, [(regRow b).map .d]⟩), (2, some ⟨24, 1, [[.nl]]⟩), (3, some ⟨24, 1, [(regRow C).map .d]⟩)], 4⟩) ?_ key.h
            refine weak_of [(0, some 0), (1, some 1), (2, some 3), (3, some 14)] rfl (by simp [upT, up, upL, push_cast]) (by simp [upH, upR, upL, up, push_cast]) (by simp [namesOk, push_cast]) (by simp [olds])
      · clear hL hC
        refine awp_region cx [] fun K hK => ?_
        simp [push_cast]
        repeat (refine And.intro (by clear hK; intros; first | omega | (simp_all; done) | (simp_all <;> omega)) ?_)
        refine hK _ ?_; clear hK K; refine Nav.imp ?_
        refine awp_region cx [] fun K hK => ?_
        simp [push_cast]
        repeat (refine And.intro (by clear hK; intros; first | omega | (simp_all; done) | (simp_all <;> omega)) ?_)
        refine hK _ ?_; clear hK K; refine Nav.imp ?_
        refine awp_loop (β := Nat × List Track) (fun s => ⟨61, [(2, .ptr 0 0 0), (3, .ptr 1 0 0), (5, .ptr 2 0 0), (7, .ptr 3 0 0), (10, .hs 4 0 s.2.length), (36, .d (encSpans L)), (37, .d (.int .i64 L.length)), (38, .d (.int .i64 s.1))], [(0, some ⟨24, 1, [(regRow r).map .d]⟩), (1, some ⟨24, 1, [(regRow b).map .d]⟩), (2, some ⟨24, 1, [[.nl]]⟩), (3, some ⟨24, 1, [(regRow C).map .d]⟩), (4, some ⟨42, 3, dr (s.2.map Track.row)⟩)], 5⟩) (fun s => s.1 ≤ L.length ∧ s.2 = (L.take s.1).map brT) (fun s => L.length - s.1) (0, []) ?_ ⟨Nat.zero_le _, by simp⟩ ?_
        · refine weak_of [(0, some 0), (1, some 1), (2, some 2), (3, some 3), (4, none)] rfl (by simp [upT, up, upL, push_cast]) (by simp [upH, upR, upL, up, push_cast]) (by simp [namesOk, push_cast]) (by simp [olds])
        · rintro ⟨k, X⟩ ⟨hk, hX⟩
          simp only at hk hX
          have hXl : X.length = k := by rw [hX]; simp; omega
          refine Nav.imp ?_
          refine awp_region cx [] fun K hK => ?_
          simp [push_cast]
          repeat (refine And.intro (by clear hK; intros; first | omega | (simp_all; done) | (simp_all <;> omega)) ?_)
          refine hK _ ?_; clear hK K; refine Nav.imp ?_
          refine awp_cond (b := decide ((k : Int) < L.length)) (by simp [push_cast]) (fun hb => ?_) (fun hb => ?_) <;> (refine Nav.imp ?_)
          · have hlt : k < L.length := by simpa using hb
            obtain ⟨l, hl⟩ := getq hlt
            have e0 := wrap_i64 (n := (k : Int) + 1) (by omega) (by omega)
            have hll := hLm l (List.mem_of_getElem? hl)
            have hX1 : (L.take (k + 1)).map brT = X ++ [brT l] := by rw [take_get hl, List.map_append, ← hX]; rfl
            have h16 : l.length * 16 ≤ 140737488355328 := by omega
            refine awp_region cx [] fun K hK => ?_
            simp [push_cast, hl]
            repeat (refine And.intro (by clear hK; intros; first | omega | (simp_all; done) | (simp_all <;> omega)) ?_)
            refine hK _ ?_; clear hK K; refine Nav.imp ?_
            refine awp_region cx [] fun K hK => ?_
            simp [push_cast, h16]
            repeat (refine And.intro (by clear hK; intros; first | omega | (simp_all; done) | (simp_all <;> omega)) ?_)
            refine hK _ ?_; clear hK K; refine Nav.imp ?_
            refine awp_region cx [] fun K hK => ?_
            simp [push_cast]
            repeat (refine And.intro (by clear hK; intros; first | omega | (simp_all; done) | (simp_all <;> omega)) ?_)
            refine hK _ ?_; clear hK K; refine Nav.imp ?_
            have ht2 : List.take l.length (l.map Cell.row) = l.map Cell.row := List.take_of_length_le (by simp)
            refine awp_freeze 11 (l.map Cell.row) rfl (by simp [push_cast, ht2]) fun K hK => ?_
            simp [push_cast, St.fz, fzT, fzH, fzO, fz, fzL, fzR, fzR_dr, fzR_app, fzR_set, fzL_map, ht2]
            refine hK _ ?_; clear hK K; refine Nav.imp ?_
            have h24 : (X.length + 1) * 40 ≤ 140737488355328 := by omega
            refine awp_region cx [] fun K hK => ?_
            simp [push_cast, h24]
            repeat (refine And.intro (by clear hK; intros; first | omega | (simp_all; done) | (simp_all <;> omega)) ?_)
            refine hK _ ?_; clear hK K; refine Nav.imp ?_
            refine awp_region cx [] fun K hK => ?_
            simp [push_cast, e0]
            repeat (refine And.intro (by clear hK; intros; first | omega | (simp_all; done) | (simp_all <;> omega)) ?_)
            refine hK _ ?_; clear hK K; refine Nav.imp ?_
            refine ⟨(k + 1, X ++ [brT l]), ⟨hlt, hX1.symm⟩, by simp only; omega, ?_⟩
            refine weak_of [(0, some 0), (1, some 1), (2, some 2), (3, some 3), (4, some 22)] rfl (by simp [upT, up, upL, push_cast, brT, Track.row]) (by simp [upH, upR, upL, up, push_cast, brT, Track.row]) (by simp [namesOk, push_cast]) (by simp [olds])
          · have hke : k = L.length := by simp at hb; omega
            subst hke
            rw [List.take_length] at hX
            subst hX
            refine awp_region_draw cx mixed [(3, .p (.agg (regRow D))), (5, .p (.agg (regRow W)))] fun K hK => ?_
            simp [push_cast, q1, q2]
            repeat (refine And.intro (by clear hK; intros; first | omega | (simp_all; done) | (simp_all <;> omega)) ?_)
            refine hK _ _ (by kernel_rfl) ?_; clear hK K; refine Nav.imp ?_
            have ht : List.take L.length ((L.map brT).map Track.row) = (L.map brT).map Track.row := List.take_of_length_le (by simp)
            simp [push_cast]
end Go.Proofs.Ytknelhiejjdioaa

set_option linter.unusedVariables false
set_option linter.unusedSimpArgs false
set_option maxRecDepth 100000
namespace Go.Proofs.Ytknelhiejjdioaa
open Go.Abs

/-! What is marked around a region, row by row. -/
def nearStep (g : List Run) (M : List (Int × List Run)) (y : Int) : List (Int × List Run) := putL M y (sweep fU (mget M y) g)
def ysN (y : Int) (K j : Nat) : List Int := (List.range j).map fun i : Nat => y - K + i
def nearRow (K : Nat) (M : List (Int × List Run)) (w : Row) : List (Int × List Run) := (ysN w.y K (2 * K + 1)).foldl (nearStep (groL w.runs K)) M
def nearM (R : List Row) (K : Nat) : List (Int × List Run) := R.foldl (nearRow K) []
theorem ysN_succ (y : Int) (K j : Nat) : ysN y K (j + 1) = ysN y K j ++ [y - K + j] := by simp [ysN, List.range_succ]
theorem nearM_take {R : List Row} {K i : Nat} {w : Row} (h : R[i]? = some w) : nearM (R.take (i + 1)) K = nearRow K (nearM (R.take i) K) w := by simp [nearM, take_get h]
theorem ysN_mem (y : Int) (K : Nat) (z : Int) (j : Nat) : z ∈ ysN y K j ↔ y - K ≤ z ∧ z < y - K + j := by
  simp only [ysN, List.mem_map, List.mem_range]
  constructor
  · rintro ⟨i, hi, rfl⟩; omega
  · intro h; exact ⟨(z - (y - K)).toNat, by omega, by omega⟩
theorem ysN_pw (y : Int) (K j : Nat) : (ysN y K j).Pairwise (· < ·) := by
  simp only [ysN, List.pairwise_map]
  exact List.pairwise_lt_range.imp (fun {a b} h => by omega)

/-- What a map of runs holds. -/
def NI (P : Int → Int → Prop) (M : List (Int × List Run)) : Prop := ∀ y, Apart (mget M y) ∧ (∀ r ∈ mget M y, -4160 ≤ r.a ∧ r.b ≤ 4160) ∧ ∀ x, inR (mget M y) x = true ↔ P y x
theorem NI.nil : NI (fun _ _ => False) [] := fun y => ⟨⟨by simp [mget, getL], by simp [mget, getL]⟩, by simp [mget, getL], by simp [mget, getL, inR]⟩
theorem NI.congr {P Q : Int → Int → Prop} {M : List (Int × List Run)} (h : NI P M) (he : ∀ y x, P y x ↔ Q y x) : NI Q M := fun y => ⟨(h y).1, (h y).2.1, fun x => ((h y).2.2 x).trans (he y x)⟩
theorem NI.step {P : Int → Int → Prop} {M : List (Int × List Run)} (h : NI P M) {g : List Run} (hg : Apart g) (hb : ∀ r ∈ g, -4160 ≤ r.a ∧ r.b ≤ 4160) (z : Int) : NI (fun y x => P y x ∨ (y = z ∧ inR g x = true)) (nearStep g M z) := by
  intro y
  have h1 := h z
  have hs := sweep_facts (f := fU) rfl (apart_rv h1.1 h1.2.1) (apart_rv hg hb)
  unfold nearStep
  rw [mget_put]
  split
  · rename_i e
    subst e
    refine ⟨hs.1, apart_bounds hs.1 fun x hx => ?_, fun x => ?_⟩
    · rw [hs.2] at hx
      simp only [fU, Bool.or_eq_true] at hx
      rcases hx with hx | hx
      · obtain ⟨r, hr, h3, h4⟩ := inR_iff.1 hx; have := h1.2.1 r hr; omega
      · obtain ⟨r, hr, h3, h4⟩ := inR_iff.1 hx; have := hb r hr; omega
    · rw [hs.2]
      simp only [fU, Bool.or_eq_true, true_and, h1.2.2]
  · rename_i e
    refine ⟨(h y).1, (h y).2.1, fun x => ?_⟩
    rw [(h y).2.2]
    simp [e]
theorem NI.fold {g : List Run} (hg : Apart g) (hb : ∀ r ∈ g, -4160 ≤ r.a ∧ r.b ≤ 4160) : ∀ (l : List Int) {P : Int → Int → Prop} {M : List (Int × List Run)}, NI P M → NI (fun y x => P y x ∨ (y ∈ l ∧ inR g x = true)) (l.foldl (nearStep g) M)
  | [], P, M, h => h.congr fun y x => by simp
  | z :: l, P, M, h => (NI.fold hg hb l (h.step hg hb z)).congr fun y x => by
    simp only [List.mem_cons]
    constructor
    · rintro ((h1 | h1) | h1)
      · exact .inl h1
      · exact .inr ⟨.inl h1.1, h1.2⟩
      · exact .inr ⟨.inr h1.1, h1.2⟩
    · rintro (h1 | ⟨h1 | h1, h2⟩)
      · exact .inl (.inl h1)
      · exact .inl (.inr ⟨h1, h2⟩)
      · exact .inr ⟨h1, h2⟩
def nearP (R : List Row) (K : Nat) (y x : Int) : Prop := ∃ w ∈ R, w.y - K ≤ y ∧ y ≤ w.y + K ∧ ∃ r ∈ w.runs, r.a - K ≤ x ∧ x < r.b + K
theorem near_rows {K : Nat} (hK : K ≤ 64) : ∀ (R : List Row) {P : Int → Int → Prop} {M : List (Int × List Run)}, (∀ w ∈ R, fine w.runs = true) → NI P M → NI (fun y x => P y x ∨ nearP R K y x) (R.foldl (nearRow K) M)
  | [], P, M, _, h => h.congr fun y x => by simp [nearP]
  | w :: R, P, M, hf, h => by
    have hw := hf w (by simp)
    obtain ⟨g1, g2, g3⟩ := groL_facts hw (k := K) (by omega)
    refine (near_rows hK R (fun v hv => hf v (by simp [hv])) (NI.fold g1 g2 (ysN w.y K (2 * K + 1)) h)).congr fun y x => ?_
    rw [ysN_mem, g3]
    unfold nearP
    simp only [List.mem_cons, exists_eq_or_imp, or_assoc]
    constructor
    · rintro (h1 | ⟨h1, h2⟩ | h1)
      · exact .inl h1
      · exact .inr (.inl ⟨by omega, by omega, h2⟩)
      · exact .inr (.inr h1)
    · rintro (h1 | ⟨h1, h2, h3⟩ | h1)
      · exact .inl h1
      · exact .inr (.inl ⟨by omega, h3⟩)
      · exact .inr (.inr h1)
theorem near_facts {R : List Row} (hv : validR R = true) {K : Nat} (hK : K ≤ 64) : NI (nearP R K) (nearM R K) :=
  (near_rows hK R (fun w hw => (row_fine hv hw).2) NI.nil).congr fun y x => by simp
/-- .. in the middle of a row. -/
theorem near_mid {R : List Row} (hv : validR R = true) {K : Nat} (hK : K ≤ 64) {i : Nat} {w : Row} (hw : R[i]? = some w) (l : List Int) : ∃ P, NI P (l.foldl (nearStep (groL w.runs K)) (nearM (R.take i) K)) := by
  have h1 := near_rows hK (R.take i) (fun v hv' => (row_fine hv (List.mem_of_mem_take hv')).2) NI.nil
  obtain ⟨g1, g2, _⟩ := groL_facts (row_fine hv (List.mem_of_getElem? hw)).2 (k := K) (by omega)
  exact ⟨_, NI.fold g1 g2 l h1⟩

end Go.Proofs.Ytknelhiejjdioaa

set_option linter.unusedVariables false
set_option linter.unusedSimpArgs false
set_option maxRecDepth 100000
namespace Go.Proofs.Ytknelhiejjdioaa
open Go.Abs

/-! Regions made row by row of another one. -/
def mapRow (F : Row → List Run) (w : Row) : List Row := if F w = [] then [] else [⟨w.y, F w⟩]
def mapR (F : Row → List Run) (S : List Row) : List Row := S.flatMap (mapRow F)
theorem mapRow_len (F : Row → List Run) (w : Row) : (mapRow F w).length ≤ 1 := by unfold mapRow; split <;> simp
theorem mapRow_mem {F : Row → List Run} {w v : Row} (h : v ∈ mapRow F w) : v = ⟨w.y, F w⟩ ∧ F w ≠ [] := by
  unfold mapRow at h
  split at h
  · simp at h
  · rename_i e; simp at h; exact ⟨h, e⟩
theorem mapR_mem {F : Row → List Run} {S : List Row} {v : Row} (h : v ∈ mapR F S) : ∃ w ∈ S, v = ⟨w.y, F w⟩ ∧ F w ≠ [] := by
  obtain ⟨w, hw, hv⟩ := List.mem_flatMap.1 h
  exact ⟨w, hw, mapRow_mem hv⟩
theorem mapR_len (F : Row → List Run) : ∀ S : List Row, (mapR F S).length ≤ S.length := flat_one_len (mapRow_len F)
theorem mapR_take {F : Row → List Run} {S : List Row} {k : Nat} {w : Row} (h : S[k]? = some w) : mapR F (S.take (k + 1)) = mapR F (S.take k) ++ mapRow F w := flat_take _ h
theorem flat_pw {α β : Type} {P : α → α → Prop} {Q : β → β → Prop} {f : α → List β} (h1 : ∀ a, (f a).length ≤ 1) (h2 : ∀ a b x y, P a b → x ∈ f a → y ∈ f b → Q x y) : ∀ {l : List α}, l.Pairwise P → (l.flatMap f).Pairwise Q
  | [], _ => by simp
  | a :: l, h => by
    obtain ⟨ha, hl⟩ := List.pairwise_cons.1 h
    rw [List.flatMap_cons]
    refine List.pairwise_append.2 ⟨?_, flat_pw h1 h2 hl, fun x hx y hy => ?_⟩
    · have := h1 a
      match h : f a, this with
      | [], _ => simp
      | [x], _ => simp
    · obtain ⟨b, hb, hy⟩ := List.mem_flatMap.1 hy
      exact h2 a b x y (ha b hb) hx hy
theorem mapR_valid {F : Row → List Run} {S : List Row} (hv : validR S = true) (hF : ∀ w ∈ S, F w ≠ [] → fine (F w) = true) : validR (mapR F S) = true := by
  obtain ⟨h1, h2⟩ := validR_pw.1 hv
  refine validR_pw.2 ⟨fun v hv' => ?_, flat_pw (mapRow_len F) (fun a b x y hab hx hy => ?_) h2⟩
  · obtain ⟨w, hw, rfl, hne⟩ := mapR_mem hv'
    exact ⟨(h1 w hw).1, hF w hw hne⟩
  · rw [(mapRow_mem hx).1, (mapRow_mem hy).1]; exact hab
theorem mapR_cells {F : Row → List Run} {S : List Row} {c : Cell} : c ∈ regCells (mapR F S) ↔ ∃ w ∈ S, c.y = w.y ∧ inR (F w) c.x = true := by
  rw [mem_regCells]
  constructor
  · rintro ⟨v, hv, hy, hr⟩
    obtain ⟨w, hw, rfl, _⟩ := mapR_mem hv
    exact ⟨w, hw, hy, inR_iff.2 hr⟩
  · rintro ⟨w, hw, hy, hr⟩
    refine ⟨⟨w.y, F w⟩, List.mem_flatMap.2 ⟨w, hw, ?_⟩, hy, inR_iff.1 hr⟩
    unfold mapRow
    rw [if_neg (by rintro e; rw [e] at hr; simp [inR] at hr)]
    simp
theorem mapR_small {F : Row → List Run} {S : List Row} (hS : smallR S) (hv : validR (mapR F S) = true) : smallR (mapR F S) := by
  refine ⟨Nat.le_trans (mapR_len F S) hS.1, fun w hw => ?_⟩
  obtain ⟨_, h1, h2⟩ := fine_apart.1 (row_fine hv hw).2
  have := apart_len h1 (lo := -4096) (hi := 4096) h2
  omega
/-- What is left of a region where runs are taken away from its rows. -/
def lessF (g : Int → List Run) (w : Row) : List Run := sweep fD w.runs (g w.y)
theorem less_facts {S : List Row} (hv : validR S = true) {g : Int → List Run} (hg : ∀ y, rvalid (g y) = true) : validR (mapR (lessF g) S) = true ∧ ∀ c, c ∈ regCells (mapR (lessF g) S) ↔ c ∈ regCells S ∧ inR (g c.y) c.x = false := by
  have hsw : ∀ w ∈ S, Apart (lessF g w) ∧ ∀ x, inR (lessF g w) x = fD (inR w.runs x) (inR (g w.y) x) := fun w hw => sweep_facts rfl (fine_rv (row_fine hv hw).2) (hg w.y)
  refine ⟨mapR_valid hv fun w hw hne => fine_apart.2 ⟨hne, (hsw w hw).1, apart_bounds (hsw w hw).1 fun x hx => ?_⟩, fun c => ?_⟩
  · rw [(hsw w hw).2] at hx
    simp only [fD, Bool.and_eq_true] at hx
    obtain ⟨r, hr, h1, h2⟩ := inR_iff.1 hx.1
    obtain ⟨_, _, h3⟩ := fine_apart.1 (row_fine hv hw).2
    have := h3 r hr
    omega
  · rw [mapR_cells, mem_regCells]
    constructor
    · rintro ⟨w, hw, hy, hr⟩
      rw [(hsw w hw).2] at hr
      simp only [fD, Bool.and_eq_true, Bool.not_eq_true'] at hr
      exact ⟨⟨w, hw, hy, inR_iff.1 hr.1⟩, by rw [hy]; exact hr.2⟩
    · rintro ⟨⟨w, hw, hy, hr⟩, h2⟩
      refine ⟨w, hw, hy, ?_⟩
      rw [(hsw w hw).2, inR_iff.2 hr, ← hy, h2]
      rfl

/-- What the package calls missing. -/
def missB (S M : List Row) (k : Int) : Bool := validR S && validR M && decide (0 ≤ k) && decide (k ≤ 64)
def missR (S M : List Row) (k : Int) : List Row := if missB S M k then mapR (lessF (mget (nearM M k.toNat))) S else []
theorem miss_facts {S M : List Row} {k : Int} (h : missB S M k = true) : validR (missR S M k) = true ∧ ∀ c, c ∈ regCells (missR S M k) ↔ c ∈ regCells S ∧ ¬ nearP M k.toNat c.y c.x := by
  have e : missR S M k = mapR (lessF (mget (nearM M k.toNat))) S := by unfold missR; rw [if_pos h]
  simp only [missB, Bool.and_eq_true, decide_eq_true_eq] at h
  obtain ⟨⟨⟨h1, h2⟩, h3⟩, h4⟩ := h
  have hn := near_facts h2 (K := k.toNat) (by omega)
  obtain ⟨q1, q2⟩ := less_facts h1 (g := mget (nearM M k.toNat)) fun y => apart_rv (hn y).1 (hn y).2.1
  rw [e]
  refine ⟨q1, fun c => ?_⟩
  rw [q2, ← (hn c.y).2.2 c.x]
  simp
theorem miss_valid (S M : List Row) (k : Int) : validR (missR S M k) = true := by
  cases h : missB S M k with
  | true => exact (miss_facts h).1
  | false => unfold missR; rw [h]; rfl
theorem miss_small {S M : List Row} (hS : smallR S) (k : Int) : smallR (missR S M k) := by
  cases h : missB S M k with
  | true =>
    have hv := (miss_facts h).1
    unfold missR at hv ⊢
    rw [if_pos h] at hv ⊢
    exact mapR_small hS hv
  | false => unfold missR; rw [h]; exact ⟨by simp, by simp⟩

end Go.Proofs.Ytknelhiejjdioaa
