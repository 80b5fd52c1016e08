/-
  The abstract machine, part 15: an owned object is frozen: from then on it is plain data.
-/
import Derived.Test.YtmfkfgonedgjnaaAbs14
set_option linter.unusedVariables false
set_option linter.unusedSimpArgs false
namespace Go.Abs
open Go.RowKit

theorem take_map_len {α β : Type} (f : α → β) (l : List α) : List.take l.length (l.map f) = l.map f := List.take_of_length_le (by simp)

mutual
def fz (id : Nat) (rs : List (List D)) : AV → AV
  | .hs i off len => if i = id then (if off + len ≤ rs.length then .d (.sl ((rs.drop off).take len)) else .any) else .hs i off len
  | .ptr i r c => if i = id then (match rs[r]? with | some row => .d (.rp (row.drop c)) | none => .any) else .ptr i r c
  | .agg l => mkAgg (fzL id rs l)
  | .clo f l => .clo f (fzL id rs l)
  | .tup l => .tup (fzL id rs l)
  | .opt b x => .opt b (fz id rs x)
  | .any => .any
  | .nl => .nl
  | .d x => .d x
  | .ub p q => .ub p q
  | .pin i L => if i = id then .any else .pin i L
def fzL (id : Nat) (rs : List (List D)) : List AV → List AV
  | [] => []
  | a :: l => fz id rs a :: fzL id rs l
end

def fzR (id : Nat) (rs : List (List D)) : List (List AV) → List (List AV)
  | [] => []
  | r :: l => fzL id rs r :: fzR id rs l

theorem fzL_map (id : Nat) (rs : List (List D)) : ∀ l : List D, fzL id rs (l.map AV.d) = l.map AV.d
  | [] => rfl
  | x :: l => by simp only [List.map_cons, fzL, fz, fzL_map id rs l]
theorem fzR_dr (id : Nat) (rs : List (List D)) : ∀ l : List (List D), fzR id rs (dr l) = dr l
  | [] => rfl
  | x :: l => by
    show fzR id rs (x.map AV.d :: dr l) = x.map AV.d :: dr l
    simp only [fzR, fzL_map, fzR_dr id rs l]
theorem fzR_app (id : Nat) (rs : List (List D)) (b : List (List AV)) : ∀ a : List (List AV), fzR id rs (a ++ b) = fzR id rs a ++ fzR id rs b
  | [] => rfl
  | x :: l => by simp only [List.cons_append, fzR, fzR_app id rs b l]
theorem fzR_set (id : Nat) (rs : List (List D)) (r : List AV) : ∀ (a : List (List AV)) (k : Nat), fzR id rs (a.set k r) = (fzR id rs a).set k (fzL id rs r)
  | [], _ => rfl
  | x :: l, 0 => rfl
  | x :: l, k + 1 => by simp only [List.set_cons_succ, fzR, fzR_set id rs r l k]
theorem fzL_length (id : Nat) (rs : List (List D)) : ∀ l : List AV, (fzL id rs l).length = l.length
  | [] => rfl
  | a :: l => by simp only [fzL, List.length_cons, fzL_length id rs l]
theorem fzR_length (id : Nat) (rs : List (List D)) : ∀ l : List (List AV), (fzR id rs l).length = l.length
  | [] => rfl
  | a :: l => by simp only [fzR, List.length_cons, fzR_length id rs l]
theorem fzR_get (id : Nat) (rs : List (List D)) : ∀ (l : List (List AV)) (i : Nat) (r : List AV), (fzR id rs l)[i]? = some r → ∃ r0, l[i]? = some r0 ∧ r = fzL id rs r0
  | [], i, r, h => by simp [fzR] at h
  | a :: l, 0, r, h => by simp [fzR] at h; exact ⟨a, by simp, h.symm⟩
  | a :: l, i + 1, r, h => by simp [fzR] at h; obtain ⟨r0, h1, h2⟩ := fzR_get id rs l i r h; exact ⟨r0, by simpa using h1, h2⟩
theorem fzL_get (id : Nat) (rs : List (List D)) : ∀ (l : List AV) (i : Nat) (r : AV), (fzL id rs l)[i]? = some r → ∃ r0, l[i]? = some r0 ∧ r = fz id rs r0
  | [], i, r, h => by simp [fzL] at h
  | a :: l, 0, r, h => by simp [fzL] at h; exact ⟨a, by simp, h.symm⟩
  | a :: l, i + 1, r, h => by simp [fzL] at h; obtain ⟨r0, h1, h2⟩ := fzL_get id rs l i r h; exact ⟨r0, by simpa using h1, h2⟩

def fzT (id : Nat) (rs : List (List D)) : List (Nat × AV) → List (Nat × AV)
  | [] => []
  | (t, v) :: l => (t, fz id rs v) :: fzT id rs l
def fzO (id : Nat) (rs : List (List D)) : Option Ob → Option Ob
  | none => none
  | some o => some ⟨o.elem, o.m, fzR id rs o.rows⟩
def fzH (id : Nat) (rs : List (List D)) : List (Nat × Option Ob) → List (Nat × Option Ob)
  | [] => []
  | (t, v) :: l => (t, fzO id rs v) :: fzH id rs l

def St.fz (s : St) (id : Nat) (rs : List (List D)) : St := ⟨s.n, fzT id rs s.tm, (id, none) :: fzH id rs s.hp, s.nxt⟩

theorem fzT_find (id : Nat) (rs : List (List D)) (t : Nat) : ∀ l, find (fzT id rs l) t = (find l t).map (Abs.fz id rs)
  | [] => rfl
  | (k, v) :: l => by
    simp only [fzT, find]
    split
    · rfl
    · exact fzT_find id rs t l
theorem fzH_find (id : Nat) (rs : List (List D)) (t : Nat) : ∀ l, find (fzH id rs l) t = (find l t).map (fzO id rs)
  | [] => rfl
  | (k, v) :: l => by
    simp only [fzH, find]
    split
    · rfl
    · exact fzH_find id rs t l

section
variable {g : G} {w : World} {id : Nat} {o : Ob} {rs : List (List D)} {L : Loc}

mutual
theorem fz_rep (hL : g.loc id = some L) (hok : OwnOk g w L o) (hrs : rowsD o.rows = some rs) : ∀ (x : AV) (v : Value), RepA g w x v → RepA (frozen g id) w (fz id rs x) v
  | .any, v, h => by simp [fz, RepA]
  | .nl, v, h => by simpa [fz, RepA] using h
  | .d x, v, h => by simp only [fz]; exact RepA.later frozen_later _ _ h
  | .ub p q, v, h => by simpa only [fz, RepA] using h
  | .pin i L0, v, h => by
    simp only [fz]
    split
    · simp [RepA]
    · rename_i e
      simp only [RepA] at h ⊢
      exact ⟨h.1, fun M hM => h.2 M (by simpa [frozen, e] using hM)⟩
  | .hs i off len, v, h => by
    simp only [fz]
    split
    · rename_i e
      subst e
      split
      · rename_i hle
        simp only [RepA] at h ⊢
        have hrl := rowsD_length hrs
        rcases h.2 L hL with ⟨hv, rfl, rfl, rfl⟩ | ⟨hv, hlc, rfl⟩
        · simpa using repD_nil
        · have hlen : ((rs.drop off).take len).length = len := by simp; omega
          obtain ⟨_, _, _, hcapm, _⟩ := hok.cells hv
          simp only [RepD]
          refine ⟨some ⟨L.blk, off * L.m, none⟩, L.cap - off, by rw [hlen], by rw [hlen]; omega, by omega, ?_⟩
          refine .inr ⟨L.blk, off * L.m, L.m, rfl, .inr ⟨L, hL, hv, rfl⟩, RepRows.of_get fun i r hi => ?_⟩
          rw [List.getElem?_take] at hi
          split at hi
          · rw [List.getElem?_drop] at hi
            obtain ⟨row, hrow, ha⟩ := rowsD_get hrs _ r hi
            obtain ⟨us, hul, hur, huc⟩ := hok.row hv hrow
            refine ⟨us, hul, RepDs.mono (fun b hb => ⟨.inl hb, rfl⟩) r us (RepAs.allD ha hur), ?_⟩
            rwa [Nat.add_mul] at huc
          · cases hi
      · simp [RepA]
    · exact RepA.later frozen_later _ _ h
  | .ptr i r c, v, h => by
    simp only [fz]
    split
    · rename_i e
      subst e
      split
      · rename_i row hrow
        simp only [RepA] at h ⊢
        obtain ⟨hv, rfl⟩ := h.2 L hL
        obtain ⟨arow, harow, ha⟩ := rowsD_get hrs _ row hrow
        obtain ⟨us, hul, hur, huc⟩ := hok.row hv harow
        simp only [RepD]
        exact ⟨L.blk, r * L.m + c, us.drop c, rfl, .inr ⟨L, hL, hv, rfl⟩, (RepDs.mono (fun b hb => ⟨.inl hb, rfl⟩) row us (RepAs.allD ha hur)).drop c, huc.drop c⟩
      · simp [RepA]
    · exact RepA.later frozen_later _ _ h
  | .agg l, v, h => by
    simp only [fz]
    simp only [RepA] at h
    obtain ⟨vs, rfl, ho, hr⟩ := h
    exact RepA.mkAgg ho (fzL_rep hL hok hrs l vs hr)
  | .clo f l, v, h => by
    simp only [fz, RepA] at h ⊢
    obtain ⟨vs, hv, hr⟩ := h
    exact ⟨vs, hv, fzL_rep hL hok hrs l vs hr⟩
  | .tup l, v, h => by
    simp only [fz, RepA] at h ⊢
    obtain ⟨vs, hv, hr⟩ := h
    exact ⟨vs, hv, fzL_rep hL hok hrs l vs hr⟩
  | .opt b x, v, h => by
    simp only [fz, RepA] at h ⊢
    exact ⟨fun hb => fz_rep hL hok hrs x v (h.1 hb), h.2⟩
theorem fzL_rep (hL : g.loc id = some L) (hok : OwnOk g w L o) (hrs : rowsD o.rows = some rs) : ∀ (x : List AV) (v : List Value), RepAs g w x v → RepAs (frozen g id) w (fzL id rs x) v
  | [], v, h => by simpa [fzL, RepAs] using h
  | a :: l, v, h => by
    simp only [fzL, RepAs] at h ⊢
    obtain ⟨u, us, rfl, h1, h2⟩ := h
    exact ⟨u, us, rfl, fz_rep hL hok hrs a u h1, fzL_rep hL hok hrs l us h2⟩
end
end

theorem Weak.trans {s s' s'' : St} (h : Weak s s') (k : Weak s' s'') : Weak s s'' := fun g a w hr => by
  obtain ⟨g', h1, h2⟩ := h g a w hr
  obtain ⟨g'', k1, k2⟩ := k g' a w h1
  exact ⟨g'', k1, h2.trans k2⟩

/-- THE RULE: what nobody will write any more is plain data. -/
theorem weak_freeze {s : St} (id : Nat) {o : Ob} (rs : List (List D)) (ho : s.obj id = some o) (hrs : rowsD o.rows = some rs) : Weak s (s.fz id rs) := by
  intro g a w hr
  obtain ⟨L, hL, hok⟩ := hr.heap.own id o ho
  have hget : ∀ t, (s.fz id rs).get t = Abs.fz id rs (s.get t) := fun t => by
    unfold St.get St.fz
    rw [fzT_find]
    cases find s.tm t <;> simp [Abs.fz]
  have hobj : ∀ x, (s.fz id rs).obj x = if x = id then none else fzO id rs (s.obj x) := fun x => by
    unfold St.obj St.fz
    simp only [find]
    by_cases e : x = id
    · subst e; simp
    · rw [if_neg (Ne.symm e), if_neg e, fzH_find]
      cases find s.hp x <;> simp [fzO]
  have hloc : ∀ x M, (frozen g id).loc x = some M → x ≠ id ∧ g.loc x = some M := by
    intro x M hx
    simp only [frozen] at hx
    split at hx
    · cases hx
    · rename_i e; exact ⟨e, hx⟩
  refine ⟨frozen g id, ⟨hr.defers, hr.size, fun t => by rw [hget]; exact fz_rep hL hok hrs _ _ (hr.tmp t), hr.used, ⟨?_, ?_, ?_, ?_, ?_⟩⟩, ⟨rfl, ⟨rfl, Nat.le_refl _⟩, rfl, Nat.le_refl _, fun _ _ _ => rfl, ?_, fun _ hb => .inl hb, ?_⟩⟩
  · intro x o' ho'
    rw [hobj] at ho'
    split at ho'
    · cases ho'
    · rename_i e
      unfold fzO at ho'
      split at ho'
      · cases ho'
      · rename_i ox hox
        cases ho'
        obtain ⟨M, hM, hk⟩ := hr.heap.own x ox hox
        refine ⟨M, by simp [frozen, e, hM], hk.m, hk.pos, by simpa only [fzR_length] using hk.len, fun hv => by simp [hk.virt hv, fzR], fun hv => ?_⟩
        obtain ⟨cur, c1, c2, c3, c5⟩ := hk.cells hv
        refine ⟨cur, c1, c2, c3, fun i row hi => ?_⟩
        obtain ⟨r0, hr0, rfl⟩ := fzR_get id rs _ i row hi
        obtain ⟨d1, d2⟩ := c5 i r0 hr0
        refine ⟨by rw [fzL_length]; exact d1, fun j av hj => ?_⟩
        obtain ⟨a0, ha0, rfl⟩ := fzL_get id rs _ j av hj
        obtain ⟨v, q1, q2, q3⟩ := d2 j a0 ha0
        exact ⟨v, q1, q2, fz_rep hL hok hrs _ _ q3⟩
  · intro x hx
    rw [hobj] at hx
    simp only [frozen]
    split at hx
    · rename_i e; rw [if_pos e]
    · rename_i e
      rw [if_neg e]
      unfold fzO at hx
      split at hx
      · rename_i hn; exact hr.heap.gone x hn
      · cases hx
  · intro x M hx
    obtain ⟨e, hM⟩ := hloc x M hx
    refine ⟨(hr.heap.live x M hM).1, fun hv => ⟨((hr.heap.live x M hM).2 hv).1, ?_⟩⟩
    rintro (hro | ⟨L', hL', hv', hb⟩)
    · exact ((hr.heap.live x M hM).2 hv).2 hro
    · exact e (hr.heap.inj x id M L' hM hL' hv hv' hb)
  · intro x y M M' hx hy hv hv' hb
    exact hr.heap.inj x y M M' (hloc x M hx).2 (hloc y M' hy).2 hv hv' hb
  · rintro b (hro | ⟨L', hL', hv', rfl⟩)
    · exact hr.heap.ro b hro
    · exact ((hr.heap.live id L' hL').2 hv').1
  · rintro b ⟨x, M, hx, hv, rfl⟩
    exact .inr ⟨x, M, (hloc x M hx).2, hv, rfl⟩
  · rintro b (hro | ⟨L', hL', hv', rfl⟩)
    · exact .inl hro
    · exact .inr (.inr ⟨id, L', hL', hv', rfl⟩)

theorem awp_freeze {P : Program} {c : Code} {Q : Exit → St → Prop} {s : St} (id : Nat) {o : Ob} (rs : List (List D)) (ho : s.obj id = some o) (hrs : rowsD o.rows = some rs)
    (h : ∀ K : St → Prop, (∀ s', AWp P c Q s' → K s') → K (s.fz id rs)) : AWp P c Q s :=
  awp_weak (weak_freeze id rs ho hrs) (h _ fun _ hk => hk)

end Go.Abs
