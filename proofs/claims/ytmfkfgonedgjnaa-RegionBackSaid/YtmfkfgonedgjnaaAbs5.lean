/-
  The abstract machine, part 5: contracts of functions, calls, snapshots of owned objects.
-/
import Derived.Test.YtmfkfgonedgjnaaAbsX
set_option linter.unusedVariables false
set_option linter.unusedSimpArgs false
namespace Go.Abs
open Go.RowKit

/-- A call's result: data; or a slice whose array is new and belongs to the caller; or ('x') a call that turns what it is handed. -/
inductive Res where
  | p (d : D)
  | o (e : TypeId) (m : Nat) (rows : List (List D))
  | x (c : XC)
  | skip
  | f (d : D)
  | ub (b : Bool)

def OwnRes (ro : Nat → Prop) (n0 : Nat) (w' : World) (e : TypeId) (m : Nat) (rows : List (List D)) (v : Value) : Prop :=
  0 < m ∧ ((rows = [] ∧ v = .slice none 0 0) ∨ ∃ B cap cur, n0 ≤ B ∧ v = .slice (some ⟨B, 0, none⟩) rows.length cap ∧ w'.heap[B]? = some (.cells cur e (0, 0)) ∧ rows.length ≤ cap ∧ cap ≤ maxLen ∧ cur.size = cap * m ∧
    ∀ i row, rows[i]? = some row → row.length = m ∧ ∀ (j : Nat) (d : D), row[j]? = some d → ∃ u : Value, cur[i * m + j]? = some u ∧ u.oneCell' = true ∧ RepD (fun b => ro b ∨ (n0 ≤ b ∧ b < w'.heap.size ∧ b ≠ B)) w' d u)

def RepRes (ro : Nat → Prop) (n0 : Nat) (w' : World) : Res → Value → Prop
  | .p d, v => RepD (fun b => ro b ∨ (n0 ≤ b ∧ b < w'.heap.size)) w' d v
  | .o e m rows, v => OwnRes ro n0 w' e m rows v
  | .x _, _ => False
  | .skip, _ => False
  | .ub _, _ => False
  | .f d, v => RepD (fun b => n0 ≤ b ∧ b < w'.heap.size) w' d v

/-- THE CONTRACT: called with values that read as ds, function f returns one that reads as r, and nothing that was there has turned. -/
def PC (P : Program) (f : FuncId) (ds : List D) (r : Res) : Prop :=
  Enters P f ∧ ∀ (ro : Nat → Prop) (w : World) (vs : List Value), (∀ b, ro b → b < w.heap.size) → RepDs ro w ds vs →
    Calls P f vs.toArray w fun e w' => ∃ v, e = .returned v ∧ Below w.heap.size w w' ∧ RepRes ro w.heap.size w' r v

mutual
def D.free : D → Bool
  | .bool _ | .int _ _ | .str _ => true
  | .agg cs => D.frees cs
  | .tup cs => D.frees cs
  | .sl _ | .rp _ | .fn _ _ => false
def D.frees : List D → Bool
  | [] => true
  | d :: ds => d.free && D.frees ds
end

mutual
theorem RepD.anywhere {ro ro' : Nat → Prop} {w w' : World} : ∀ (d : D) (v : Value), d.free = true → RepD ro w d v → RepD ro' w' d v
  | .bool b, v, _, h => by simpa [RepD] using h
  | .int k n, v, _, h => by simpa [RepD] using h
  | .str s, v, _, h => by simpa [RepD] using h
  | .agg cs, v, hf, h => by
    simp only [D.free] at hf
    simp only [RepD] at h ⊢
    obtain ⟨vs, hv, ho, hr⟩ := h
    exact ⟨vs, hv, ho, RepDs.anywhere cs vs hf hr⟩
  | .tup cs, v, hf, h => by
    simp only [D.free] at hf
    simp only [RepD] at h ⊢
    obtain ⟨vs, hv, hr⟩ := h
    exact ⟨vs, hv, RepDs.anywhere cs vs hf hr⟩
  | .sl _, _, hf, _ | .rp _, _, hf, _ | .fn _ _, _, hf, _ => by simp [D.free] at hf
theorem RepDs.anywhere {ro ro' : Nat → Prop} {w w' : World} : ∀ (ds : List D) (vs : List Value), D.frees ds = true → RepDs ro w ds vs → RepDs ro' w' ds vs
  | [], vs, _, h => by simpa [RepDs] using h
  | d :: ds, vs, hf, h => by
    simp only [D.frees, Bool.and_eq_true] at hf
    simp only [RepDs] at h ⊢
    obtain ⟨v, vs', rfl, h1, h2⟩ := h
    exact ⟨v, vs', rfl, RepD.anywhere d v hf.1 h1, RepDs.anywhere ds vs' hf.2 h2⟩
end

def rowsD : List (List AV) → Option (List (List D))
  | [] => some []
  | r :: rs => match allD r, rowsD rs with | some d, some ds => some (d :: ds) | _, _ => none

theorem rowsD_dr (l : List (List D)) : rowsD (dr l) = some l := by
  induction l with
  | nil => rfl
  | cons r l ih =>
    show (match allD (r.map AV.d), rowsD (dr l) with | some d, some ds => some (d :: ds) | _, _ => none) = _
    rw [allD_map, ih]

theorem rowsD_length : ∀ {rows : List (List AV)} {ds : List (List D)}, rowsD rows = some ds → ds.length = rows.length
  | [], ds, h => by simp [rowsD] at h; subst h; rfl
  | r :: rs, ds, h => by
    simp only [rowsD] at h
    split at h
    · rename_i d ds' h1 h2
      cases h
      simp [rowsD_length h2]
    · cases h

theorem rowsD_get : ∀ {rows : List (List AV)} {ds : List (List D)}, rowsD rows = some ds → ∀ (i : Nat) (r : List D), ds[i]? = some r → ∃ row, rows[i]? = some row ∧ allD row = some r
  | [], ds, h, i, r, hi => by simp [rowsD] at h; subst h; simp at hi
  | r0 :: rs, ds, h, i, r, hi => by
    simp only [rowsD] at h
    split at h
    · rename_i d ds' h1 h2
      cases h
      cases i with
      | zero => simp at hi; subst hi; exact ⟨r0, by simp, h1⟩
      | succ i => simp at hi; obtain ⟨row, hrow, ha⟩ := rowsD_get h2 i r hi; exact ⟨row, by simpa using hrow, ha⟩
    · cases h

mutual
/-- What an abstract value reads as now; the Bool: it reads owned memory. -/
def snap (hp : Nat → Option Ob) : AV → Option (D × Prop × Bool)
  | .any => none
  | .opt _ _ => none
  | .ub _ _ => none
  | .pin _ _ => none
  | .nl => some (.sl [], True, false)
  | .d x => some (x, True, false)
  | .hs id off len => (hp id).bind fun o => (rowsD o.rows).map fun rs => (.sl ((rs.drop off).take len), off + len ≤ rs.length, true)
  | .ptr id i j => (hp id).bind fun o => (o.rows[i]?).bind fun row => (allD row).map fun r => (.rp (r.drop j), True, true)
  | .agg l => (snaps hp l).map fun x => (.agg x.1, x.2.1, x.2.2)
  | .clo f caps => (snaps hp caps).map fun x => (.fn f x.1, x.2.1, x.2.2)
  | .tup l => (snaps hp l).map fun x => (.tup x.1, x.2.1, x.2.2)
def snaps (hp : Nat → Option Ob) : List AV → Option (List D × Prop × Bool)
  | [] => some ([], True, false)
  | a :: as => match snap hp a, snaps hp as with | some x, some y => some (x.1 :: y.1, x.2.1 ∧ y.2.1, x.2.2 || y.2.2) | _, _ => none
end

mutual
theorem snap_sound {g : G} {obj : Nat → Option Ob} {w : World} (h : HRel g obj w) : ∀ (x : AV) (v : Value) (d : D) (p : Prop) (b : Bool), snap obj x = some (d, p, b) → p → RepA g w x v →
    RepD (fun b => g.ro b ∨ g.owns b) w d v ∧ (b = false → RepD g.ro w d v)
  | .any, _, _, _, _, hs, _, _ => by simp [snap] at hs
  | .opt _ _, _, _, _, _, hs, _, _ => by simp [snap] at hs
  | .ub _ _, _, _, _, _, hs, _, _ => by simp [snap] at hs
  | .pin _ _, _, _, _, _, hs, _, _ => by simp [snap] at hs
  | .nl, v, d, p, b, hs, _, hx => by
    simp [snap] at hs; obtain ⟨rfl, _, rfl⟩ := hs
    simp only [RepA] at hx; subst hx
    exact ⟨repD_nil, fun _ => repD_nil⟩
  | .d y, v, d, p, b, hs, _, hx => by
    simp [snap] at hs; obtain ⟨rfl, _, rfl⟩ := hs
    simp only [RepA] at hx
    exact ⟨RepD.mono (fun b hb => ⟨.inl hb, rfl⟩) y v hx, fun _ => hx⟩
  | .hs id off len, v, d, p, b, hs, hp, hx => by
    simp only [snap] at hs
    cases ho : obj id with
    | none => rw [ho] at hs; cases hs
    | some o =>
      rw [ho] at hs
      simp only [Option.bind_some, Option.map_eq_some_iff] at hs
      obtain ⟨rs, hrs, he⟩ := hs
      simp only [Prod.mk.injEq] at he
      obtain ⟨rfl, rfl, rfl⟩ := he
      refine ⟨?_, fun hb => by cases hb⟩
      obtain ⟨L, hL, hok⟩ := h.own id o ho
      simp only [RepA] at hx
      have hrl := rowsD_length hrs
      rcases hx.2 L hL with ⟨hv, rfl, rfl, rfl⟩ | ⟨hv, hle, rfl⟩
      · simpa using repD_nil
      · have hlen : ((rs.drop off).take len).length = len := by simp; omega
        obtain ⟨_, _, _, hcapm, _⟩ := hok.cells hv
        simp only [RepD]
        refine ⟨some ⟨L.blk, off * L.m, none⟩, L.cap - off, by rw [hlen], by rw [hlen]; omega, by omega, ?_⟩
        refine .inr ⟨L.blk, off * L.m, L.m, rfl, .inr ⟨id, L, hL, hv, rfl⟩, RepRows.of_get fun i r hi => ?_⟩
        rw [List.getElem?_take] at hi
        split at hi
        · rw [List.getElem?_drop] at hi
          obtain ⟨row, hrow, ha⟩ := rowsD_get hrs _ r hi
          obtain ⟨us, hul, hur, huc⟩ := hok.row hv hrow
          refine ⟨us, hul, RepDs.mono (fun b hb => ⟨.inl hb, rfl⟩) r us (RepAs.allD ha hur), ?_⟩
          rwa [Nat.add_mul] at huc
        · cases hi
  | .ptr id i j, v, d, p, b, hs, hp, hx => by
    simp only [snap] at hs
    cases ho : obj id with
    | none => rw [ho] at hs; cases hs
    | some o =>
      rw [ho] at hs
      simp only [Option.bind_some] at hs
      cases hrow : o.rows[i]? with
      | none => rw [hrow] at hs; cases hs
      | some row =>
        rw [hrow] at hs
        simp only [Option.bind_some, Option.map_eq_some_iff] at hs
        obtain ⟨r, hr, he⟩ := hs
        simp only [Prod.mk.injEq] at he
        obtain ⟨rfl, _, rfl⟩ := he
        refine ⟨?_, fun hb => by cases hb⟩
        obtain ⟨L, hL, hok⟩ := h.own id o ho
        simp only [RepA] at hx
        obtain ⟨hv, rfl⟩ := hx.2 L hL
        obtain ⟨us, hul, hur, huc⟩ := hok.row hv hrow
        simp only [RepD]
        exact ⟨L.blk, i * L.m + j, us.drop j, rfl, .inr ⟨id, L, hL, hv, rfl⟩, (RepDs.mono (fun b hb => ⟨.inl hb, rfl⟩) r us (RepAs.allD hr hur)).drop j, huc.drop j⟩
  | .agg l, v, d, p, b, hs, hp, hx => by
    simp only [snap, Option.map_eq_some_iff] at hs
    obtain ⟨⟨ds, p', b'⟩, hs', he⟩ := hs
    simp only [Prod.mk.injEq] at he
    obtain ⟨rfl, rfl, rfl⟩ := he
    simp only [RepA] at hx
    obtain ⟨vs, rfl, ho, hr⟩ := hx
    obtain ⟨h1, h2⟩ := snaps_sound h l vs ds p' b' hs' hp hr
    simp only [RepD]
    exact ⟨⟨vs, rfl, ho, h1⟩, fun hb => ⟨vs, rfl, ho, h2 hb⟩⟩
  | .clo f l, v, d, p, b, hs, hp, hx => by
    simp only [snap, Option.map_eq_some_iff] at hs
    obtain ⟨⟨ds, p', b'⟩, hs', he⟩ := hs
    simp only [Prod.mk.injEq] at he
    obtain ⟨rfl, rfl, rfl⟩ := he
    simp only [RepA] at hx
    obtain ⟨vs, rfl, hr⟩ := hx
    obtain ⟨h1, h2⟩ := snaps_sound h l vs ds p' b' hs' hp hr
    simp only [RepD]
    exact ⟨⟨vs, rfl, h1⟩, fun hb => ⟨vs, rfl, h2 hb⟩⟩
  | .tup l, v, d, p, b, hs, hp, hx => by
    simp only [snap, Option.map_eq_some_iff] at hs
    obtain ⟨⟨ds, p', b'⟩, hs', he⟩ := hs
    simp only [Prod.mk.injEq] at he
    obtain ⟨rfl, rfl, rfl⟩ := he
    simp only [RepA] at hx
    obtain ⟨vs, rfl, hr⟩ := hx
    obtain ⟨h1, h2⟩ := snaps_sound h l vs ds p' b' hs' hp hr
    simp only [RepD]
    exact ⟨⟨vs, rfl, h1⟩, fun hb => ⟨vs, rfl, h2 hb⟩⟩
theorem snaps_sound {g : G} {obj : Nat → Option Ob} {w : World} (h : HRel g obj w) : ∀ (xs : List AV) (vs : List Value) (ds : List D) (p : Prop) (b : Bool), snaps obj xs = some (ds, p, b) → p → RepAs g w xs vs →
    RepDs (fun b => g.ro b ∨ g.owns b) w ds vs ∧ (b = false → RepDs g.ro w ds vs)
  | [], vs, ds, p, b, hs, _, hx => by
    simp [snaps] at hs; obtain ⟨rfl, _, rfl⟩ := hs
    simp only [RepAs] at hx
    exact ⟨by simpa [RepDs] using hx, fun _ => by simpa [RepDs] using hx⟩
  | a :: as, vs, ds, p, b, hs, hp, hx => by
    simp only [snaps] at hs
    cases h1 : snap obj a with
    | none => rw [h1] at hs; cases hs
    | some x =>
      cases h2 : snaps obj as with
      | none => rw [h1, h2] at hs; cases hs
      | some y =>
        rw [h1, h2] at hs
        simp only [Option.some.injEq, Prod.mk.injEq] at hs
        obtain ⟨rfl, rfl, rfl⟩ := hs
        obtain ⟨xd, xp, xb⟩ := x
        obtain ⟨yd, yp, yb⟩ := y
        simp only [RepAs] at hx
        obtain ⟨v, vs', rfl, hv, hvs⟩ := hx
        obtain ⟨a1, a2⟩ := snap_sound h a v xd xp xb h1 hp.1 hv
        obtain ⟨b1, b2⟩ := snaps_sound h as vs' yd yp yb h2 hp.2 hvs
        simp only [RepDs, Bool.or_eq_false_iff]
        exact ⟨⟨v, vs', rfl, a1, b1⟩, fun hb => ⟨v, vs', rfl, a2 hb.1, b2 hb.2⟩⟩
end

def D.freess : List (List D) → Bool
  | [] => true
  | r :: rs => D.frees r && D.freess rs

def Res.free : Res → Bool
  | .p d => d.free
  | .o _ _ rows => D.freess rows
  | .x _ => false
  | .skip => false
  | .ub _ => false
  | .f _ => true

theorem freess_get : ∀ {rows : List (List D)}, D.freess rows = true → ∀ (i : Nat) (r : List D), rows[i]? = some r → D.frees r = true
  | [], _, i, r, hi => by simp at hi
  | r0 :: rs, h, i, r, hi => by
    simp only [D.freess, Bool.and_eq_true] at h
    cases i with
    | zero => simp at hi; subst hi; exact h.1
    | succ i => simp at hi; exact freess_get h.2 i r hi

theorem frees_get : ∀ {ds : List D}, D.frees ds = true → ∀ (i : Nat) (d : D), ds[i]? = some d → d.free = true
  | [], _, i, r, hi => by simp at hi
  | r0 :: rs, h, i, r, hi => by
    simp only [D.frees, Bool.and_eq_true] at h
    cases i with
    | zero => simp at hi; subst hi; exact h.1
    | succ i => simp at hi; exact frees_get h.2 i r hi

mutual
/-- What an abstract value reads as, where all of it lies in owned memory. -/
def snapF (hp : Nat → Option Ob) : AV → Option (D × Prop)
  | .d x => if x.free then some (x, True) else none
  | .nl => some (.sl [], True)
  | .hs id off len => (hp id).bind fun o => (rowsD o.rows).bind fun rs => if D.freess rs then some (.sl ((rs.drop off).take len), off + len ≤ rs.length) else none
  | .agg l => (snapsF hp l).map fun x => (.agg x.1, x.2)
  | .tup l => (snapsF hp l).map fun x => (.tup x.1, x.2)
  | _ => none
def snapsF (hp : Nat → Option Ob) : List AV → Option (List D × Prop)
  | [] => some ([], True)
  | a :: as => match snapF hp a, snapsF hp as with | some x, some y => some (x.1 :: y.1, x.2 ∧ y.2) | _, _ => none
end

mutual
theorem snapF_sound {g : G} {obj : Nat → Option Ob} {w : World} (h : HRel g obj w) : ∀ (x : AV) (v : Value) (d : D) (p : Prop), snapF obj x = some (d, p) → p → RepA g w x v → RepD (fun b => g.owns b) w d v
  | .any, _, _, _, hs, _, _ => by simp [snapF] at hs
  | .opt _ _, _, _, _, hs, _, _ => by simp [snapF] at hs
  | .ub _ _, _, _, _, hs, _, _ => by simp [snapF] at hs
  | .pin _ _, _, _, _, hs, _, _ => by simp [snapF] at hs
  | .ptr _ _ _, _, _, _, hs, _, _ => by simp [snapF] at hs
  | .clo _ _, _, _, _, hs, _, _ => by simp [snapF] at hs
  | .nl, v, d, p, hs, _, hx => by
    simp [snapF] at hs; obtain ⟨rfl, _⟩ := hs
    simp only [RepA] at hx; subst hx
    exact repD_nil
  | .d y, v, d, p, hs, _, hx => by
    simp only [snapF] at hs
    split at hs
    · rename_i hf
      simp only [Option.some.injEq, Prod.mk.injEq] at hs
      obtain ⟨rfl, _⟩ := hs
      simp only [RepA] at hx
      exact RepD.anywhere y v hf hx
    · cases hs
  | .hs id off len, v, d, p, hs, hp, hx => by
    simp only [snapF] at hs
    cases ho : obj id with
    | none => rw [ho] at hs; cases hs
    | some o =>
      rw [ho] at hs
      simp only [Option.bind_some] at hs
      cases hrs : rowsD o.rows with
      | none => rw [hrs] at hs; cases hs
      | some rs =>
        rw [hrs] at hs
        simp only [Option.bind_some] at hs
        split at hs
        · rename_i hfree
          simp only [Option.some.injEq, Prod.mk.injEq] at hs
          obtain ⟨rfl, rfl⟩ := hs
          obtain ⟨L, hL, hok⟩ := h.own id o ho
          simp only [RepA] at hx
          have hrl := rowsD_length hrs
          rcases hx.2 L hL with ⟨hv, rfl, rfl, rfl⟩ | ⟨hv, hle, rfl⟩
          · simpa using repD_nil
          · have hlen : ((rs.drop off).take len).length = len := by simp; omega
            obtain ⟨_, _, _, hcapm, _⟩ := hok.cells hv
            simp only [RepD]
            refine ⟨some ⟨L.blk, off * L.m, none⟩, L.cap - off, by rw [hlen], by rw [hlen]; omega, by omega, ?_⟩
            refine .inr ⟨L.blk, off * L.m, L.m, rfl, ⟨id, L, hL, hv, rfl⟩, RepRows.of_get fun i r hi => ?_⟩
            rw [List.getElem?_take] at hi
            split at hi
            · rw [List.getElem?_drop] at hi
              obtain ⟨row, hrow, ha⟩ := rowsD_get hrs _ r hi
              obtain ⟨us, hul, hur, huc⟩ := hok.row hv hrow
              refine ⟨us, hul, RepDs.anywhere r us (freess_get hfree _ r hi) (RepAs.allD ha hur), ?_⟩
              rwa [Nat.add_mul] at huc
            · cases hi
        · cases hs
  | .agg l, v, d, p, hs, hp, hx => by
    simp only [snapF, Option.map_eq_some_iff] at hs
    obtain ⟨⟨ds, q⟩, hl, he⟩ := hs
    simp only [Prod.mk.injEq] at he
    obtain ⟨rfl, rfl⟩ := he
    simp only [RepA] at hx
    obtain ⟨vs, hv, ho, hr⟩ := hx
    simp only [RepD]
    exact ⟨vs, hv, ho, snapsF_sound h l vs ds _ hl hp hr⟩
  | .tup l, v, d, p, hs, hp, hx => by
    simp only [snapF, Option.map_eq_some_iff] at hs
    obtain ⟨⟨ds, q⟩, hl, he⟩ := hs
    simp only [Prod.mk.injEq] at he
    obtain ⟨rfl, rfl⟩ := he
    simp only [RepA] at hx
    obtain ⟨vs, hv, hr⟩ := hx
    simp only [RepD]
    exact ⟨vs, hv, snapsF_sound h l vs ds _ hl hp hr⟩
theorem snapsF_sound {g : G} {obj : Nat → Option Ob} {w : World} (h : HRel g obj w) : ∀ (xs : List AV) (vs : List Value) (ds : List D) (p : Prop), snapsF obj xs = some (ds, p) → p → RepAs g w xs vs → RepDs (fun b => g.owns b) w ds vs
  | [], vs, ds, p, hs, _, hx => by
    simp [snapsF] at hs; obtain ⟨rfl, _⟩ := hs
    simpa [RepAs, RepDs] using hx
  | a :: as, vs, ds, p, hs, hp, hx => by
    simp only [snapsF] at hs
    cases h1 : snapF obj a with
    | none => rw [h1] at hs; cases hs
    | some x =>
      cases h2 : snapsF obj as with
      | none => rw [h1, h2] at hs; cases hs
      | some y =>
        rw [h1, h2] at hs
        simp only [Option.some.injEq, Prod.mk.injEq] at hs
        obtain ⟨rfl, rfl⟩ := hs
        simp only [RepAs] at hx
        obtain ⟨v, vs', rfl, k1, k2⟩ := hx
        simp only [RepDs]
        exact ⟨v, vs', rfl, snapF_sound h a v x.1 x.2 h1 hp.1 k1, snapsF_sound h as vs' y.1 y.2 h2 hp.2 k2⟩
end

theorem freess_map {α : Type} {row : α → List D} (h : ∀ a, D.frees (row a) = true) (l : List α) : D.freess (l.map row) = true := by
  induction l with
  | nil => rfl
  | cons a l ih => simp [D.freess, h a, ih]

/-- An object that lies in a block that is already there and that nobody has. -/
theorem HRel.adopt {g : G} {obj : Nat → Option Ob} {w : World} (h : HRel g obj w) {id B cap : Nat} (hid : ¬ g.used id) (o : Ob) (cur : Array Value) (hro : ¬ g.ro B) (hown : ¬ g.owns B)
    (hnew : w.heap[B]? = some (.cells cur o.elem (0, 0))) (hm : 0 < o.m) (hcs : cur.size = cap * o.m) (hlen : o.rows.length ≤ cap) (hcap : cap ≤ maxLen)
    (hrep : ∀ i row, o.rows[i]? = some row → row.length = o.m ∧ ∀ (j : Nat) (av : AV), row[j]? = some av → ∃ v : Value, cur[i * o.m + j]? = some v ∧ v.oneCell' = true ∧ RepA g w av v) :
    ∃ g', g'.loc id = some ⟨B, o.m, cap, false⟩ ∧ g'.used = (fun x => g.used x ∨ x = id) ∧ g'.ro = g.ro ∧ HRel g' (upd1 obj id (some o)) w ∧ (∀ b, g'.owns b → g.owns b ∨ b = B) ∧ Later g w g' w := by
  let g' : G := ⟨g.ro, fun x => if x = id then some ⟨B, o.m, cap, false⟩ else g.loc x, fun x => g.used x ∨ x = id⟩
  have hloc : ∀ x L, g'.loc x = some L → (x = id ∧ L = ⟨B, o.m, cap, false⟩) ∨ (x ≠ id ∧ g.loc x = some L) := by
    intro x L hx
    simp only [g'] at hx
    split at hx
    · rename_i e; exact .inl ⟨e, by simpa using hx.symm⟩
    · rename_i e; exact .inr ⟨e, hx⟩
  have hlater : Later g w g' w := ⟨fun b hb => ⟨hb, rfl⟩, fun x hx => .inl hx, fun x hx => .inl (by simp only [g']; rw [if_neg (fun e : x = id => hid (e ▸ hx))])⟩
  refine ⟨g', by simp [g'], rfl, rfl, ⟨?_, ?_, ?_, ?_, h.ro⟩, ?_, hlater⟩
  · intro x o' hx
    simp only [upd1] at hx
    split at hx
    · rename_i e
      cases hx
      subst e
      refine ⟨⟨B, o.m, cap, false⟩, by simp [g'], ⟨rfl, hm, hlen, by simp, fun _ => ⟨cur, hnew, hcs, hcap, fun i row hi => ⟨(hrep i row hi).1, fun j av hj => ?_⟩⟩⟩⟩
      obtain ⟨v, hv, ho, hr⟩ := (hrep i row hi).2 j av hj
      exact ⟨v, hv, ho, RepA.later hlater av v hr⟩
    · rename_i e
      obtain ⟨L, hL, hok⟩ := h.own x o' hx
      exact ⟨L, by simp [g', e, hL], hok.later hlater fun _ => rfl⟩
  · intro x hx
    simp only [upd1] at hx
    split at hx
    · cases hx
    · rename_i e; simp [g', e, h.gone x hx]
  · intro x L hx
    rcases hloc x L hx with ⟨rfl, rfl⟩ | ⟨e, hL⟩
    · exact ⟨.inr rfl, fun _ => ⟨(Array.getElem?_eq_some_iff.1 hnew).1, hro⟩⟩
    · exact ⟨.inl (h.live x L hL).1, (h.live x L hL).2⟩
  · intro x y L L' hx hy hv hv' hb
    rcases hloc x L hx with ⟨rfl, rfl⟩ | ⟨e, hL⟩ <;> rcases hloc y L' hy with ⟨rfl, rfl⟩ | ⟨e', hL'⟩
    · rfl
    · exact absurd ⟨y, L', hL', hv', hb.symm⟩ hown
    · exact absurd ⟨x, L, hL, hv, hb⟩ hown
    · exact h.inj x y L L' hL hL' hv hv' hb
  · rintro b ⟨x, L, hx, hv, rfl⟩
    rcases hloc x L hx with ⟨rfl, rfl⟩ | ⟨e, hL⟩
    · exact .inr rfl
    · exact .inl ⟨x, L, hL, hv, rfl⟩

/-- What a call leaves in the abstract state. -/
def resEff (nid : Nat) : Res → AV × List (Nat × Option Ob)
  | .p d => (.d d, [])
  | .o e m rows => (.hs nid 0 rows.length, [(nid, some ⟨e, m, dr rows⟩)])
  | .x _ => (.any, [])
  | .skip => (.any, [])
  | .ub _ => (.any, [])
  | .f d => (.d d, [])

theorem dr_get {rows : List (List D)} {i : Nat} {row : List AV} (h : (dr rows)[i]? = some row) : ∃ r, rows[i]? = some r ∧ row = r.map AV.d := by
  simp only [dr, List.getElem?_map, Option.map_eq_some_iff] at h
  obtain ⟨r, h1, h2⟩ := h
  exact ⟨r, h1, h2.symm⟩

theorem res_sound {g : G} {obj : Nat → Option Ob} {w w' : World} (h : HRel g obj w) {nid : Nat} (hid : ¬ g.used nid) {r : Res} {v : Value} (hb : Below w.heap.size w w') {ro : Nat → Prop} (hro : (∀ b, ro b → g.ro b) ∨ r.free = true)
    (hr : RepRes ro w.heap.size w' r v) {p : Prop} : After g obj w nid { val := (resEff nid r).1, wr := (resEff nid r).2, ob := p } v w' := by
  cases r with
  | x c => simp [RepRes] at hr
  | skip => simp [RepRes] at hr
  | ub b => simp [RepRes] at hr
  | f d =>
    simp only [RepRes] at hr
    obtain ⟨h1, h2, h3⟩ := h.wide hb (fun b => w.heap.size ≤ b ∧ b < w'.heap.size) (fun b hb => hb)
    refine ⟨_, h1, h2, h3, fun _ hk => .inl hk, ?_⟩
    simp only [resEff, RepA]
    exact RepD.mono (fun b hb => ⟨.inr hb, rfl⟩) d v hr
  | p d =>
    simp only [RepRes] at hr
    obtain ⟨h1, h2, h3⟩ := h.wide hb (fun b => w.heap.size ≤ b ∧ b < w'.heap.size) (fun b hb => hb)
    refine ⟨_, h1, h2, h3, fun _ hk => .inl hk, ?_⟩
    simp only [resEff, RepA]
    rcases hro with hro | hf
    · exact RepD.mono (fun b hb => ⟨hb.imp (hro b) fun x => x, rfl⟩) d v hr
    · exact RepD.anywhere d v hf hr
  | o e m rows =>
    simp only [RepRes, OwnRes] at hr
    obtain ⟨hm, hr⟩ := hr
    rcases hr with ⟨rfl, rfl⟩ | ⟨B, cap, cur, hB, hv, hcell, hlen, hcap, hcs, hrep⟩
    · obtain ⟨h1, h2, h3⟩ := h.idle hb
      obtain ⟨g', a1, a2, a3, a4, a5, a6⟩ := h1.newVirt hid e m hm
      refine ⟨g', by simpa [resEff, updL, dr] using a4, h2.trans a5, ⟨fun b hb => ⟨(a6.fut b hb).1, (h3.fut b hb).2⟩, a6.used, a6.loc⟩, fun k hk => by rw [a2] at hk; exact hk, ?_⟩
      simp only [resEff, RepA]
      refine ⟨⟨by rw [a2]; exact .inr rfl, rfl⟩, fun L hL => ?_⟩
      rw [a1] at hL; cases hL
      exact .inl ⟨by trivial, by trivial, by simp, by trivial⟩
    · obtain ⟨h1, h2, h3⟩ := h.wide hb (fun b => w.heap.size ≤ b ∧ b < w'.heap.size ∧ b ≠ B) (fun b hb => ⟨hb.1, hb.2.1⟩)
      have hnro : ¬ (g.ro B ∨ (w.heap.size ≤ B ∧ B < w'.heap.size ∧ B ≠ B)) := by
        rintro (hg | hg)
        · have := h.ro B hg; omega
        · exact hg.2.2 rfl
      have hnown : ¬ G.owns ⟨fun b => g.ro b ∨ (w.heap.size ≤ b ∧ b < w'.heap.size ∧ b ≠ B), g.loc, g.used⟩ B := by
        rintro ⟨x, L, hx, hvx, rfl⟩
        have := ((h.live x L hx).2 hvx).1
        omega
      obtain ⟨g', a1, a2, a3, a4, a5, a6⟩ := h1.adopt hid ⟨e, m, dr rows⟩ cur hnro hnown hcell hm hcs (by simpa [dr] using hlen) hcap (fun i row hi => by
        obtain ⟨r, hr', rfl⟩ := dr_get hi
        obtain ⟨c1, c2⟩ := hrep i r hr'
        refine ⟨by simpa using c1, fun j av hj => ?_⟩
        simp only [List.getElem?_map, Option.map_eq_some_iff] at hj
        obtain ⟨d, hd, rfl⟩ := hj
        obtain ⟨u, hu, ho, hrd⟩ := c2 j d hd
        refine ⟨u, hu, ho, ?_⟩
        simp only [RepA]
        rcases hro with hro | hf
        · exact RepD.mono (fun b hb => ⟨hb.imp (hro b) fun x => x, rfl⟩) d u hrd
        · exact RepD.anywhere d u (frees_get (freess_get hf i r hr') j d hd) hrd)
      refine ⟨g', by simpa [resEff, updL] using a4, ⟨h2.os, h2.tape, h2.output, h2.size, h2.block, fun b hb => ?_, fun b hb => by rw [a3]; exact .inl hb, fun b hb => by rw [a3] at hb; exact h2.ro' b hb⟩,
        ⟨fun b hb => ⟨by rw [a3]; exact .inl hb, (h3.fut b hb).2⟩, a6.used, a6.loc⟩, fun k hk => by rw [a2] at hk; exact hk, ?_⟩
      · rcases a5 b hb with hb | rfl
        · exact h2.own b hb
        · exact .inl hB
      · rw [hv]
        exact rep_hs (by rw [a2]; exact .inr rfl) a1 rfl hlen

/-- A call through a function's value. -/
def effCallP (P : Program) (orc : Option Res) (hp : Nat → Option Ob) (nid : Nat) : List AV → Option Eff
  | fv :: args =>
    match snap hp fv, snaps hp args, orc with
    | some (.fn (.func f) caps, p0, b0), some (ds, p, b), some r =>
      some { val := (resEff nid r).1, wr := (resEff nid r).2, ob := (p0 ∧ p ∧ ((b0 || b) = true → r.free = true)) ∧ PC P f (ds ++ caps) r }
    | _, _, _ => none
  | [] => none

theorem callP_sound {P : Program} {o : Oper} {a : Act} {g : G} {obj : Nat → Option Ob} {w : World} (h : HRel g obj w) {nid : Nat} (hid : ¬ g.used nid) {c : Call} {f : Operand} (ho : o.op = .call c) (hc : c.callee = .value f)
    {orc : Option Res} {args : List AV} {e : Eff} (hargs : RepAs g w args (a.eval f :: c.args.toList.map a.eval)) (he : effCallP P orc obj nid args = some e) (hob : e.ob) : Does P o a w (After g obj w nid e) := by
  cases args with
  | nil => simp [effCallP] at he
  | cons fv args =>
    simp only [RepAs] at hargs
    obtain ⟨v, vs, heq, hfv, hargs⟩ := hargs
    simp only [List.cons.injEq] at heq
    obtain ⟨rfl, rfl⟩ := heq
    simp only [effCallP] at he
    split at he
    · rename_i k caps p0 b0 ds p b r h1 h2
      cases he
      obtain ⟨⟨hp0, hp, hfree⟩, henter, hcontract⟩ := hob
      obtain ⟨c1, c2⟩ := snap_sound h fv _ _ _ _ h1 hp0 hfv
      obtain ⟨d1, d2⟩ := snaps_sound h args _ _ _ _ h2 hp hargs
      have hf : ∃ cs : List Value, a.eval f = .func (.func k) #[] cs.toArray ∧ RepDs (fun b => g.ro b ∨ g.owns b) w caps cs ∧ (b0 = false → RepDs g.ro w caps cs) := by
        simp only [RepD] at c1
        obtain ⟨cs, hcs, hrc⟩ := c1
        refine ⟨cs, hcs, hrc, fun hb0 => ?_⟩
        have := c2 hb0
        simp only [RepD] at this
        obtain ⟨cs', hcs', hrc'⟩ := this
        rw [hcs] at hcs'
        simp only [Value.func.injEq, true_and] at hcs'
        have : cs = cs' := by simpa using hcs'
        rw [this]; exact hrc'
      obtain ⟨cs, hcs, hrc, hrc'⟩ := hf
      obtain ⟨fn, hfn, hname, hbody⟩ := henter
      have hrun : (execOp a.eval o).run P w = .ok (.enter k ((c.args.toList.map a.eval) ++ cs).toArray) w := by
        unfold execOp
        simp only [ho, resolve, hc, Deferred.ofValue, hcs, Sem.run_bind, Sem.run_pure, Result.andThen_ok, invoke, callFunc, run_program, hfn, hname, hbody, Bool.false_eq_true, if_false]
        congr 2
        simp
      by_cases hbb : (b0 || b) = true
      · refine does_calls hrun ((hcontract (fun b => g.ro b ∨ g.owns b) w _ (fun b hb => hb.elim (h.ro b) fun ⟨x, L, hx, hv, hb⟩ => hb ▸ ((h.live x L hx).2 hv).1) (d1.append hrc)).mono fun e w' ⟨v, he, hb, hr⟩ => ⟨v, he, ?_⟩)
        exact res_sound h hid hb (.inr (hfree hbb)) hr
      · simp only [Bool.or_eq_true, not_or, Bool.not_eq_true] at hbb
        refine does_calls hrun ((hcontract g.ro w _ h.ro ((d2 hbb.2).append (hrc' hbb.1))).mono fun e w' ⟨v, he, hb, hr⟩ => ⟨v, he, ?_⟩)
        exact res_sound h hid hb (.inl fun _ hb => hb) hr
    · cases he

/-- The function that a value stands for, and what it has caught. -/
def calleeA : AV → Option (FuncId × List AV)
  | .d (.fn (.func f) caps) => some (f, caps.map .d)
  | .clo (.func f) caps => some (f, caps)
  | _ => none

def effCall (P : Program) (orc : Option Res) (hp : Nat → Option Ob) (nid : Nat) (l : List AV) : Option Eff :=
  match orc, l with
  | some (.x c), fv :: args => (calleeA fv).map fun q => effX P q.1 c nid hp (args ++ q.2)
  | r, l => effCallP P r hp nid l

theorem call_sound {P : Program} {o : Oper} {a : Act} {g : G} {obj : Nat → Option Ob} {w : World} (h : HRel g obj w) {nid : Nat} (hid : ¬ g.used nid) {c : Call} {f : Operand} (ho : o.op = .call c) (hc : c.callee = .value f)
    {orc : Option Res} {args : List AV} {e : Eff} (hargs : RepAs g w args (a.eval f :: c.args.toList.map a.eval)) (he : effCall P orc obj nid args = some e) (hob : e.ob) : Does P o a w (After g obj w nid e) := by
  unfold effCall at he
  split at he
  · rename_i xc fv as
    simp only [Option.map_eq_some_iff] at he
    obtain ⟨⟨k, caps⟩, hcal, rfl⟩ := he
    simp only [RepAs] at hargs
    obtain ⟨v, vs, heq, hfv, hargs⟩ := hargs
    simp only [List.cons.injEq] at heq
    obtain ⟨rfl, rfl⟩ := heq
    have hf : ∃ cs : List Value, a.eval f = .func (.func k) #[] cs.toArray ∧ RepAs g w caps cs := by
      unfold calleeA at hcal
      split at hcal
      · cases hcal
        simp only [RepA, RepD] at hfv
        obtain ⟨cs, h1, h2⟩ := hfv
        exact ⟨cs, h1, RepAs.of_ds h2⟩
      · cases hcal
        simp only [RepA] at hfv
        exact hfv
      · cases hcal
    obtain ⟨cs, hcs, hrc⟩ := hf
    obtain ⟨fn, hfn, hname, hbody⟩ := hob.2.1
    have hrun : (execOp a.eval o).run P w = .ok (.enter k ((c.args.toList.map a.eval) ++ cs).toArray) w := by
      unfold execOp
      simp only [ho, resolve, hc, Deferred.ofValue, hcs, Sem.run_bind, Sem.run_pure, Result.andThen_ok, invoke, callFunc, run_program, hfn, hname, hbody, Bool.false_eq_true, if_false]
      congr 2
      simp
    exact does_calls hrun (x_sound h hid (hargs.append hrc) hob)
  · exact callP_sound h hid ho hc hargs he hob

end Go.Abs
