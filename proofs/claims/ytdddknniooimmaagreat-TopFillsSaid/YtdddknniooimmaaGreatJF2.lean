/-
  Texts of this seat put together: Abs5, Abs6, Abs7, Abs8, Abs9, Abs10.
-/
import Derived.Test.YtdddknniooimmaaGreatJF1
import Derived.WalkSpells
import Derived.Scope
set_option linter.unusedVariables false
set_option linter.unusedSectionVars false
set_option linter.unusedSimpArgs false
namespace Go.Abs
variable [Flag]
open Go.RowKit

inductive Res where
 | p (d : D)
 | o (e : TypeId) (m : Nat) (rows : List (List D))
 | x (c : XC)
 | skip
 | f (d : D)
 | ub (b : Bool)

def OwnRes (ro : Nat -> Prop) (n0 : Nat) (w' : World) (e : TypeId) (m : Nat) (rows : List (List D)) (v : Value) : Prop :=
 0 < m /\ ((rows = [] /\ ∃ a, v = .slice a 0 0) \/ ∃ B cap cur, n0 <= B /\ v = .slice (some ⟨B, 0, none⟩) rows.length cap /\ zfl (w'.heap[B]?) e cur /\ rows.length <= cap /\ cap <= maxLen /\ cur.size = cap * m /\
  ∀ i row, rows[i]? = some row -> row.length = m /\ ∀ (j : Nat) (d : D), row[j]? = some d -> ∃ u : Value, cur[i * m + j]? = some u /\ u.oneCell' = true /\ zr (fun b => ro b \/ (n0 <= b /\ b < w'.heap.size /\ b ≠ B)) w' d u)

def zdn (ro : Nat -> Prop) (n0 : Nat) (w' : World) : Res -> Value -> Prop
 | .p d, v => zr (fun b => ro b \/ (n0 <= b /\ b < w'.heap.size)) w' d v
 | .o e m rows, v => OwnRes ro n0 w' e m rows v
 | .x _, _ => False
 | .skip, _ => False
 | .ub _, _ => False
 | .f d, v => zr (fun b => n0 <= b /\ b < w'.heap.size) w' d v

def PC (P : Program) (f : FuncId) (ds : List D) (r : Res) : Prop :=
 zjg P f /\ ∀ (ro : Nat -> Prop) (w : World) (vs : List Value), (∀ b, ro b -> b < w.heap.size) -> zq ro w ds vs ->
  Calls P f vs.toArray w fun e w' => ∃ v, e = .returned v /\ Below w.heap.size w w' /\ zdn ro w.heap.size w' r v

mutual
def D.free : D -> Bool
 | .bool _ | .int _ _ | .str _ | .np => true
 | .agg cs => D.frees cs
 | .tup cs => D.frees cs
 | .sl _ | .rp _ | .fn _ _ | .mp _ => false
def D.frees : List D -> Bool
 | [] => true
 | d :: ds => d.free && D.frees ds
end

mutual
theorem zr.anywhere {ro ro' : Nat -> Prop} {w w' : World} : ∀ (d : D) (v : Value), d.free = true -> zr ro w d v -> zr ro' w' d v
 | .np, v, _, h => by simpa [zr] using h
 | .bool b, v, _, h => by simpa [zr] using h
 | .int k n, v, _, h => by simpa [zr] using h
 | .str s, v, _, h => by simpa [zr] using h
 | .agg cs, v, hf, h => by
  simp only [D.free] at hf;simp only [zr] at h ⊢;obtain ⟨vs, hv, ho, hr⟩ := h;exact ⟨vs, hv, ho, zq.anywhere cs vs hf hr⟩
 | .tup cs, v, hf, h => by
  simp only [D.free] at hf;simp only [zr] at h ⊢;obtain ⟨vs, hv, hr⟩ := h;exact ⟨vs, hv, zq.anywhere cs vs hf hr⟩
 | .sl _, _, hf, _ | .rp _, _, hf, _ | .fn _ _, _, hf, _ | .mp _, _, hf, _ => by simp [D.free] at hf
theorem zq.anywhere {ro ro' : Nat -> Prop} {w w' : World} : ∀ (ds : List D) (vs : List Value), D.frees ds = true -> zq ro w ds vs -> zq ro' w' ds vs
 | [], vs, _, h => by simpa [zq] using h
 | d :: ds, vs, hf, h => by
  simp only [D.frees, Bool.and_eq_true] at hf;simp only [zq] at h ⊢;obtain ⟨v, vs', rfl, h1, h2⟩ := h;exact ⟨v, vs', rfl, zr.anywhere d v hf.1 h1, zq.anywhere ds vs' hf.2 h2⟩
end

def zdc : List (List AV) -> Option (List (List D))
 | [] => some []
 | r :: rs => match allD r, zdc rs with | some d, some ds => some (d :: ds) | _, _ => none

theorem rowsD_dr (l : List (List D)) : zdc (dr l) = some l := by
 induction l with
 | nil => rfl
 | cons r l ih =>
  show (match allD (r.map AV.d), zdc (dr l) with | some d, some ds => some (d :: ds) | _, _ => none) = _
  rw [allD_map, ih]

theorem zgz : ∀ {rows : List (List AV)} {ds : List (List D)}, zdc rows = some ds -> ds.length = rows.length
 | [], ds, h => by simp [zdc] at h; subst h; rfl
 | r :: rs, ds, h => by
  simp only [zdc] at h;split at h
  ·rename_i d ds' h1 h2;cases h;simp [zgz h2]
  ·cases h

theorem zgs : ∀ {rows : List (List AV)} {ds : List (List D)}, zdc rows = some ds -> ∀ (i : Nat) (r : List D), ds[i]? = some r -> ∃ row, rows[i]? = some row /\ allD row = some r
 | [], ds, h, i, r, hi => by simp [zdc] at h; subst h; simp at hi
 | r0 :: rs, ds, h, i, r, hi => by
  simp only [zdc] at h;split at h
  ·rename_i d ds' h1 h2;cases h;cases i with
   | zero => simp at hi; subst hi; exact ⟨r0, by simp, h1⟩
   | succ i => simp at hi; obtain ⟨row, hrow, ha⟩ := zgs h2 i r hi; exact ⟨row, by simpa using hrow, ha⟩
  ·cases h

mutual
def zho (hp : Nat -> Option Ob) : AV -> Option (D × Prop × Bool)
 | .any => none
 | .opt _ _ => none
 | .ub _ _ => none
 | .lit _ => none
 | .pin _ _ => none
 | .nl => some (.sl [], True, false)
 | .d x => some (x, True, false)
 | .hs id off len => (hp id).bind fun o => (zdc o.rows).map fun rs => (.sl ((rs.drop off).take len), off + len <= rs.length, true)
 | .ptr id i j => (hp id).bind fun o => (o.rows[i]?).bind fun row => (allD row).map fun r => (.rp (r.drop j), True, true)
 | .hm id => (hp id).bind fun o => (zdc o.rows).map fun rs => (.mp rs, True, true)
 | .agg l => (zmg hp l).map fun x => (.agg x.1, x.2.1, x.2.2)
 | .clo f caps => if zpv caps then (zmg hp caps).map fun x => (.fn f x.1, x.2.1, x.2.2) else none
 | .tup l => (zmg hp l).map fun x => (.tup x.1, x.2.1, x.2.2)
def zmg (hp : Nat -> Option Ob) : List AV -> Option (List D × Prop × Bool)
 | [] => some ([], True, false)
 | a :: as => match zho hp a, zmg hp as with | some x, some y => some (x.1 :: y.1, x.2.1 /\ y.2.1, x.2.2 || y.2.2) | _, _ => none
end

theorem ents_D {g : G} {w : World} : ∀ {rows : List (List AV)} {rs : List (List D)} {es : List MapEntry}, zdc rows = some rs -> zad g w rows es -> zdz g.ro w rs es
 | [], rs, es, h, he => by simp [zdc] at h; subst h; simpa [zdz, zad] using he
 | r :: rows, rs, es, h, he => by
  simp only [zdc] at h;split at h
  ·rename_i d ds h1 h2;cases h;simp only [zad] at he;obtain ⟨e, es', rfl, h3, h4⟩ := he;simp only [zdz];exact ⟨e, es', rfl, zj.allD h1 h3, ents_D h2 h4⟩
  ·cases h

mutual
theorem zno {g : G} {obj : Nat -> Option Ob} {w : World} (h : zam g obj w) : ∀ (x : AV) (v : Value) (d : D) (p : Prop) (b : Bool), zho obj x = some (d, p, b) -> p -> zh g w x v ->
  zr (fun b => g.ro b \/ g.owns b) w d v /\ (b = false -> zr g.ro w d v)
 | .any, _, _, _, _, hs, _, _ => by simp [zho] at hs
 | .opt _ _, _, _, _, _, hs, _, _ => by simp [zho] at hs
 | .ub _ _, _, _, _, _, hs, _, _ => by simp [zho] at hs
 | .lit _, _, _, _, _, hs, _, _ => by simp [zho] at hs
 | .pin _ _, _, _, _, _, hs, _, _ => by simp [zho] at hs
 | .nl, v, d, p, b, hs, _, hx => by
  simp [zho] at hs; obtain ⟨rfl, _, rfl⟩ := hs;simp only [zh] at hx; subst hx;exact ⟨zff, fun _ => zff⟩
 | .d y, v, d, p, b, hs, _, hx => by
  simp [zho] at hs; obtain ⟨rfl, _, rfl⟩ := hs;simp only [zh] at hx;exact ⟨zr.mono (fun b hb => ⟨.inl hb, rfl⟩) y v hx, fun _ => hx⟩
 | .hs id off len, v, d, p, b, hs, hp, hx => by
  simp only [zho] at hs;cases ho : obj id with
  | none => rw [ho] at hs; cases hs
  | some o =>
   rw [ho] at hs;simp only [Option.bind_some, Option.map_eq_some_iff] at hs;obtain ⟨rs, hrs, he⟩ := hs;simp only [Prod.mk.injEq] at he;obtain ⟨rfl, rfl, rfl⟩ := he;refine ⟨?_, fun hb => by cases hb⟩;obtain ⟨L, hL, hok⟩ := h.own id o ho;simp only [zh] at hx;have hrl := zgz hrs;rcases hx.2 L hL with ⟨hv, rfl, rfl, a0, rfl⟩ | ⟨hv, hle, rfl⟩
   ·simpa using zff
   ·have hlen : ((rs.drop off).take len).length = len := by simp; omega
    obtain ⟨_, _, _, hcapm, _⟩ := hok.cells hv;simp only [zr];refine ⟨some ⟨L.blk, off * L.m, none⟩, L.cap - off, by rw [hlen], by rw [hlen]; omega, by omega, ?_⟩;refine .inr ⟨L.blk, off * L.m, L.m, rfl, .inr ⟨id, L, hL, hv.1, rfl⟩, zau.of_get fun i r hi => ?_⟩;rw [List.getElem?_take] at hi;split at hi
    ·rw [List.getElem?_drop] at hi;obtain ⟨row, hrow, ha⟩ := zgs hrs _ r hi;obtain ⟨us, hul, hur, huc⟩ := hok.row hv hrow;refine ⟨us, hul, zq.mono (fun b hb => ⟨.inl hb, rfl⟩) r us (zj.allD ha hur), ?_⟩
     rwa [Nat.add_mul] at huc
    ·cases hi
 | .ptr id i j, v, d, p, b, hs, hp, hx => by
  simp only [zho] at hs;cases ho : obj id with
  | none => rw [ho] at hs; cases hs
  | some o =>
   rw [ho] at hs;simp only [Option.bind_some] at hs;cases hrow : o.rows[i]? with
   | none => rw [hrow] at hs; cases hs
   | some row =>
    rw [hrow] at hs;simp only [Option.bind_some, Option.map_eq_some_iff] at hs;obtain ⟨r, hr, he⟩ := hs;simp only [Prod.mk.injEq] at he;obtain ⟨rfl, _, rfl⟩ := he;refine ⟨?_, fun hb => by cases hb⟩;obtain ⟨L, hL, hok⟩ := h.own id o ho;simp only [zh] at hx;obtain ⟨hv, rfl⟩ := hx.2 L hL;obtain ⟨us, hul, hur, huc⟩ := hok.row hv hrow;simp only [zr];exact ⟨L.blk, i * L.m + j, us.drop j, rfl, .inr ⟨id, L, hL, hv.1, rfl⟩, (zq.mono (fun b hb => ⟨.inl hb, rfl⟩) r us (zj.allD hr hur)).drop j, huc.drop j⟩
 | .hm id, v, d, p, b, hs, hp, hx => by
  simp only [zho] at hs;cases ho : obj id with
  | none => rw [ho] at hs; cases hs
  | some o =>
   rw [ho] at hs;simp only [Option.bind_some, Option.map_eq_some_iff] at hs;obtain ⟨rs, hrs, he⟩ := hs;simp only [Prod.mk.injEq] at he;obtain ⟨rfl, _, rfl⟩ := he;refine ⟨?_, fun hb => by cases hb⟩;obtain ⟨L, hL, hok⟩ := h.own id o ho;simp only [zh] at hx;obtain ⟨hv, rfl⟩ := hx.2 L hL;obtain ⟨_, es, clock, e1, e2, e3⟩ := hok.ents hv;simp only [zr];exact ⟨L.blk, es, clock, rfl, .inr ⟨id, L, hL, hv.1, rfl⟩, e1, zdz.mono (fun b hb => ⟨.inl hb, rfl⟩) _ _ (ents_D hrs e3)⟩
 | .agg l, v, d, p, b, hs, hp, hx => by
  simp only [zho, Option.map_eq_some_iff] at hs;obtain ⟨⟨ds, p', b'⟩, hs', he⟩ := hs;simp only [Prod.mk.injEq] at he;obtain ⟨rfl, rfl, rfl⟩ := he;simp only [zh] at hx;obtain ⟨vs, rfl, ho, hr⟩ := hx;obtain ⟨h1, h2⟩ := zin h l vs ds p' b' hs' hp hr;simp only [zr];exact ⟨⟨vs, rfl, ho, h1⟩, fun hb => ⟨vs, rfl, ho, h2 hb⟩⟩
 | .clo f l, v, d, p, b, hs, hp, hx => by
  simp only [zho] at hs;split at hs
  case isFalse => cases hs
  rename_i hok;simp only [Option.map_eq_some_iff] at hs;obtain ⟨⟨ds, p', b'⟩, hs', he⟩ := hs;simp only [Prod.mk.injEq] at he;obtain ⟨rfl, rfl, rfl⟩ := he;obtain ⟨vs, rfl, hr⟩ := zrv hok hx;obtain ⟨h1, h2⟩ := zin h l vs ds p' b' hs' hp hr;simp only [zr];exact ⟨⟨vs, rfl, h1⟩, fun hb => ⟨vs, rfl, h2 hb⟩⟩
 | .tup l, v, d, p, b, hs, hp, hx => by
  simp only [zho, Option.map_eq_some_iff] at hs;obtain ⟨⟨ds, p', b'⟩, hs', he⟩ := hs;simp only [Prod.mk.injEq] at he;obtain ⟨rfl, rfl, rfl⟩ := he;simp only [zh] at hx;obtain ⟨vs, rfl, hr⟩ := hx;obtain ⟨h1, h2⟩ := zin h l vs ds p' b' hs' hp hr;simp only [zr];exact ⟨⟨vs, rfl, h1⟩, fun hb => ⟨vs, rfl, h2 hb⟩⟩
theorem zin {g : G} {obj : Nat -> Option Ob} {w : World} (h : zam g obj w) : ∀ (xs : List AV) (vs : List Value) (ds : List D) (p : Prop) (b : Bool), zmg obj xs = some (ds, p, b) -> p -> zj g w xs vs ->
  zq (fun b => g.ro b \/ g.owns b) w ds vs /\ (b = false -> zq g.ro w ds vs)
 | [], vs, ds, p, b, hs, _, hx => by
  simp [zmg] at hs; obtain ⟨rfl, _, rfl⟩ := hs;simp only [zj] at hx;exact ⟨by simpa [zq] using hx, fun _ => by simpa [zq] using hx⟩
 | a :: as, vs, ds, p, b, hs, hp, hx => by
  simp only [zmg] at hs;cases h1 : zho obj a with
  | none => rw [h1] at hs; cases hs
  | some x =>
   cases h2 : zmg obj as with
   | none => rw [h1, h2] at hs; cases hs
   | some y =>
    rw [h1, h2] at hs;simp only [Option.some.injEq, Prod.mk.injEq] at hs;obtain ⟨rfl, rfl, rfl⟩ := hs;obtain ⟨xd, xp, xb⟩ := x;obtain ⟨yd, yp, yb⟩ := y;simp only [zj] at hx;obtain ⟨v, vs', rfl, hv, hvs⟩ := hx;obtain ⟨a1, a2⟩ := zno h a v xd xp xb h1 hp.1 hv;obtain ⟨b1, b2⟩ := zin h as vs' yd yp yb h2 hp.2 hvs;simp only [zq, Bool.or_eq_false_iff];exact ⟨⟨v, vs', rfl, a1, b1⟩, fun hb => ⟨v, vs', rfl, a2 hb.1, b2 hb.2⟩⟩
end

def D.freess : List (List D) -> Bool
 | [] => true
 | r :: rs => D.frees r && D.freess rs

def Res.free : Res -> Bool
 | .p d => d.free
 | .o _ _ rows => D.freess rows
 | .x _ => false
 | .skip => false
 | .ub _ => false
 | .f _ => true

theorem zto : ∀ {rows : List (List D)}, D.freess rows = true -> ∀ (i : Nat) (r : List D), rows[i]? = some r -> D.frees r = true
 | [], _, i, r, hi => by simp at hi
 | r0 :: rs, h, i, r, hi => by
  simp only [D.freess, Bool.and_eq_true] at h;cases i with
  | zero => simp at hi; subst hi; exact h.1
  | succ i => simp at hi; exact zto h.2 i r hi

theorem frees_get : ∀ {ds : List D}, D.frees ds = true -> ∀ (i : Nat) (d : D), ds[i]? = some d -> d.free = true
 | [], _, i, r, hi => by simp at hi
 | r0 :: rs, h, i, r, hi => by
  simp only [D.frees, Bool.and_eq_true] at h;cases i with
  | zero => simp at hi; subst hi; exact h.1
  | succ i => simp at hi; exact frees_get h.2 i r hi

mutual
def zhr (hp : Nat -> Option Ob) : AV -> Option (D × Prop)
 | .d x => if x.free then some (x, True) else none
 | .nl => some (.sl [], True)
 | .hs id off len => (hp id).bind fun o => (zdc o.rows).bind fun rs => if D.freess rs then some (.sl ((rs.drop off).take len), off + len <= rs.length) else none
 | .agg l => (zpm hp l).map fun x => (.agg x.1, x.2)
 | .tup l => (zpm hp l).map fun x => (.tup x.1, x.2)
 | _ => none
def zpm (hp : Nat -> Option Ob) : List AV -> Option (List D × Prop)
 | [] => some ([], True)
 | a :: as => match zhr hp a, zpm hp as with | some x, some y => some (x.1 :: y.1, x.2 /\ y.2) | _, _ => none
end

mutual
theorem zpn {g : G} {obj : Nat -> Option Ob} {w : World} (h : zam g obj w) : ∀ (x : AV) (v : Value) (d : D) (p : Prop), zhr obj x = some (d, p) -> p -> zh g w x v -> zr (fun b => g.owns b) w d v
 | .any, _, _, _, hs, _, _ => by simp [zhr] at hs
 | .opt _ _, _, _, _, hs, _, _ => by simp [zhr] at hs
 | .ub _ _, _, _, _, hs, _, _ => by simp [zhr] at hs
 | .lit _, _, _, _, hs, _, _ => by simp [zhr] at hs
 | .pin _ _, _, _, _, hs, _, _ => by simp [zhr] at hs
 | .ptr _ _ _, _, _, _, hs, _, _ => by simp [zhr] at hs
 | .clo _ _, _, _, _, hs, _, _ => by simp [zhr] at hs
 | .hm _, _, _, _, hs, _, _ => by simp [zhr] at hs
 | .nl, v, d, p, hs, _, hx => by
  simp [zhr] at hs; obtain ⟨rfl, _⟩ := hs;simp only [zh] at hx; subst hx;exact zff
 | .d y, v, d, p, hs, _, hx => by
  simp only [zhr] at hs;split at hs
  ·rename_i hf;simp only [Option.some.injEq, Prod.mk.injEq] at hs;obtain ⟨rfl, _⟩ := hs;simp only [zh] at hx;exact zr.anywhere y v hf hx
  ·cases hs
 | .hs id off len, v, d, p, hs, hp, hx => by
  simp only [zhr] at hs;cases ho : obj id with
  | none => rw [ho] at hs; cases hs
  | some o =>
   rw [ho] at hs;simp only [Option.bind_some] at hs;cases hrs : zdc o.rows with
   | none => rw [hrs] at hs; cases hs
   | some rs =>
    rw [hrs] at hs;simp only [Option.bind_some] at hs;split at hs
    ·rename_i hfree;simp only [Option.some.injEq, Prod.mk.injEq] at hs;obtain ⟨rfl, rfl⟩ := hs;obtain ⟨L, hL, hok⟩ := h.own id o ho;simp only [zh] at hx;have hrl := zgz hrs;rcases hx.2 L hL with ⟨hv, rfl, rfl, a0, rfl⟩ | ⟨hv, hle, rfl⟩
     ·simpa using zff
     ·have hlen : ((rs.drop off).take len).length = len := by simp; omega
      obtain ⟨_, _, _, hcapm, _⟩ := hok.cells hv;simp only [zr];refine ⟨some ⟨L.blk, off * L.m, none⟩, L.cap - off, by rw [hlen], by rw [hlen]; omega, by omega, ?_⟩;refine .inr ⟨L.blk, off * L.m, L.m, rfl, ⟨id, L, hL, hv.1, rfl⟩, zau.of_get fun i r hi => ?_⟩;rw [List.getElem?_take] at hi;split at hi
      ·rw [List.getElem?_drop] at hi;obtain ⟨row, hrow, ha⟩ := zgs hrs _ r hi;obtain ⟨us, hul, hur, huc⟩ := hok.row hv hrow;refine ⟨us, hul, zq.anywhere r us (zto hfree _ r hi) (zj.allD ha hur), ?_⟩
       rwa [Nat.add_mul] at huc
      ·cases hi
    ·cases hs
 | .agg l, v, d, p, hs, hp, hx => by
  simp only [zhr, Option.map_eq_some_iff] at hs;obtain ⟨⟨ds, q⟩, hl, he⟩ := hs;simp only [Prod.mk.injEq] at he;obtain ⟨rfl, rfl⟩ := he;simp only [zh] at hx;obtain ⟨vs, hv, ho, hr⟩ := hx;simp only [zr];exact ⟨vs, hv, ho, znn h l vs ds _ hl hp hr⟩
 | .tup l, v, d, p, hs, hp, hx => by
  simp only [zhr, Option.map_eq_some_iff] at hs;obtain ⟨⟨ds, q⟩, hl, he⟩ := hs;simp only [Prod.mk.injEq] at he;obtain ⟨rfl, rfl⟩ := he;simp only [zh] at hx;obtain ⟨vs, hv, hr⟩ := hx;simp only [zr];exact ⟨vs, hv, znn h l vs ds _ hl hp hr⟩
theorem znn {g : G} {obj : Nat -> Option Ob} {w : World} (h : zam g obj w) : ∀ (xs : List AV) (vs : List Value) (ds : List D) (p : Prop), zpm obj xs = some (ds, p) -> p -> zj g w xs vs -> zq (fun b => g.owns b) w ds vs
 | [], vs, ds, p, hs, _, hx => by
  simp [zpm] at hs; obtain ⟨rfl, _⟩ := hs;simpa [zj, zq] using hx
 | a :: as, vs, ds, p, hs, hp, hx => by
  simp only [zpm] at hs;cases h1 : zhr obj a with
  | none => rw [h1] at hs; cases hs
  | some x =>
   cases h2 : zpm obj as with
   | none => rw [h1, h2] at hs; cases hs
   | some y =>
    rw [h1, h2] at hs;simp only [Option.some.injEq, Prod.mk.injEq] at hs;obtain ⟨rfl, rfl⟩ := hs;simp only [zj] at hx;obtain ⟨v, vs', rfl, k1, k2⟩ := hx;simp only [zq];exact ⟨v, vs', rfl, zpn h a v x.1 x.2 h1 hp.1 k1, znn h as vs' y.1 y.2 h2 hp.2 k2⟩
end

theorem zam.adopt {g : G} {obj : Nat -> Option Ob} {w : World} (h : zam g obj w) {id B cap : Nat} (hid : ¬ g.used id) (o : Ob) (cur : Array Value) (hro : ¬ g.ro B) (hown : ¬ g.owns B)
  (hnew : zfl (w.heap[B]?) o.elem cur) (hm : 0 < o.m) (hcs : cur.size = cap * o.m) (hlen : o.rows.length <= cap) (hcap : cap <= maxLen)
  (hrep : ∀ i row, o.rows[i]? = some row -> row.length = o.m /\ ∀ (j : Nat) (av : AV), row[j]? = some av -> ∃ v : Value, cur[i * o.m + j]? = some v /\ v.oneCell' = true /\ zh g w av v) :
  ∃ g', g'.loc id = some ⟨B, o.m, cap, false, false⟩ /\ g'.used = (fun x => g.used x \/ x = id) /\ g'.ro = g.ro /\ zam g' (zbh obj id (some o)) w /\ (∀ b, g'.owns b -> g.owns b \/ b = B) /\ zbs g w g' w := by
 let g' : G := ⟨g.ro, fun x => if x = id then some ⟨B, o.m, cap, false, false⟩ else g.loc x, fun x => g.used x \/ x = id⟩
 have hloc : ∀ x L, g'.loc x = some L -> (x = id /\ L = ⟨B, o.m, cap, false, false⟩) \/ (x ≠ id /\ g.loc x = some L) := by
  intro x L hx;simp only [g'] at hx;split at hx
  ·rename_i e; exact .inl ⟨e, by simpa using hx.symm⟩
  ·rename_i e; exact .inr ⟨e, hx⟩
 have hlater : zbs g w g' w := ⟨fun b hb => ⟨hb, rfl⟩, fun x hx => .inl hx, fun x hx => .inl (by simp only [g']; rw [if_neg (fun e : x = id => hid (e ▸ hx))])⟩
 refine ⟨g', by simp [g'], rfl, rfl, ⟨?_, ?_, ?_, ?_, h.ro⟩, ?_, hlater⟩
 ·intro x o' hx;simp only [zbh] at hx;split at hx
  ·rename_i e;cases hx;subst e;refine ⟨⟨B, o.m, cap, false, false⟩, by simp [g'], ⟨rfl, hm, fun _ => hlen, by simp, fun _ => ⟨cur, hnew, hcs, hcap, fun i row hi => ⟨(hrep i row hi).1, fun j av hj => ?_⟩⟩, by simp⟩⟩;obtain ⟨v, hv, ho, hr⟩ := (hrep i row hi).2 j av hj;exact ⟨v, hv, ho, zh.later hlater av v hr⟩
  ·rename_i e;obtain ⟨L, hL, hok⟩ := h.own x o' hx;exact ⟨L, by simp [g', e, hL], hok.later hlater fun _ => rfl⟩
 ·intro x hx;simp only [zbh] at hx;split at hx
  ·cases hx
  ·rename_i e; simp [g', e, h.gone x hx]
 ·intro x L hx;rcases hloc x L hx with ⟨rfl, rfl⟩ | ⟨e, hL⟩
  ·exact ⟨.inr rfl, fun _ => ⟨hnew.lt, hro⟩⟩
  ·exact ⟨.inl (h.live x L hL).1, (h.live x L hL).2⟩
 ·intro x y L L' hx hy hv hv' hb;rcases hloc x L hx with ⟨rfl, rfl⟩ | ⟨e, hL⟩ <;> rcases hloc y L' hy with ⟨rfl, rfl⟩ | ⟨e', hL'⟩
  ·rfl
  ·exact absurd ⟨y, L', hL', hv', hb.symm⟩ hown
  ·exact absurd ⟨x, L, hL, hv, hb⟩ hown
  ·exact h.inj x y L L' hL hL' hv hv' hb
 ·rintro b ⟨x, L, hx, hv, rfl⟩;rcases hloc x L hx with ⟨rfl, rfl⟩ | ⟨e, hL⟩
  ·exact .inr rfl
  ·exact .inl ⟨x, L, hL, hv, rfl⟩

def zjb (nid : Nat) : Res -> AV × List (Nat × Option Ob)
 | .p d => (.d d, [])
 | .o e m rows => (.hs nid 0 rows.length, [(nid, some ⟨e, m, dr rows⟩)])
 | .x _ => (.any, [])
 | .skip => (.any, [])
 | .ub _ => (.any, [])
 | .f d => (.d d, [])

theorem dr_get {rows : List (List D)} {i : Nat} {row : List AV} (h : (dr rows)[i]? = some row) : ∃ r, rows[i]? = some r /\ row = r.map AV.d := by
 simp only [dr, List.getElem?_map, Option.map_eq_some_iff] at h;obtain ⟨r, h1, h2⟩ := h;exact ⟨r, h1, h2.symm⟩

theorem res_sound {g : G} {obj : Nat -> Option Ob} {w w' : World} (h : zam g obj w) {nid : Nat} (hid : ¬ g.used nid) {r : Res} {v : Value} (hb : Below w.heap.size w w') {ro : Nat -> Prop} (hro : (∀ b, ro b -> g.ro b) \/ r.free = true)
  (hr : zdn ro w.heap.size w' r v) {p : Prop} : zaj g obj w nid { val := (zjb nid r).1, wr := (zjb nid r).2, ob := p } v w' := by
 cases r with
 | x c => simp [zdn] at hr
 | skip => simp [zdn] at hr
 | ub b => simp [zdn] at hr
 | f d =>
  simp only [zdn] at hr;obtain ⟨h1, h2, h3⟩ := h.wide hb (fun b => w.heap.size <= b /\ b < w'.heap.size) (fun b hb => hb);refine ⟨_, h1, h2, h3, fun _ hk => .inl hk, ?_⟩;simp only [zjb, zh];exact zr.mono (fun b hb => ⟨.inr hb, rfl⟩) d v hr
 | p d =>
  simp only [zdn] at hr;obtain ⟨h1, h2, h3⟩ := h.wide hb (fun b => w.heap.size <= b /\ b < w'.heap.size) (fun b hb => hb);refine ⟨_, h1, h2, h3, fun _ hk => .inl hk, ?_⟩;simp only [zjb, zh];rcases hro with hro | hf
  ·exact zr.mono (fun b hb => ⟨hb.imp (hro b) fun x => x, rfl⟩) d v hr
  ·exact zr.anywhere d v hf hr
 | o e m rows =>
  simp only [zdn, OwnRes] at hr;obtain ⟨hm, hr⟩ := hr;rcases hr with ⟨rfl, a0, rfl⟩ | ⟨B, cap, cur, hB, hv, hcell, hlen, hcap, hcs, hrep⟩
  ·obtain ⟨h1, h2, h3⟩ := h.idle hb;obtain ⟨g', a1, a2, a3, a4, a5, a6⟩ := h1.newVirt hid e m hm;refine ⟨g', by simpa [zjb, zcu, dr] using a4, h2.trans a5, ⟨fun b hb => ⟨(a6.fut b hb).1, (h3.fut b hb).2⟩, a6.used, a6.loc⟩, fun k hk => by rw [a2] at hk; exact hk, ?_⟩;simp only [zjb, zh];refine ⟨⟨by rw [a2]; exact .inr rfl, rfl⟩, fun L hL => ?_⟩;rw [a1] at hL; cases hL;exact .inl ⟨by trivial, by trivial, by simp, a0, rfl⟩
  ·obtain ⟨h1, h2, h3⟩ := h.wide hb (fun b => w.heap.size <= b /\ b < w'.heap.size /\ b ≠ B) (fun b hb => ⟨hb.1, hb.2.1⟩);have hnro : ¬ (g.ro B \/ (w.heap.size <= B /\ B < w'.heap.size /\ B ≠ B)) := by
    rintro (hg | hg)
    ·have := h.ro B hg; omega
    ·exact hg.2.2 rfl
   have hnown : ¬ G.owns ⟨fun b => g.ro b \/ (w.heap.size <= b /\ b < w'.heap.size /\ b ≠ B), g.loc, g.used⟩ B := by
    rintro ⟨x, L, hx, hvx, rfl⟩;have := ((h.live x L hx).2 hvx).1;omega
   obtain ⟨g', a1, a2, a3, a4, a5, a6⟩ := h1.adopt hid ⟨e, m, dr rows⟩ cur hnro hnown hcell hm hcs (by simpa [dr] using hlen) hcap (fun i row hi => by
    obtain ⟨r, hr', rfl⟩ := dr_get hi;obtain ⟨c1, c2⟩ := hrep i r hr';refine ⟨by simpa using c1, fun j av hj => ?_⟩;simp only [List.getElem?_map, Option.map_eq_some_iff] at hj;obtain ⟨d, hd, rfl⟩ := hj;obtain ⟨u, hu, ho, hrd⟩ := c2 j d hd;refine ⟨u, hu, ho, ?_⟩;simp only [zh];rcases hro with hro | hf
    ·exact zr.mono (fun b hb => ⟨hb.imp (hro b) fun x => x, rfl⟩) d u hrd
    ·exact zr.anywhere d u (frees_get (zto hf i r hr') j d hd) hrd)
   refine ⟨g', by simpa [zjb, zcu] using a4, ⟨h2.os, h2.tape, h2.output, h2.size, h2.block, fun b hb => ?_, fun b hb => by rw [a3]; exact .inl hb, fun b hb => by rw [a3] at hb; exact h2.ro' b hb⟩,
    ⟨fun b hb => ⟨by rw [a3]; exact .inl hb, (h3.fut b hb).2⟩, a6.used, a6.loc⟩, fun k hk => by rw [a2] at hk; exact hk, ?_⟩
   ·rcases a5 b hb with hb | rfl
    ·exact h2.own b hb
    ·exact .inl hB
   ·rw [hv];exact ztd (by rw [a2]; exact .inr rfl) a1 ⟨rfl, rfl⟩ hlen

def ziv (P : Program) (orc : Option Res) (hp : Nat -> Option Ob) (nid : Nat) : List AV -> Option Eff
 | fv :: args =>
  match zho hp fv, zmg hp args, orc with
  | some (.fn (.func f) caps, p0, b0), some (ds, p, b), some r =>
   some { val := (zjb nid r).1, wr := (zjb nid r).2, ob := (p0 /\ p /\ ((b0 || b) = true -> r.free = true)) /\ PC P f (ds ++ caps) r }
  | _, _, _ => none
 | [] => none

theorem callP_sound {P : Program} {o : Oper} {a : Act} {g : G} {obj : Nat -> Option Ob} {w : World} (h : zam g obj w) {nid : Nat} (hid : ¬ g.used nid) {c : Call} {f : Operand} (ho : o.op = .call c) (hc : c.callee = .value f)
  {orc : Option Res} {args : List AV} {e : Eff} (hargs : zj g w args (a.eval f :: c.args.toList.map a.eval)) (he : ziv P orc obj nid args = some e) (hob : e.ob) : zfc P o a w (zaj g obj w nid e) := by
 cases args with
 | nil => simp [ziv] at he
 | cons fv args =>
  simp only [zj] at hargs;obtain ⟨v, vs, heq, hfv, hargs⟩ := hargs;simp only [List.cons.injEq] at heq;obtain ⟨rfl, rfl⟩ := heq;simp only [ziv] at he;split at he
  ·rename_i k caps p0 b0 ds p b r h1 h2;cases he;obtain ⟨⟨hp0, hp, hfree⟩, henter, hcontract⟩ := hob;obtain ⟨c1, c2⟩ := zno h fv _ _ _ _ h1 hp0 hfv;obtain ⟨d1, d2⟩ := zin h args _ _ _ _ h2 hp hargs;have hf : ∃ cs : List Value, a.eval f = .func (.func k) #[] cs.toArray /\ zq (fun b => g.ro b \/ g.owns b) w caps cs /\ (b0 = false -> zq g.ro w caps cs) := by
    simp only [zr] at c1;obtain ⟨cs, hcs, hrc⟩ := c1;refine ⟨cs, hcs, hrc, fun hb0 => ?_⟩;have := c2 hb0;simp only [zr] at this;obtain ⟨cs', hcs', hrc'⟩ := this;rw [hcs] at hcs';simp only [Value.func.injEq, true_and] at hcs';have : cs = cs' := by simpa using hcs'
    rw [this]; exact hrc'
   obtain ⟨cs, hcs, hrc, hrc'⟩ := hf;obtain ⟨fn, hfn, hname, hbody⟩ := henter;have hrun : (execOp a.eval o).run P w = .ok (.enter k ((c.args.toList.map a.eval) ++ cs).toArray) w := by
    unfold execOp;simp only [ho, resolve, hc, Deferred.ofValue, hcs, Sem.run_bind, Sem.run_pure, Result.andThen_ok, invoke, callFunc, run_program, hfn, hname, hbody, Bool.false_eq_true, if_false]
    congr 2
    simp
   by_cases hbb : (b0 || b) = true
   ·refine zik hrun ((hcontract (fun b => g.ro b \/ g.owns b) w _ (fun b hb => hb.elim (h.ro b) fun ⟨x, L, hx, hv, hb⟩ => hb ▸ ((h.live x L hx).2 hv).1) (d1.append hrc)).mono fun e w' ⟨v, he, hb, hr⟩ => ⟨v, he, ?_⟩);exact res_sound h hid hb (.inr (hfree hbb)) hr
   ·simp only [Bool.or_eq_true, not_or, Bool.not_eq_true] at hbb;refine zik hrun ((hcontract g.ro w _ h.ro ((d2 hbb.2).append (hrc' hbb.1))).mono fun e w' ⟨v, he, hb, hr⟩ => ⟨v, he, ?_⟩);exact res_sound h hid hb (.inl fun _ hb => hb) hr
  ·cases he

def zjt : AV -> Option (FuncId × List AV)
 | .d (.fn (.func f) caps) => some (f, caps.map .d)
 | .clo (.func f) caps => if zpv caps then some (f, caps) else none
 | _ => none
def calleeB : AV -> Option (FuncId × List AV × List AV)
 | .clo (.func f) (.tup l :: r) => some (f, l, r)
 | _ => none

def zvy (P : Program) (orc : Option Res) (hp : Nat -> Option Ob) (nid : Nat) (l : List AV) : Option Eff :=
 match orc, l with
 | some (.x c), fv :: args => match zjt fv with
  | some q => some (effX P q.1 c nid hp (args ++ q.2))
  | none => (calleeB fv).map fun q => effX P q.1 c nid hp ((q.2.1 ++ args) ++ q.2.2)
 | r, l => ziv P r hp nid l

theorem call_sound {P : Program} {o : Oper} {a : Act} {g : G} {obj : Nat -> Option Ob} {w : World} (h : zam g obj w) {nid : Nat} (hid : ¬ g.used nid) {c : Call} {f : Operand} (ho : o.op = .call c) (hc : c.callee = .value f)
  {orc : Option Res} {args : List AV} {e : Eff} (hargs : zj g w args (a.eval f :: c.args.toList.map a.eval)) (he : zvy P orc obj nid args = some e) (hob : e.ob) : zfc P o a w (zaj g obj w nid e) := by
 unfold zvy at he;split at he
 ·rename_i xc fv as;simp only [zj] at hargs;obtain ⟨v, vs, heq, hfv, hargs⟩ := hargs;simp only [List.cons.injEq] at heq;obtain ⟨rfl, rfl⟩ := heq;split at he
  ·rename_i q hcal;obtain ⟨k, caps⟩ := q;cases he;have hf : ∃ cs : List Value, a.eval f = .func (.func k) #[] cs.toArray /\ zj g w caps cs := by
    unfold zjt at hcal;split at hcal
    ·cases hcal;simp only [zh, zr] at hfv;obtain ⟨cs, h1, h2⟩ := hfv;exact ⟨cs, h1, zj.of_ds h2⟩
    ·split at hcal
     ·rename_i hok;cases hcal;exact zrv hok hfv
     ·cases hcal
    ·cases hcal
   obtain ⟨cs, hcs, hrc⟩ := hf;obtain ⟨fn, hfn, hname, hbody⟩ := hob.2.1;have hrun : (execOp a.eval o).run P w = .ok (.enter k ((c.args.toList.map a.eval) ++ cs).toArray) w := by
    unfold execOp;simp only [ho, resolve, hc, Deferred.ofValue, hcs, Sem.run_bind, Sem.run_pure, Result.andThen_ok, invoke, callFunc, run_program, hfn, hname, hbody, Bool.false_eq_true, if_false]
    congr 2
    simp
   exact zik hrun (x_sound h hid (hargs.append hrc) hob)
  ·simp only [Option.map_eq_some_iff] at he;obtain ⟨⟨k, bs, caps⟩, hcal, rfl⟩ := he;have hf : ∃ fs cs : List Value, a.eval f = .func (.func k) fs.toArray cs.toArray /\ zj g w bs fs /\ zj g w caps cs := by
    unfold calleeB at hcal;split at hcal
    ·cases hcal;exact clo_bound hfv
    ·cases hcal
   obtain ⟨fs, cs, hcs, hrb, hrc⟩ := hf;obtain ⟨fn, hfn, hname, hbody⟩ := hob.2.1;have hrun : (execOp a.eval o).run P w = .ok (.enter k ((fs ++ c.args.toList.map a.eval) ++ cs).toArray) w := by
    unfold execOp;simp only [ho, resolve, hc, Deferred.ofValue, hcs, Sem.run_bind, Sem.run_pure, Result.andThen_ok, invoke, callFunc, run_program, hfn, hname, hbody, Bool.false_eq_true, if_false]
    congr 2
    simp
   exact zik hrun (x_sound h hid ((hrb.append hargs).append hrc) hob)
 ·exact callP_sound h hid ho hc hargs he hob


def zvv : List AV -> Option Eff
 | [x] => some { val := x }
 | _ => none

def pickA (c : Bool) : AV -> AV -> AV
 | .d (.bool x), .d (.bool y) => .d (.bool (bif c then x else y))
 | x, y => bif c then x else y

def zct : AV -> AV
 | .opt _ x => x
 | x => x

def optOb (c : Bool) : AV -> Prop
 | .opt g _ => c = true -> g = true
 | _ => True

def effPick : List AV -> Option Eff
 | [.d (.bool c), x, y] => some { val := pickA c (zct x) (zct y), ob := optOb c x /\ optOb (!c) y }
 | _ => none

def zwa (ty : TypeId -> Option TI) (t : TypeId) (nid : Nat) : List AV -> Option Eff
 | [] => (ty t).bind fun ti => if ti.size = 0 then none else some { val := .ptr nid 0 0, wr := [(nid, some ⟨t, ti.zero.length, [ti.zero]⟩)] }
 | _ => none

def effBox (t : TypeId) (nid : Nat) : List AV -> Option Eff
 | [x] => (zcz x).bind fun l => if l.length = 0 then none else some { val := .ptr nid 0 0, wr := [(nid, some ⟨t, l.length, [l]⟩)] }
 | _ => none

def zvz (ty : TypeId -> Option TI) (t : TypeId) (keys : List Nat) (args : List AV) : Option Eff :=
 (ty t).bind fun ti =>
  match ti.kind with
  | .struct fs => (zvs (fun i => (fs[i]?).map fun f => (f.1, f.2.1)) ti.zero (keys.zip args)).map fun l => { val := mkAgg l }
  | .arr _ e => (ty e).bind fun te => (zvs (fun i => some (i * te.size, te.size)) ti.zero (keys.zip args)).map fun l => { val := mkAgg l }
  | _ => none

def zim (ty : TypeId -> Option TI) (t : TypeId) (len : Nat) (keys : List Nat) (nid : Nat) (args : List AV) : Option Eff :=
 (ty t).bind fun ti =>
  match ti.kind with
  | .slice e => (ty e).bind fun te => if te.size = 0 \/ len * te.size > 2 ^ 24 then none else
    (zvs (fun i => some (i * te.size, te.size)) (rep len te.zero) (keys.zip args)).map fun l => { val := .hs nid 0 len, wr := [(nid, some ⟨e, te.size, zoy len te.size l⟩)] }
  | _ => none

def zlo (ty : TypeId -> Option TI) (t : TypeId) (hp : Nat -> Option Ob) : List AV -> Option Eff
 | [.ptr id i j] => (ty t).bind fun ti => (hp id).bind fun o => (o.rows[i]?).bind fun row => (zug ti (row.drop j)).map fun x => { val := x }
 | [.d (.rp cs)] => (ty t).bind fun ti => (zug ti (cs.map .d)).map fun x => { val := x }
 | _ => none

def zkt (ty : TypeId -> Option TI) (t : TypeId) (hp : Nat -> Option Ob) : List AV -> Option Eff
 | [.ptr id i j, x] => (ty t).bind fun ti => (hp id).bind fun o => (o.rows[i]?).bind fun row => (zcz x).bind fun l =>
   if l.length = ti.size /\ j + l.length <= row.length then some { val := .any, wr := [(id, some ⟨o.elem, o.m, o.rows.set i (putCells row j l)⟩)] } else none
 | _ => none

def zfj (hp : Nat -> Option Ob) : List AV -> Option Eff
 | [.d (.rp cs)] => some { val := .d (.rp cs) }
 | [.ptr id i j] => (hp id).map fun _ => { val := .ptr id i j }
 | [.d (.fn (.func f) caps)] => some { val := .d (.fn (.func f) caps) }
 | [.clo (.func f) caps] => some { val := .clo (.func f) caps }
 | _ => none

def isNil (obj : Nat -> Option Ob) : AV -> Option AV
 | .nl => some (.d (.bool true))
 | .d (.sl rows) => some (.ub rows.isEmpty true)
 | .hs id _ len => (obj id).map fun _ => .ub (len == 0) true
 | _ => none

def notA : AV -> AV
 | .d (.bool b) => .d (.bool (!b))
 | .ub p q => .ub q p
 | x => x

def effBin (ty : TypeId -> Option TI) (op : BinOp) (t : TypeId) (obj : Nat -> Option Ob) : List AV -> Option Eff
 | [x, .nl] => (ty t).bind fun ti => match ti.kind with
  | .slice _ => (isNil obj x).bind fun c => match op with
   | .eql => some { val := c }
   | .neq => some { val := notA c }
   | _ => none
  | _ => none
 | [.d (.int k a), .d (.int k' b)] =>
  if k = k' then
   match op with
   | .add => some { val := .d (.int k (k.wrap (a + b))) }
   | .sub => some { val := .d (.int k (k.wrap (a - b))) }
   | .mul => some { val := .d (.int k (k.wrap (a * b))) }
   | .quo => some { val := .d (.int k (k.wrap (a.tdiv b))), ob := b ≠ 0 }
   | .rem => some { val := .d (.int k (a.tmod b)), ob := b ≠ 0 }
   | .shr => some { val := .d (.int k (a.fdiv (2 ^ (min b.toNat k.bits)))), ob := ¬ b < 0 }
   | .eql => some { val := .d (.bool (a == b)) }
   | .neq => some { val := .d (.bool (a != b)) }
   | .lss => some { val := .d (.bool (decide (a < b))) }
   | .leq => some { val := .d (.bool (decide (a <= b))) }
   | .gtr => some { val := .d (.bool (decide (a > b))) }
   | .geq => some { val := .d (.bool (decide (a ≥ b))) }
   | _ => none
  else none
 | [.d (.bool a), .d (.bool b)] =>
  (ty t).bind fun ti => match ti.kind with
   | .bool => match op with
    | .eql => some { val := .d (.bool (a == b)) }
    | .neq => some { val := .d (.bool (a != b)) }
    | _ => none
   | _ => none
 | [.d (.agg xs), .d (.agg ys)] =>
  (ty t).bind fun ti => if ti.eqs ≠ 0 /\ xs.length = ti.size then
   match op with
   | .eql => (eqD ti.eqs xs ys).map fun c => { val := .d (.bool c) }
   | .neq => (eqD ti.eqs xs ys).map fun c => { val := .d (.bool (!c)) }
   | _ => none
  else none
 | _ => none

def effUn (op : UnOp) : List AV -> Option Eff
 | [.d (.bool b)] => match op with | .not => some { val := .d (.bool (!b)) } | _ => none
 | [.d (.int k n)] => match op with | .neg => some { val := .d (.int k (k.wrap (0 - n))) } | _ => none
 | _ => none

def zok (ty : TypeId -> Option TI) (src dst : TypeId) : List AV -> Option Eff
 | [.d (.int _ n)] => (ty src).bind fun _ => (ty dst).bind fun ti => match ti.kind with
  | .int k => some { val := .d (.int k (k.wrap n)) }
  | _ => none
 | _ => none

def aggList : AV -> Option (List AV)
 | .d (.agg cs) => some (cs.map AV.d)
 | .agg l => some l
 | _ => none

def zvx (ty : TypeId -> Option TI) (t : TypeId) (f : Nat) : List AV -> Option Eff
 | [x] => (ty t).bind fun ti => match ti.kind with
  | .struct fs => (fs[f]?).bind fun fi => (aggList x).bind fun l =>
    if fi.2.2 then (if fi.1 + fi.2.1 <= l.length then some { val := mkAgg ((l.drop fi.1).take fi.2.1) } else none) else (l[fi.1]?).map fun y => { val := y }
  | _ => none
 | _ => none

def zen (ty : TypeId -> Option TI) (t : TypeId) (f : Nat) (hp : Nat -> Option Ob) : List AV -> Option Eff
 | [.ptr id i j] => (ty t).bind fun ti => match ti.kind with
  | .struct fs => (hp id).bind fun _ => (fs[f]?).map fun fi => { val := .ptr id i (j + fi.1) }
  | _ => none
 | [.d (.rp cs)] => (ty t).bind fun ti => match ti.kind with
  | .struct fs => (fs[f]?).map fun fi => { val := .d (.rp (cs.drop fi.1)) }
  | _ => none
 | _ => none

def zem (ty : TypeId -> Option TI) (t : TypeId) (hp : Nat -> Option Ob) : List AV -> Option Eff
 | [.hs id off len, .d (.int _ i)] => (ty t).bind fun ti => match ti.kind with
  | .slice e => (ty e).bind fun te => (hp id).bind fun o => if o.m = te.size then some { val := .ptr id (off + i.toNat) 0, ob := 0 <= i /\ i < (len : Int) } else none
  | _ => none
 | [.d (.sl rows), .d (.int _ i)] => (ty t).bind fun ti => match ti.kind with
  | .slice e => (ty e).bind fun te => (rows[i.toNat]?).map fun r => { val := .d (.rp r), ob := 0 <= i /\ r.length = te.size }
  | _ => none
 | [.ptr id i0 j, .d (.int _ i)] => (ty t).bind fun ti => match ti.kind with
  | .arr n e => (ty e).bind fun te => if n <= 1 then none else (hp id).map fun _ => { val := .ptr id i0 (j + i.toNat * te.size), ob := 0 <= i /\ i < (n : Int) }
  | _ => none
 | [.d (.rp cs), .d (.int _ i)] => (ty t).bind fun ti => match ti.kind with
  | .arr n e => (ty e).bind fun te => if n <= 1 then none else some { val := .d (.rp (cs.drop (i.toNat * te.size))), ob := 0 <= i /\ i < (n : Int) }
  | _ => none
 | _ => none

def zvw (ty : TypeId -> Option TI) (t : TypeId) : List AV -> Option Eff
 | [.d (.agg cs), .d (.int _ i)] => (ty t).bind fun ti => match ti.kind with
  | .arr n e => (ty e).bind fun te =>
    if te.isAgg then some { val := .d (.agg ((cs.drop (i.toNat * te.size)).take te.size)), ob := 0 <= i /\ i < (n : Int) /\ i.toNat * te.size + te.size <= cs.length }
    else (cs[i.toNat * te.size]?).map fun x => { val := .d x, ob := 0 <= i /\ i < (n : Int) }
  | _ => none
 | _ => none

def zoj (ix : Nat) : List AV -> Option Eff
 | [.d (.tup cs)] => (cs[ix]?).map fun x => { val := .d x }
 | [.tup cs] => (cs[ix]?).map fun x => { val := x }
 | _ => none

def zln (fn : Fn) (first : Nat) (args : List AV) : Option Eff := if first = 0 then (if zpv args then some { val := .clo fn args } else none) else if first <= args.length then some { val := .clo fn (.tup (args.take first) :: args.drop first) } else none

def zjq (ty : TypeId -> Option TI) (t : TypeId) (nid : Nat) : List AV -> Option Eff
 | [.d (.int _ l), .d (.int _ c)] => (ty t).bind fun ti => match ti.kind with
  | .slice e => (ty e).bind fun te => if te.size = 0 then none else
   some { val := .hs nid 0 l.toNat, wr := [(nid, some ⟨e, te.size, List.replicate l.toNat te.zero⟩)], ob := 0 <= l /\ l <= c /\ (te.bytes : Int) * c <= 281474976710656 /\ c <= 9223372036854775807 }
  | _ => none
 | _ => none

def zhw : Bool -> Bool -> List AV -> Option (Option Int × Option Int)
 | false, false, [] => some (none, none)
 | true, false, [.d (.int _ l)] => some (some l, none)
 | false, true, [.d (.int _ h)] => some (none, some h)
 | true, true, [.d (.int _ l), .d (.int _ h)] => some (some l, some h)
 | _, _, _ => none

def zop : Nat -> Nat -> List D -> List (List D)
 | 0, _, _ => []
 | n + 1, m, l => l.take m :: zop n m (l.drop m)

def ziu (ty : TypeId -> Option TI) (n : Nat) (e : TypeId) (hp : Nat -> Option Ob) (b : Option Int × Option Int) : AV -> Option Eff
 | .ptr id i j => (ty e).bind fun te => (hp id).bind fun o => (o.rows[i]?).bind fun row => (allD (row.drop j)).bind fun ds =>
   if b.1.isNone /\ b.2.isNone /\ te.size ≠ 0 /\ n ≠ 0 /\ n <= 65536 /\ n * te.size <= ds.length then some { val := .d (.sl (zop n te.size ds)), wr := [(id, none)] } else none
 | _ => none

def zna (ty : TypeId -> Option TI) (t : TypeId) (hp : Nat -> Option Ob) (lo hi : Bool) : List AV -> Option Eff
 | x :: rest =>
  (zhw lo hi rest).bind fun b => (ty t).bind fun ti => match ti.kind with
   | .slice e => (ty e).bind fun te => match x with
    | .d (.sl rows) =>
     some { val := .d (.sl ((rows.take ((b.2.getD rows.length).toNat)).drop ((b.1.getD 0).toNat))), ob := 0 <= b.1.getD 0 /\ b.1.getD 0 <= b.2.getD rows.length /\ b.2.getD rows.length <= rows.length /\ ∀ r ∈ rows, r.length = te.size }
    | .hs id off len => (hp id).bind fun o => if o.m = te.size then
      some { val := if b.1.getD 0 = 0 \/ b.1.getD 0 < len then .hs id (off + (b.1.getD 0).toNat) ((b.2.getD len).toNat - (b.1.getD 0).toNat) else .d (.sl []), ob := 0 <= b.1.getD 0 /\ b.1.getD 0 <= b.2.getD len /\ b.2.getD len <= len } else none
    | _ => none
   | .arr n e => ziu ty n e hp b x
   | _ => none
 | _ => none

def lenA (hp : Nat -> Option Ob) : TK -> AV -> Option Eff
 | .slice _, .nl => some { val := .d (.int .i64 0) }
 | .slice _, .d (.sl rows) => some { val := .d (.int .i64 rows.length) }
 | .slice _, .hs id _ n => (hp id).map fun _ => { val := .d (.int .i64 n) }
 | .str, .d (.str s) => some { val := .d (.int .i64 s.size) }
 | .arr n _, _ => some { val := .d (.int .i64 n) }
 | _, _ => none

def zny (hp : Nat -> Option Ob) : AV -> Option (List (List AV))
 | .hm id => (hp id).map fun o => o.rows
 | .d (.mp rows) => some (dr rows)
 | _ => none

def zoi (t : TypeId) (nid : Nat) : List AV -> Option Eff
 | [] => some { val := .hm nid, wr := [(nid, some ⟨t, mapM, []⟩)] }
 | _ => none

def znb (ty : TypeId -> Option TI) (t : TypeId) (ok : Bool) (orc : Option Res) (hp : Nat -> Option Ob) : List AV -> Option Eff
 | [m, .d k] => (ty t).bind fun ti => match ti.kind with
  | .map kt et => (ty kt).bind fun kti => (ty et).bind fun eti => (zny hp m).bind fun rows => match orc with
   | some (.p x) => some { val := .d x, ob := zcg kti k = true /\ zic (zua eti) ok (zhd k rows) x }
   | _ => none
  | _ => none
 | _ => none

def zhi (ty : TypeId -> Option TI) (t : TypeId) (hp : Nat -> Option Ob) : List AV -> Option Eff
 | [.hm id, .d k, x] => (ty t).bind fun ti => match ti.kind with
  | .map kt et => (ty kt).bind fun kti => (hp id).bind fun o => (zky k x o.rows).map fun rows' => { val := .any, wr := [(id, some ⟨o.elem, o.m, rows'⟩)], ob := zcg kti k = true }
  | _ => none
 | _ => none

def zih (ty : TypeId -> Option TI) (t : TypeId) (hp : Nat -> Option Ob) : List AV -> Option Eff
 | [.hm id, .d k] => (ty t).bind fun ti => match ti.kind with
  | .map kt et => (ty kt).bind fun kti => (hp id).bind fun o => (delR k o.rows).map fun rows' => { val := .tup [], wr := [(id, some ⟨o.elem, o.m, rows'⟩)], ob := zcg kti k = true }
  | _ => none
 | _ => none

def zgn (ty : TypeId -> Option TI) (b : Builtin) (ats : List TypeId) (hp : Nat -> Option Ob) (nid : Nat) (args : List AV) : Option Eff :=
 match b, ats, args with
 | .len, [t], [x] => (ty t).bind fun ti => lenA hp ti.kind x
 | .append, [t, t'], [s, x] => if t = t' then (ty t).bind fun ti => match ti.kind with
  | .slice e => (ty e).bind fun te => if te.size = 0 \/ te.bytes = 0 then none else
   (zeo hp e te.size s).bind fun d => (zdo hp te.size x).map fun r =>
    {val := .hs nid 0 (d.1.length + r.1.length), wr := d.2.1 ++ [(nid, some ⟨e, te.size, d.1 ++ r.1⟩)], ob := d.2.2 /\ r.2 /\ (d.1.length + r.1.length) * te.bytes <= 140737488355328 }
  | _ => none
  else none
 | .copy, [t, t'], [.hs id 0 len, x] => if t = t' then (ty t).bind fun ti => match ti.kind with
  | .slice e => (ty e).bind fun te => (hp id).bind fun o => (zdo hp te.size x).bind fun r =>
   if o.m = te.size then some { val := .d (.int .i64 r.1.length), wr := [(id, some ⟨o.elem, o.m, r.1 ++ o.rows.drop r.1.length⟩)], ob := r.2 /\ r.1.length <= len /\ len <= o.rows.length } else none
  | _ => none
  else none
 | .delete, [t, _], args => zih ty t hp args
 | .min, _, [.d (.int k a), .d (.int k' b)] => if k = k' then some { val := .d (.int k (min a b)) } else none
 | .max, _, [.d (.int k a), .d (.int k' b)] => if k = k' then some { val := .d (.int k (max a b)) } else none
 | _, _, _ => none

def zfv (ty : TypeId -> Option TI) (P : Program) (orc : Option Res) (op : Op) (hp : Nat -> Option Ob) (nid : Nat) (args : List AV) : Option Eff :=
 match op with
 | .move _ => zvv args
 | .assign _ => zvv args
 | .pick _ _ _ => effPick args
 | .alloc t => zwa ty t nid args
 | .box t _ => effBox t nid args
 | .build t ps => zvz ty t (ps.toList.map (·.1)) args
 | .buildSlice t len ps => zim ty t len (ps.toList.map (·.1)) nid args
 | .load t _ => zlo ty t hp args
 | .nilCheck _ => zfj hp args
 | .store t _ _ => zkt ty t hp args
 | .binOp op t _ _ _ => effBin ty op t hp args
 | .unOp op _ _ => effUn op args
 | .convert src dst _ => zok ty src dst args
 | .field t _ f => zvx ty t f args
 | .fieldAddr t _ f => zen ty t f hp args
 | .indexAddr t _ _ => zem ty t hp args
 | .index t _ _ => zvw ty t args
 | .extract _ ix => zoj ix args
 | .makeFunc fn first _ => zln fn first.size args
 | .makeSlice t _ _ => zjq ty t nid args
 | .slice t _ lo hi mx => if mx.isSome then none else zna ty t hp lo.isSome hi.isSome args
 | .makeMap t r => if r.isSome then none else zoi t nid args
 | .lookup t _ _ ok => znb ty t ok orc hp args
 | .mapUpdate t _ _ _ => zhi ty t hp args
 | .call { callee := .builtin b, argTypes := ats, .. } => zgn ty b ats.toList hp nid args
 | .call { callee := .value _, .. } => zvy P orc hp nid args
 | _ => none

def fixU (b : Bool) (e : Eff) : Option Eff := match e.val with
 | .ub p q => some { e with val := .d (.bool b), ob := e.ob /\ (bif b then q else p) = false }
 | _ => none

def frzE (nid : Nat) (d : D) (e : Eff) : Option Eff := match e.val, e.wr with
 | .hs id 0 len, [(k, some o)] => if id = nid /\ k = nid then some { val := .d d, ob := e.ob /\ (match zdc o.rows with | some R => d = .sl (R.take len) /\ len <= R.length | none => False) } else none
 | _, _ => none

def zhb : Op -> Bool
 | .binOp _ _ _ _ _ => true
 | .index _ _ _ => true
 | .slice _ _ _ _ _ => true
 | .convert _ _ _ => true
 | _ => false
theorem po_binOp {x y z u v} : zhb (.binOp x y z u v) = true := rfl
theorem po_index {x y z} : zhb (.index x y z) = true := rfl
theorem po_slice {x y z u v} : zhb (.slice x y z u v) = true := rfl
theorem po_convert {x y z} : zhb (.convert x y z) = true := rfl
theorem po_call {x} : zhb (.call x) = false := rfl
theorem po_lookup {x y z u} : zhb (.lookup x y z u) = false := rfl
theorem po_load {x y} : zhb (.load x y) = false := rfl
theorem po_store {x y z} : zhb (.store x y z) = false := rfl
def OpRes (P : Program) (op : Op) (ds : List D) (r : Res) : Prop :=
 ∀ (o : Oper) (a : Act) (ro : Nat -> Prop) (w : World), o.op = op -> (∀ b, ro b -> b < w.heap.size) -> zq ro w ds (op.operands.toList.map a.eval) ->
  ∃ v w', (execOp a.eval o).run P w = .ok (.value v) w' /\ Below w.heap.size w w' /\ zdn ro w.heap.size w' r v
def effExt (P : Program) (op : Op) (r : Res) (nid : Nat) (args : List AV) : Option Eff :=
 (allS args).map fun ds => { val := (zjb nid r).1, wr := (zjb nid r).2, ob := OpRes P op ds r }

def eff (ty : TypeId -> Option TI) (P : Program) (orc : Option Res) (op : Op) (hp : Nat -> Option Ob) (nid : Nat) (args : List AV) : Option Eff :=
 match orc with
 | some .skip => none
 | some (.ub b) => (zfv ty P none op hp nid args).bind (fixU b)
 | some (.f d) => match op with
  | .buildSlice _ _ _ => (zfv ty P none op hp nid args).bind (frzE nid d)
  | .makeSlice _ _ _ => (zfv ty P none op hp nid args).bind (frzE nid d)
  | _ => zfv ty P (some (.f d)) op hp nid args
 | some (.p d) => bif zhb op then effExt P op (.p d) nid args else zfv ty P (some (.p d)) op hp nid args
 | some (.o e m rows) => bif zhb op then effExt P op (.o e m rows) nid args else zfv ty P (some (.o e m rows)) op hp nid args
 | r => zfv ty P r op hp nid args

structure Ctx (P : Program) (ty : TypeId -> Option TI) : Prop where
 ok : ∀ t ti, ty t = some ti -> TOk P t ti

section
variable {P : Program} {ty : TypeId -> Option TI} {o : Oper} {a : Act} {g : G} {obj : Nat -> Option Ob} {w : World} {nid : Nat} {args : List AV} {e : Eff}

theorem zcw {x : AV} {v : Value} (h : zj g w [x] [v]) : zh g w x v := by
 simp only [zj] at h;obtain ⟨_, _, heq, h1, _⟩ := h;cases heq;exact h1

theorem zcn {x y : AV} {v u : Value} (h : zj g w [x, y] [v, u]) : zh g w x v /\ zh g w y u := by
 simp only [zj] at h;obtain ⟨_, _, heq, h1, _, _, heq', h2, _⟩ := h;cases heq;cases heq';exact ⟨h1, h2⟩

theorem three_args {x y z : AV} {v u t : Value} (h : zj g w [x, y, z] [v, u, t]) : zh g w x v /\ zh g w y u /\ zh g w z t := by
 simp only [zj] at h;obtain ⟨_, _, heq, h1, _, _, heq', h2, _, _, heq'', h3, _⟩ := h;cases heq;cases heq';cases heq'';exact ⟨h1, h2, h3⟩

theorem move_sound {x : Operand} (hH : zam g obj w) (ho : o.op = .move x \/ o.op = .assign x) (hargs : zj g w args [a.eval x]) (he : zvv args = some e) : zfc P o a w (zaj g obj w nid e) := by
 match args, he with
 | [y], he =>
  simp [zvv] at he; subst he;have hy := zcw hargs;refine zv (v := a.eval x) (w' := w) ?_ (zaj.same hH hy);rcases ho with ho | ho <;> simp [execOp, ho]

theorem strip_rep {x : AV} {v : Value} {c : Bool} (h : zh g w x v) (hc : c = true) (ho : optOb c x) : zh g w (zct x) v := by
 cases x with
 | opt b y => simp only [zh] at h; exact h.1 (ho hc)
 | _ => exact h

theorem pickA_rep {c : Bool} {x y : AV} {u v : Value} (hx : c = true -> zh g w x u) (hy : c = false -> zh g w y v) : zh g w (pickA c x y) (if c then u else v) := by
 unfold pickA;split
 ·cases c
  ·have := hy rfl;simp only [zh, zr] at this ⊢;subst this; rfl
  ·have := hx rfl;simp only [zh, zr] at this ⊢;subst this; rfl
 ·cases c
  ·simpa using hy rfl
  ·simpa using hx rfl

theorem pick_sound {c x y : Operand} (hH : zam g obj w) (ho : o.op = .pick c x y) (hargs : zj g w args [a.eval c, a.eval x, a.eval y]) (he : effPick args = some e) (hob : e.ob) : zfc P o a w (zaj g obj w nid e) := by
 match args, he with
 | [.d (.bool b), p, q], he =>
  simp [effPick] at he; subst he;obtain ⟨h1, h2, h3⟩ := three_args hargs;simp only [zh, zr] at h1;refine zv (v := if b then a.eval x else a.eval y) (w' := w) ?_ (zaj.same hH (pickA_rep (fun hb => strip_rep h2 hb hob.1) (fun hb => strip_rep h3 (by rw [hb]; rfl) hob.2)));simp [execOp, ho, h1, asBool]

theorem bin_sound {op : BinOp} {t yt : TypeId} {x y : Operand} (hc : Ctx P ty) (hH : zam g obj w) (ho : o.op = .binOp op t x y yt) (hargs : zj g w args [a.eval x, a.eval y]) (he : effBin ty op t obj args = some e) (hob : e.ob) : zfc P o a w (zaj g obj w nid e) := by
 unfold effBin at he;split at he
 ·rename_i x0;cases hty : ty t with
  | none => rw [hty] at he; cases he
  | some ti =>
   rw [hty] at he;simp only [Option.bind_some] at he;split at he
   ·rename_i et hk;have hu : P.underlying t = some (.slice et) := by have := (hc.ok t ti hty).kind; rw [hk] at this; exact this
    obtain ⟨h1, h2⟩ := zcn hargs;simp only [zh] at h2;cases hn : isNil obj x0 with
    | none => rw [hn] at he; cases he
    | some c =>
     rw [hn] at he;simp only [Option.bind_some] at he;obtain ⟨aa, nn, cc, hv, hrep, hrep'⟩ : ∃ aa nn cc, a.eval x = .slice aa nn cc /\ zh g w c (.bool aa.isNone) /\ zh g w (notA c) (.bool (!aa.isNone)) := by
      unfold isNil at hn;split at hn
      ·cases hn;simp only [zh] at h1;exact ⟨none, 0, 0, h1, by simp [zh, zr], by simp [zh, zr, notA]⟩
      ·cases hn;simp only [zh, zr] at h1;obtain ⟨aa, cap, hv, hle, hmax, hrows⟩ := h1;refine ⟨aa, _, cap, hv, ?_⟩;rcases hrows with rfl | ⟨b, o, m, rfl, _⟩
       ·cases aa <;> simp [zh, notA]
       ·simp [zh, notA]
      ·rename_i id off len;simp only [Option.map_eq_some_iff] at hn;obtain ⟨ob, hob', rfl⟩ := hn;obtain ⟨L, hL, _⟩ := hH.own id ob hob';simp only [zh] at h1;rcases h1.2 L hL with ⟨_, h3, h4, a0, h5⟩ | ⟨_, _, h5⟩
       ·exact ⟨a0, 0, 0, h5, by cases a0 <;> simp [zh, h4], by cases a0 <;> simp [zh, notA, h4]⟩
       ·exact ⟨_, _, _, h5, by simp [zh], by simp [zh, notA]⟩
      ·cases hn
     cases op <;> simp only [Option.some.injEq, reduceCtorEq] at he
     ·subst he;refine zv (v := .bool aa.isNone) (w' := w) ?_ (zaj.same hH hrep);simp only [execOp, ho, hv, h2, eqGuard_at_slice, pure_bind, Sem.run_bind, Lib.run_eql_slice_nil w t et aa nn cc 0 0 hu, Result.andThen_ok, Sem.run_pure]
     ·subst he;refine zv (v := .bool (!aa.isNone)) (w' := w) ?_ (zaj.same hH hrep');simp only [execOp, ho, hv, h2, eqGuard_at_slice, pure_bind, Sem.run_bind, run_neq_slice_nil_any w t et aa nn cc 0 0 hu, Result.andThen_ok, Sem.run_pure]
   ·cases he
 ·rename_i k m k' n;obtain ⟨h1, h2⟩ := zcn hargs;simp only [zh, zr] at h1 h2;split at he
  ·rename_i hk;subst hk;have key : ∀ (v : Value) (z : D), (binOp op t (.int k m) (.int k n)).run P w = .ok v w -> zr g.ro w z v -> e.val = .d z -> e.wr = [] -> zfc P o a w (zaj g obj w nid e) := by
    intro v z hrun hz hv hw;refine zv (v := v) (w' := w) ?_ ?_
    ·simp only [execOp, ho, h1, h2, eqGuard_at_int, pure_bind, Sem.run_bind, hrun, Result.andThen_ok, Sem.run_pure]
    ·obtain ⟨val, wr, ob⟩ := e;simp only at hv hw;subst hv; subst hw;exact zaj.same hH (by simpa only [zh] using hz)
   cases op <;> simp only [Option.some.injEq, reduceCtorEq] at he <;> subst he <;>
    first
     | exact key _ _ (by simp [go_sem, Op.intArith]; rfl) (by simp only [zr]) rfl rfl
     | (simp only at hob
        exact key _ _ (by simp [go_sem, Op.intDiv, hob]; rfl) (by simp only [zr]) rfl rfl)
     | (simp only at hob
        exact key (.int k (m.fdiv (2 ^ (min n.toNat k.bits)))) _ (by simp only [binOp, Op.shift, if_neg hob, Sem.run_pure]) (by simp only [zr]) rfl rfl)
  ·cases he
 ·rename_i m n;cases hty : ty t with
  | none => rw [hty] at he; cases he
  | some ti =>
   rw [hty] at he;simp only [Option.bind_some] at he;split at he
   ·rename_i hk;obtain ⟨h1, h2⟩ := zcn hargs;simp only [zh, zr] at h1 h2;have hu : P.underlying t = some .bool := by have := (hc.ok t ti hty).kind; rw [hk] at this; exact this
    have heq : (Op.equal t (.bool m) (.bool n)).run P w = .ok (m == n) w := by
     show (Op.equalIn (9999 + 1) t (.bool m) (.bool n)).run P w = _
     exact run_equalIn_bool w 9999 t m n hu
    cases op <;> simp only [Option.some.injEq, reduceCtorEq] at he
    ·subst he;refine zv (v := .bool (m == n)) (w' := w) ?_ (zaj.same hH (by simp only [zh, zr]));simp only [execOp, ho, h1, h2, eqGuard_at_bool, pure_bind, binOp, Sem.run_bind, heq, Result.andThen_ok, Sem.run_pure]
    ·subst he;refine zv (v := .bool (!(m == n))) (w' := w) ?_ (zaj.same hH (by simp only [zh, zr]; rfl));simp only [execOp, ho, h1, h2, eqGuard_at_bool, pure_bind, binOp, Sem.run_bind, heq, Result.andThen_ok, Sem.run_pure]
   ·cases he
 ·rename_i xs ys;obtain ⟨h1, h2⟩ := zcn hargs;simp only [zh, zr] at h1 h2;obtain ⟨us, hu, _, hru⟩ := h1;obtain ⟨vs, hv, _, hrv⟩ := h2;cases hty : ty t with
  | none => rw [hty] at he; cases he
  | some ti =>
   rw [hty] at he;simp only [Option.bind_some] at he;split at he
   ·rename_i heqs;obtain ⟨hgt, hflat⟩ := (hc.ok t ti hty).eqs heqs.1;have hrun : ∀ c, eqD ti.eqs xs ys = some c -> (Op.equalIn 10000 t (.agg us.toArray) (.agg vs.toArray)).run P w = .ok c w := fun c hc' => hflat w g.ro us vs xs ys c hru hrv heqs.2 hc';cases op <;> simp only [Option.map_eq_some_iff, reduceCtorEq] at he
    ·obtain ⟨c, hc', rfl⟩ := he;refine zv (v := .bool c) (w' := w) ?_ (zaj.same hH (by simp only [zh, zr]));simp only [execOp, ho, hu, hv, Sem.run_bind, run_eqGuard_agg w _ t x y _ _ hgt, Result.andThen_ok, run_eql_struct, hrun c hc', Sem.run_pure]
    ·obtain ⟨c, hc', rfl⟩ := he;refine zv (v := .bool (!c)) (w' := w) ?_ (zaj.same hH (by simp only [zh, zr]));simp only [execOp, ho, hu, hv, Sem.run_bind, run_eqGuard_agg w _ t x y _ _ hgt, Result.andThen_ok, run_neq_struct, hrun c hc', Sem.run_pure]
   ·cases he
 ·cases he

end
end Go.Abs

namespace Go.Abs
variable [Flag]
open Go.RowKit
section
variable {P : Program} {ty : TypeId -> Option TI} {o : Oper} {a : Act} {g : G} {obj : Nat -> Option Ob} {w : World} {nid : Nat} {args : List AV} {e : Eff}

theorem un_sound {op : UnOp} {t : TypeId} {x : Operand} (hH : zam g obj w) (ho : o.op = .unOp op t x) (hargs : zj g w args [a.eval x]) (he : effUn op args = some e) : zfc P o a w (zaj g obj w nid e) := by
 unfold effUn at he;split at he
 ·have h := zcw hargs;simp only [zh, zr] at h;cases op <;> simp only [Option.some.injEq, reduceCtorEq] at he
  subst he;refine zv (v := .bool _) (w' := w) ?_ (zaj.same hH (by simp only [zh, zr]; rfl));simp [execOp, ho, h, Op.unary]
 ·have h := zcw hargs;simp only [zh, zr] at h;cases op <;> simp only [Option.some.injEq, reduceCtorEq] at he
  subst he;refine zv (v := .int _ _) (w' := w) ?_ (zaj.same hH (by simp only [zh, zr]; rfl));simp [execOp, ho, h, Op.unary, Op.intArith]
 ·cases he

theorem zux {x : Operand} (hH : zam g obj w) (ho : o.op = .nilCheck x) (hargs : zj g w args [a.eval x]) (he : zfj obj args = some e) : zfc P o a w (zaj g obj w nid e) := by
 unfold zfj at he;split at he
 ·cases he;have h := zcw hargs;have h' := h;simp only [zh, zr] at h;obtain ⟨b, off, vs, hv, _⟩ := h;exact zv (v := a.eval x) (w' := w) (by simp [execOp, ho, hv]) (zaj.same hH h')
 ·rename_i id i j;simp only [Option.map_eq_some_iff] at he;obtain ⟨ob, hob, rfl⟩ := he;have h := zcw hargs;have h' := h;obtain ⟨L, hL, _⟩ := hH.own id ob hob;simp only [zh] at h;have hv := (h.2 L hL).2;exact zv (v := a.eval x) (w' := w) (by simp [execOp, ho, hv]) (zaj.same hH h')
 ·cases he;have h := zcw hargs;have h' := h;simp only [zh, zr] at h;obtain ⟨vs, hv, _⟩ := h;exact zv (v := a.eval x) (w' := w) (by simp [execOp, ho, hv]) (zaj.same hH h')
 ·cases he;have h := zcw hargs;have h' := h;simp only [zh] at h;obtain ⟨vs, hv, _⟩ := h;obtain ⟨x1, x2, hx⟩ := mkFn_func _ vs;rw [hx] at hv;exact zv (v := a.eval x) (w' := w) (by simp [execOp, ho, hv]) (zaj.same hH h')
 ·cases he

theorem TOk.und {t : TypeId} {ti : TI} (h : TOk P t ti) : (P.underlying t).isSome = true := by
 have hk := h.kind;cases hti : ti.kind <;> rw [hti] at hk <;> simp only at hk
 case struct l => obtain ⟨fs, hu, _⟩ := hk; simp [hu]
 case one => cases hu : P.underlying t <;> rw [hu] at hk <;> simp at hk ⊢
 all_goals simp [hk]

theorem convert_sound {src dst : TypeId} {x : Operand} (hc : Ctx P ty) (hH : zam g obj w) (ho : o.op = .convert src dst x) (hargs : zj g w args [a.eval x]) (he : zok ty src dst args = some e) : zfc P o a w (zaj g obj w nid e) := by
 unfold zok at he;split at he
 ·have h := zcw hargs;simp only [zh, zr] at h;cases hs : ty src with
  | none => rw [hs] at he; cases he
  | some si =>
   cases hd : ty dst with
   | none => rw [hs, hd] at he; cases he
   | some di =>
    rw [hs, hd] at he;simp only [Option.bind_some] at he;split at he
    ·rename_i k hk;cases he;have hu : P.underlying dst = some (.int k) := by have := (hc.ok dst di hd).kind; rw [hk] at this; exact this
     obtain ⟨sd, hsd⟩ := Option.isSome_iff_exists.1 (hc.ok src si hs).und;refine zv (v := .int k _) (w' := w) ?_ (zaj.same hH (by simp only [zh, zr]; rfl));simp only [execOp, ho, h, convert, Sem.run_bind, run_underlying hsd, run_underlying hu, Result.andThen_ok];simp [Conv.intToInt]
    ·cases he
 ·cases he

theorem zsn {t : TypeId} {x : Operand} (hc : Ctx P ty) (hH : zam g obj w) (ho : o.op = .load t x) (hargs : zj g w args [a.eval x]) (he : zlo ty t obj args = some e) : zfc P o a w (zaj g obj w nid e) := by
 unfold zlo at he;split at he
 ·rename_i id i j;have h := zcw hargs;cases ht : ty t with
  | none => rw [ht] at he; cases he
  | some ti =>
   cases hob : obj id with
   | none => rw [ht, hob] at he; cases he
   | some ob =>
    rw [ht, hob] at he;simp only [Option.bind_some] at he;cases hrow : ob.rows[i]? with
    | none => rw [hrow] at he; cases he
    | some row =>
     rw [hrow] at he;simp only [Option.bind_some, Option.map_eq_some_iff] at he;obtain ⟨y, hy, rfl⟩ := he;obtain ⟨L, hL, hok⟩ := hH.own id ob hob;simp only [zh] at h;obtain ⟨hv, hp⟩ := h.2 L hL;obtain ⟨us, hul, hur, huc⟩ := hok.row hv hrow;obtain ⟨v, hrun, hrep⟩ := zoa (hc.ok t ti ht) (huc.drop j) (hur.drop j) hy;refine zv (v := v) (w' := w) ?_ (zaj.same hH hrep);simp only [execOp, ho, hp, Sem.run_bind, hrun, Result.andThen_ok, Sem.run_pure]
 ·rename_i cs;have h := zcw hargs;cases ht : ty t with
  | none => rw [ht] at he; cases he
  | some ti =>
   rw [ht] at he;simp only [Option.bind_some, Option.map_eq_some_iff] at he;obtain ⟨y, hy, rfl⟩ := he;simp only [zh, zr] at h;obtain ⟨b, off, us, hp, hb, hr, hcell⟩ := h;obtain ⟨v, hrun, hrep⟩ := zoa (hc.ok t ti ht) hcell (zj.of_ds hr) hy;refine zv (v := v) (w' := w) ?_ (zaj.same hH hrep);simp only [execOp, ho, hp, Sem.run_bind, hrun, Result.andThen_ok, Sem.run_pure]
 ·cases he

theorem store_op_sound {t : TypeId} {x y : Operand} (hc : Ctx P ty) (hH : zam g obj w) (ho : o.op = .store t x y) (hargs : zj g w args [a.eval x, a.eval y]) (he : zkt ty t obj args = some e) : zfc P o a w (zaj g obj w nid e) := by
 unfold zkt at he;split at he
 ·rename_i id i j av;obtain ⟨h1, h2⟩ := zcn hargs;cases ht : ty t with
  | none => rw [ht] at he; cases he
  | some ti =>
   cases hob : obj id with
   | none => rw [ht, hob] at he; cases he
   | some ob =>
    rw [ht, hob] at he;simp only [Option.bind_some] at he;cases hrow : ob.rows[i]? with
    | none => rw [hrow] at he; cases he
    | some row =>
     rw [hrow] at he;cases hl : zcz av with
     | none => rw [hl] at he; cases he
     | some l =>
      rw [hl] at he;simp only [Option.bind_some] at he;split at he
      ·rename_i hsz;cases he;obtain ⟨w', g', hrun, hH', hS, hL, hu⟩ := store_sound (hc.ok t ti ht) hH hob hrow h1 h2 hl hsz.1 hsz.2;refine does_skip (w' := w') ?_ ⟨g', by simpa [zcu] using hH', hS, hL, fun k hk => .inl (hu k hk), by simp [zh]⟩;simp only [execOp, ho, Sem.run_bind, hrun, Result.andThen_ok, Sem.run_pure]
      ·cases he
 ·cases he

theorem alloc_op_sound {t : TypeId} (hc : Ctx P ty) (hH : zam g obj w) (hid : ¬ g.used nid) (ho : o.op = .alloc t) (he : zwa ty t nid args = some e) : zfc P o a w (zaj g obj w nid e) := by
 unfold zwa at he;split at he
 ·cases ht : ty t with
  | none => rw [ht] at he; cases he
  | some ti =>
   rw [ht] at he;simp only [Option.bind_some] at he;split at he
   ·cases he
   ·rename_i hpos;cases he;obtain ⟨v, w', hrun, hA⟩ := alloc_sound (hc.ok t ti ht) (Nat.pos_of_ne_zero hpos) hH hid;refine zv (v := v) (w' := w') ?_ hA;simp only [execOp, ho, Sem.run_bind, hrun, Result.andThen_ok, Sem.run_pure]
 ·cases he

theorem box_op_sound {t : TypeId} {x : Operand} (hH : zam g obj w) (hid : ¬ g.used nid) (ho : o.op = .box t x) (hargs : zj g w args [a.eval x]) (he : effBox t nid args = some e) : zfc P o a w (zaj g obj w nid e) := by
 unfold effBox at he;split at he
 ·rename_i y;have h := zcw hargs;cases hl : zcz y with
  | none => rw [hl] at he; cases he
  | some l =>
   rw [hl] at he;simp only [Option.bind_some] at he;split at he
   ·cases he
   ·rename_i hpos;cases he;obtain ⟨hr, ho'⟩ := ztw h hl;refine zv (v := .pointer (some ⟨w.heap.size, 0, none⟩)) (w' := w.alloc (.cells (a.eval x).cells t)) ?_ (box_sound hH hid t l (a.eval x).cells hr ho' (Nat.pos_of_ne_zero hpos));simp only [execOp, ho, Instr.box, newVar, newRow, Sem.run_bind, run_newObj, Result.andThen_ok, Sem.run_pure];rfl
 ·cases he

theorem zip_parts {ps : Array (Nat × Operand)} (hargs : zj g w args ((ps.toList.map (·.2)).map a.eval)) :
  (ps.toList.map fun x => (x.1, a.eval x.2)).map (·.1) = ((ps.toList.map (·.1)).zip args).map (·.1) /\ zj g w (((ps.toList.map (·.1)).zip args).map (·.2)) ((ps.toList.map fun x => (x.1, a.eval x.2)).map (·.2)) := by
 have hl : args.length = ps.toList.length := by have := hargs.length; simpa using this.symm
 constructor
 ·rw [List.map_fst_zip (by simpa using Nat.le_of_eq hl.symm)];simp [List.map_map, Function.comp_def]
 ·rw [List.map_snd_zip (by simpa using Nat.le_of_eq hl)];simpa [List.map_map, Function.comp_def] using hargs

theorem mapParts (ps : Array (Nat × Operand)) : (ps.map fun x => (x.1, a.eval x.2)) = (ps.toList.map fun x => (x.1, a.eval x.2)).toArray := by
 apply Array.ext'
 simp

theorem zsf {t : TypeId} {len : Nat} {ps : Array (Nat × Operand)} (hc : Ctx P ty) (hH : zam g obj w) (hid : ¬ g.used nid) (ho : o.op = .buildSlice t len ps) (hargs : zj g w args ((ps.toList.map (·.2)).map a.eval))
  (he : zim ty t len (ps.toList.map (·.1)) nid args = some e) : zfc P o a w (zaj g obj w nid e) := by
 unfold zim at he;cases ht : ty t with
 | none => rw [ht] at he; cases he
 | some ti =>
  rw [ht] at he;simp only [Option.bind_some] at he;split at he
  ·rename_i el hk;cases hte : ty el with
   | none => rw [hte] at he; cases he
   | some te =>
    rw [hte] at he;simp only [Option.bind_some] at he;split at he
    ·cases he
    ·rename_i hn;simp only [Option.map_eq_some_iff] at he;obtain ⟨l', hl', rfl⟩ := he;obtain ⟨h1, h2⟩ := zip_parts hargs;obtain ⟨v, w', hrun, hA⟩ := buildSlice_sound (hc.ok t ti ht) hk (hc.ok el te hte) (by omega) hH hid h1 h2 (by omega) hl';refine zv (v := v) (w' := w') ?_ hA;simp only [execOp, ho, Sem.run_bind, Sem.run_pure];rw [show (ps.map fun x => match x with | (i, x) => (i, a.eval x)) = (ps.toList.map fun x => (x.1, a.eval x.2)).toArray from mapParts ps, hrun, Result.andThen_ok]
  ·cases he

theorem znp {t : TypeId} (h : P.cellsOf t ≠ 0) : (Go.sizeOf t).run P w = .ok (P.cellsOf t) w := by
 unfold Program.cellsOf at h ⊢;cases hi : P.info? t with
 | none => rw [hi] at h; simp at h
 | some i => simp [Go.sizeOf, typeInfo, hi]

theorem places_run (P : Program) (w : World) : ∀ (fs : List Field), fs.all (fun f => (P.underlying f.type).isSome && decide (P.cellsOf f.type ≠ 0)) = true ->
  (fs.mapM (fun f => do pure (f.offset, <- Go.sizeOf f.type) : Field -> Sem (Nat × Nat))).run P w = .ok (fs.map fun f => (f.offset, P.cellsOf f.type)) w
 | [], _ => by simp
 | f :: fs, h => by
  simp only [List.all_cons, Bool.and_eq_true, decide_eq_true_eq] at h;have ih := places_run P w fs h.2;simp only [List.mapM_cons, Sem.run_bind, znp h.1.2, Result.andThen_ok, Sem.run_pure, ih, List.map_cons]

theorem build_op_sound {t : TypeId} {ps : Array (Nat × Operand)} (hc : Ctx P ty) (hH : zam g obj w) (ho : o.op = .build t ps) (hargs : zj g w args ((ps.toList.map (·.2)).map a.eval))
  (he : zvz ty t (ps.toList.map (·.1)) args = some e) : zfc P o a w (zaj g obj w nid e) := by
 unfold zvz at he;cases ht : ty t with
 | none => rw [ht] at he; cases he
 | some ti =>
  rw [ht] at he;simp only [Option.bind_some] at he;obtain ⟨z, hz, hr, hoz, _, _⟩ := (hc.ok t ti ht).zero g w;obtain ⟨h1, h2⟩ := zip_parts hargs;have hps : (ps.map fun x => match x with | (i, x) => (i, a.eval x)) = (ps.toList.map fun x => (x.1, a.eval x.2)).toArray := mapParts ps;split at he
  ·rename_i fs hk;simp only [Option.map_eq_some_iff] at he;obtain ⟨l, hl, rfl⟩ := he;have hkind := (hc.ok t ti ht).kind;rw [hk] at hkind;obtain ⟨fds, hu, hfs, hall⟩ := hkind;obtain ⟨cs', hf, hr', ho', _⟩ := zog _ _ ti.zero l z.cells h1 h2 hr hoz hl;have hplaces : (fds.mapM fun f => do pure (f.offset, <- Go.sizeOf f.type) : Sem (Array (Nat × Nat))).run P w = .ok ((fds.toList.map fun f => (f.offset, P.cellsOf f.type)).toArray) w := by
    rw [Array.mapM_eq_mapM_toList];simp only [Sem.run_map, places_run P w fds.toList hall, Result.andThen_ok]
   have hpl : (fun (i : Nat) => ((fds.toList.map fun f => (f.offset, P.cellsOf f.type)).toArray)[i]?) = (fun i => (fs[i]?).map fun (f : Nat × Nat × Bool) => (f.1, f.2.1)) := by
    funext i
    rw [<- hfs];simp only [List.getElem?_toArray, List.getElem?_map, Option.map_map, Function.comp_def]
   refine zv (v := .agg cs') (w' := w) ?_ (zaj.same hH (by have := zh.mkAgg ho' hr'; simpa using this));simp only [execOp, ho, hps, Instr.build, Sem.run_bind, hz, Result.andThen_ok, run_underlying hu, hplaces, Sem.run_pure];rw [hpl, hf];simp
  ·rename_i n el hk;cases hte : ty el with
   | none => rw [hte] at he; cases he
   | some te =>
    rw [hte] at he;simp only [Option.bind_some, Option.map_eq_some_iff] at he;obtain ⟨l, hl, rfl⟩ := he;have hu : P.underlying t = some (.array n el) := by have := (hc.ok t ti ht).kind; rw [hk] at this; exact this
    obtain ⟨cs', hf, hr', ho', _⟩ := zog _ _ ti.zero l z.cells h1 h2 hr hoz hl;refine zv (v := .agg cs') (w' := w) ?_ (zaj.same hH (by have := zh.mkAgg ho' hr'; simpa using this));simp only [execOp, ho, hps, Instr.build, Sem.run_bind, hz, Result.andThen_ok, run_underlying hu, (hc.ok el te hte).sizeOf, hf, Sem.run_pure]
  ·cases he

theorem zek {t el : TypeId} {ti : TI} (h : TOk P t ti) (hk : ti.kind = .slice el) : P.underlying t = some (.slice el) := by have := h.kind; rw [hk] at this; exact this
theorem zqe {t el : TypeId} {n : Nat} {ti : TI} (h : TOk P t ti) (hk : ti.kind = .arr n el) : P.underlying t = some (.array n el) := by have := h.kind; rw [hk] at this; exact this

theorem zui {t : TypeId} {ti : TI} {fs : List (Nat × Nat × Bool)} {f : Nat} {fi : Nat × Nat × Bool} (h : TOk P t ti) (hk : ti.kind = .struct fs) (hf : fs[f]? = some fi) :
  ∃ fds fd, P.underlying t = some (.struct fds) /\ fds[f]? = some fd /\ fd.offset = fi.1 /\ P.cellsOf fd.type = fi.2.1 /\ fi.2.1 ≠ 0 /\ (P.underlying fd.type).any zgf = fi.2.2 /\ (P.underlying fd.type).isSome = true := by
 have hkind := h.kind;rw [hk] at hkind;obtain ⟨fds, hu, hfs, hall⟩ := hkind;rw [<- hfs] at hf;simp only [List.getElem?_map, Option.map_eq_some_iff] at hf;obtain ⟨fd, hfd, rfl⟩ := hf;have := List.all_eq_true.1 hall fd (List.mem_of_getElem? hfd);simp only [Bool.and_eq_true, decide_eq_true_eq] at this;exact ⟨fds, fd, hu, by simpa using hfd, rfl, rfl, this.2, rfl, this.1⟩

theorem run_isAgg_any {t : TypeId} (h : (P.underlying t).isSome = true) : (isAgg t).run P w = .ok ((P.underlying t).any zgf) w := by
 obtain ⟨d, hd⟩ := Option.isSome_iff_exists.1 h;unfold isAgg;simp only [Sem.run_bind, run_underlying hd, Result.andThen_ok, hd, Option.any_some];cases d <;> simp [zgf]

theorem ztr {t : TypeId} {x : Operand} {f : Nat} (hc : Ctx P ty) (hH : zam g obj w) (ho : o.op = .fieldAddr t x f) (hargs : zj g w args [a.eval x]) (he : zen ty t f obj args = some e) : zfc P o a w (zaj g obj w nid e) := by
 have key : ∀ (ti : TI) (fs : List (Nat × Nat × Bool)) (fi : Nat × Nat × Bool) (b off : Nat), ty t = some ti -> ti.kind = .struct fs -> fs[f]? = some fi -> a.eval x = .pointer (some ⟨b, off, none⟩) -> (execOp a.eval o).run P w = .ok (.value (.pointer (some ⟨b, off + fi.1, none⟩))) w := by
  intro ti fs fi b off ht hk hf hx;obtain ⟨fds, fd, hu, hfd, h1, h2, h3, _⟩ := zui (hc.ok t ti ht) hk hf;simp only [execOp, ho, hx, Instr.fieldAt, Sem.run_bind, run_underlying hu, Result.andThen_ok, hfd, Instr.sureAddr, Sem.run_pure, fieldPlace, znp (P := P) (w := w) (t := fd.type) (by omega), h2, h3, if_false, Addr.add_lit, h1]
 unfold zen at he;split at he
 ·rename_i id i j;have h := zcw hargs;cases ht : ty t with
  | none => rw [ht] at he; cases he
  | some ti =>
   rw [ht] at he;simp only [Option.bind_some] at he;split at he
   ·rename_i fs hk;cases hob : obj id with
    | none => rw [hob] at he; cases he
    | some ob =>
     rw [hob] at he;simp only [Option.bind_some, Option.map_eq_some_iff] at he;obtain ⟨fi, hfi, rfl⟩ := he;simp only [zh] at h;obtain ⟨L, hL, hok⟩ := hH.own id ob hob;obtain ⟨hv, hp⟩ := h.2 L hL;refine zv (key ti fs fi _ _ ht hk hfi hp) (zaj.same hH ?_);simp only [zh];refine ⟨⟨h.1.1, rfl⟩, fun M hM => ?_⟩;rw [hL] at hM; cases hM;exact ⟨hv, by rw [Nat.add_assoc]⟩
   ·cases he
 ·rename_i cs;have h := zcw hargs;cases ht : ty t with
  | none => rw [ht] at he; cases he
  | some ti =>
   rw [ht] at he;simp only [Option.bind_some] at he;split at he
   ·rename_i fs hk;simp only [Option.map_eq_some_iff] at he;obtain ⟨fi, hfi, rfl⟩ := he;simp only [zh, zr] at h;obtain ⟨b, off, us, hp, hb, hr, hcell⟩ := h;refine zv (key ti fs fi _ _ ht hk hfi hp) (zaj.same hH ?_);simp only [zh, zr];exact ⟨b, off + fi.1, us.drop fi.1, rfl, hb, hr.drop fi.1, hcell.drop fi.1⟩
   ·cases he
 ·cases he

theorem part_list {t : TypeId} {ti : TI} (ht : (P.underlying t).isSome = true) {sz : Nat} (hsz : P.cellsOf t = sz) (h0 : sz ≠ 0) {b : Bool} (hb : (P.underlying t).any zgf = b) {l : List AV} {us : List Value} {off : Nat} {x : AV} (hr : zj g w l us) (hone : zbl us)
  (hx : (if b then (if off + sz <= l.length then some (mkAgg ((l.drop off).take sz)) else none) else l[off]?) = some x) : ∃ v, (part t us.toArray off).run P w = .ok v w /\ zh g w x v := by
 have hagg := run_isAgg_any (P := P) (w := w) ht;rw [hb] at hagg;cases b
 ·simp only [Bool.false_eq_true, if_false] at hx;obtain ⟨v, hv, hrep⟩ := hr.get _ _ hx;refine ⟨v, ?_, hrep⟩;have : us.toArray[off]? = some v := by simpa using hv
  simp only [part, Sem.run_bind, hagg, Result.andThen_ok, Bool.false_eq_true, if_false, this, Sem.run_pure]
 ·simp only [if_true] at hx;split at hx
  ·cases hx;have hl := hr.length;refine ⟨.agg ((us.drop off).take sz).toArray, ?_, zh.mkAgg (fun v hv => hone v (List.mem_of_mem_drop (List.mem_of_mem_take hv))) ((hr.drop off).take sz)⟩;simp only [part, Sem.run_bind, hagg, Result.andThen_ok, if_true, znp (P := P) (w := w) (t := t) (by omega), hsz, Sem.run_pure]
   congr 2
   apply Array.ext'
   simp [List.take_drop, Array.toList_extract, List.extract_eq_take_drop]
  ·cases hx

theorem field_op_sound {t : TypeId} {x : Operand} {f : Nat} (hc : Ctx P ty) (hH : zam g obj w) (ho : o.op = .field t x f) (hargs : zj g w args [a.eval x]) (he : zvx ty t f args = some e) : zfc P o a w (zaj g obj w nid e) := by
 unfold zvx at he;split at he
 ·rename_i y;have h := zcw hargs;cases ht : ty t with
  | none => rw [ht] at he; cases he
  | some ti =>
   rw [ht] at he;simp only [Option.bind_some] at he;split at he
   ·rename_i fs hk;cases hf : fs[f]? with
    | none => rw [hf] at he; cases he
    | some fi =>
     rw [hf] at he;simp only [Option.bind_some] at he;obtain ⟨fds, fd, hu, hfd, h1, h2, h3, h4, h5⟩ := zui (hc.ok t ti ht) hk hf;cases hml : aggList y with
     | none => rw [hml] at he; cases he
     | some l =>
     rw [hml] at he;simp only [Option.bind_some] at he;have hl : ∃ us : List Value, a.eval x = .agg us.toArray /\ zbl us /\ zj g w l us := by
      unfold aggList at hml;split at hml
      ·cases hml;simp only [zh, zr] at h;obtain ⟨us, hus, hone, hr⟩ := h;exact ⟨us, hus, hone, zj.of_ds hr⟩
      ·cases hml;simp only [zh] at h;exact h
      ·cases hml
     obtain ⟨us, hus, hone, hr⟩ := hl;have hx : ∃ z, e = { val := z } /\ (if fi.2.2 then (if fi.1 + fi.2.1 <= l.length then some (mkAgg ((l.drop fi.1).take fi.2.1)) else none) else l[fi.1]?) = some z := by
      by_cases hb : fi.2.2 = true
      ·simp only [hb, if_true] at he ⊢;split at he
       ·rename_i hle;cases he;exact ⟨_, rfl, by rw [if_pos hle]⟩
       ·cases he
      ·simp only [hb, Bool.false_eq_true, if_false] at he ⊢;simp only [Option.map_eq_some_iff] at he;obtain ⟨z, hz, rfl⟩ := he;exact ⟨z, rfl, hz⟩
     obtain ⟨z, rfl, hz⟩ := hx;obtain ⟨v, hrun, hrep⟩ := part_list (ti := ti) h5 h2 h3 h4 hr hone hz;refine zv (v := v) (w' := w) ?_ (zaj.same hH hrep);simp only [execOp, ho, hus, Instr.field, Sem.run_bind, run_underlying hu, Result.andThen_ok, hfd, asAgg, Sem.run_pure, h1, hrun]
   ·cases he
 ·cases he

theorem TOk.cells {t : TypeId} {ti : TI} (h : TOk P t ti) : P.cellsOf t = ti.size := by
 obtain ⟨i, z, hi, hs, _⟩ := h.info;simp [Program.cellsOf, hi, hs]

theorem index_op_sound {t : TypeId} {x y : Operand} (hc : Ctx P ty) (hH : zam g obj w) (ho : o.op = .index t x y) (hargs : zj g w args [a.eval x, a.eval y]) (he : zvw ty t args = some e) (hob : e.ob) : zfc P o a w (zaj g obj w nid e) := by
 unfold zvw at he;split at he
 ·rename_i cs k i;obtain ⟨h1, h2⟩ := zcn hargs;simp only [zh, zr] at h1 h2;obtain ⟨us, hus, hone, hr⟩ := h1;cases ht : ty t with
  | none => rw [ht] at he; cases he
  | some ti =>
   rw [ht] at he;simp only [Option.bind_some] at he;split at he
   ·rename_i n el hk;cases hte : ty el with
    | none => rw [hte] at he; cases he
    | some te =>
     rw [hte] at he;simp only [Option.bind_some] at he;have hu := zqe (hc.ok t ti ht) hk;have hl := hr.length;have hra : zj g w (cs.map AV.d) us := zj.of_ds hr;have go : ∀ v, (part el us.toArray (i.toNat * te.size)).run P w = .ok v w -> 0 <= i -> i < (n : Int) -> (execOp a.eval o).run P w = .ok (.value v) w := by
      intro v hrun h0 h1;simp only [execOp, ho, hus, h2, Instr.index, Sem.run_bind, asIntOf, Sem.run_pure, Result.andThen_ok, run_underlying hu];rw [if_pos ⟨h0, h1⟩];simp only [Sem.run_bind, (hc.ok el te hte).sizeOf, Result.andThen_ok, hrun]
     split at he
     ·rename_i hagg;cases he;obtain ⟨o1, o2, o3⟩ := hob;have hsz : te.size ≠ 0 \/ te.size = 0 := by omega
      have hrun : (part el us.toArray (i.toNat * te.size)).run P w = .ok (.agg ((us.drop (i.toNat * te.size)).take te.size).toArray) w := by
       simp only [part, Sem.run_bind, (hc.ok el te hte).agg, Result.andThen_ok, hagg, if_true, (hc.ok el te hte).sizeOf, Sem.run_pure]
       congr 2
       apply Array.ext'
       simp [List.take_drop, Array.toList_extract, List.extract_eq_take_drop]
      refine zv (go _ hrun o1 o2) (zaj.same hH ?_);simp only [zh, zr];exact ⟨_, rfl, fun v hv => hone v (List.mem_of_mem_drop (List.mem_of_mem_take hv)), (hr.drop _).take _⟩
     ·rename_i hagg;simp only [Option.map_eq_some_iff] at he;obtain ⟨z, hz, rfl⟩ := he;obtain ⟨o1, o2⟩ := hob;obtain ⟨v, hv, hrep⟩ := hr.get _ _ hz;have hrun : (part el us.toArray (i.toNat * te.size)).run P w = .ok v w := by
       have : us.toArray[i.toNat * te.size]? = some v := by simpa using hv
       simp only [part, Sem.run_bind, (hc.ok el te hte).agg, Result.andThen_ok, hagg, Bool.false_eq_true, if_false, this, Sem.run_pure]
      exact zv (go _ hrun o1 o2) (zaj.same hH (by simpa only [zh] using hrep))
   ·cases he
 ·cases he

theorem extract_op_sound {x : Operand} {ix : Nat} (hH : zam g obj w) (ho : o.op = .extract x ix) (hargs : zj g w args [a.eval x]) (he : zoj ix args = some e) : zfc P o a w (zaj g obj w nid e) := by
 unfold zoj at he;split at he
 ·have h := zcw hargs;simp only [zh, zr] at h;obtain ⟨vs, hvs, hr⟩ := h;simp only [Option.map_eq_some_iff] at he;obtain ⟨z, hz, rfl⟩ := he;obtain ⟨v, hv, hrep⟩ := hr.get _ _ hz;refine zv (v := v) (w' := w) ?_ (zaj.same hH (by simpa only [zh] using hrep));have : vs.toArray[ix]? = some v := by simpa using hv
  simp only [execOp, ho, hvs, Instr.extract, this, Sem.run_bind, Sem.run_pure, Result.andThen_ok]
 ·have h := zcw hargs;simp only [zh] at h;obtain ⟨vs, hvs, hr⟩ := h;simp only [Option.map_eq_some_iff] at he;obtain ⟨z, hz, rfl⟩ := he;obtain ⟨v, hv, hrep⟩ := hr.get _ _ hz;refine zv (v := v) (w' := w) ?_ (zaj.same hH hrep);have : vs.toArray[ix]? = some v := by simpa using hv
  simp only [execOp, ho, hvs, Instr.extract, this, Sem.run_bind, Sem.run_pure, Result.andThen_ok]
 ·cases he

theorem zvb {fn : Fn} {first caps : Array Operand} (hH : zam g obj w) (ho : o.op = .makeFunc fn first caps) (hargs : zj g w args ((first ++ caps).toList.map a.eval)) (he : zln fn first.size args = some e) : zfc P o a w (zaj g obj w nid e) := by
 unfold zln at he;split at he
 ·rename_i h0;split at he
  case isFalse => cases he
  rename_i hok;cases he;have hf : first = #[] := Array.eq_empty_of_size_eq_zero h0
  subst hf;refine zv (v := .func fn #[] (caps.map a.eval)) (w' := w) ?_ (zaj.same hH ?_)
  ·simp [execOp, ho, Instr.makeFunc]
  ·have hr : zj g w args (caps.toList.map a.eval) := by simpa using hargs
   simp only [zh];exact ⟨caps.toList.map a.eval, by rw [mkFn_plain (zuv hok hr)]; congr 1; apply Array.ext'; simp, hr⟩
 ·split at he
  case isFalse => cases he
  rename_i hle;cases he;refine zv (v := .func fn (first.map a.eval) (caps.map a.eval)) (w' := w) ?_ (zaj.same hH ?_)
  ·simp [execOp, ho, Instr.makeFunc]
  ·have hr : zj g w (args.take first.size ++ args.drop first.size) (first.toList.map a.eval ++ caps.toList.map a.eval) := by
    rw [List.take_append_drop]; simpa using hargs
   obtain ⟨h1, h2⟩ := zj.split hr (by simp; omega);simp only [zh, zj];refine ⟨.tuple (first.toList.map a.eval).toArray :: caps.toList.map a.eval, ?_, _, _, rfl, ⟨_, rfl, h1⟩, h2⟩;simp only [mkFn]
   congr 1 <;> (apply Array.ext'; simp)

theorem ztj {t : TypeId} {x y : Operand} (hc : Ctx P ty) (hH : zam g obj w) (hid : ¬ g.used nid) (ho : o.op = .makeSlice t x y) (hargs : zj g w args [a.eval x, a.eval y]) (he : zjq ty t nid args = some e) (hob : e.ob) : zfc P o a w (zaj g obj w nid e) := by
 unfold zjq at he;split at he
 ·rename_i k l k' c;obtain ⟨h1, h2⟩ := zcn hargs;simp only [zh, zr] at h1 h2;cases ht : ty t with
  | none => rw [ht] at he; cases he
  | some ti =>
   rw [ht] at he;simp only [Option.bind_some] at he;split at he
   ·rename_i el hk;cases hte : ty el with
    | none => rw [hte] at he; cases he
    | some te =>
     rw [hte] at he;simp only [Option.bind_some] at he;split at he
     ·cases he
     ·rename_i hpos;cases he;obtain ⟨o2, olc, o3, o4⟩ := hob;have hu := zek (hc.ok t ti ht) hk;obtain ⟨i, z, hi, hsz, hby, hz, hzc, hzs, hzo⟩ := (hc.ok el te hte).info;obtain ⟨z', hz', hr, hone, hzl, hzs'⟩ := (hc.ok el te hte).zero g w;have hzz : z' = z := by
       have : (zeroValue el).run P w = .ok z w := by simp [zeroValue, typeInfo, hi, hz]
       rw [hz'] at this;cases this; rfl
      subst hzz;have hrun := run_make (P := P) w t el i z' hu hi hz k k' l c o2 olc (by rw [hby]; exact o3) o4;obtain ⟨hmr, hmo⟩ := made_rep hr hone c.toNat (by omega);obtain ⟨g', b1, b2, b3, b4, b5, b6⟩ := new_sound hH hid ⟨el, te.size, List.replicate l.toNat te.zero⟩ (madeCells z'.cells (c.toNat * i.size)) c.toNat (Nat.pos_of_ne_zero hpos) (by rw [size_madeCells, hsz]) (by simp; omega) (by simp only [maxLen]; omega)
       (fun j row hj => by
        rw [List.getElem?_replicate] at hj;split at hj
        ·rename_i hlt;cases hj;refine ⟨hzl, fun q av hq => ?_⟩;have hqm : q < te.zero.length := (List.getElem?_eq_some_iff.1 hq).1;have hidx : j * te.size + q < c.toNat * te.zero.length := by
          have := Nat.mul_le_mul_right te.size (show j + 1 <= c.toNat by omega);rw [Nat.succ_mul] at this;rw [hzl] at hqm ⊢;omega
         have hrg : (rep c.toNat te.zero)[j * te.size + q]? = some av := by
          rw [rep_get _ _ _ hidx, hzl];rw [show (j * te.size + q) % te.size = q by rw [Nat.mul_comm, Nat.mul_add_mod]; exact Nat.mod_eq_of_lt (by rw [<- hzl]; exact hqm)];exact hq
         obtain ⟨u, hu', hrep⟩ := hmr.get _ _ hrg;rw [hzl, <- hsz] at hu' hmo;exact ⟨u, by rw [Array.getElem?_toList] at hu'; show (madeCells z'.cells (c.toNat * i.size))[j * te.size + q]? = some u; rw [<- hsz]; exact hu', hmo u (List.mem_of_getElem? hu'), hrep⟩
        ·cases hj) w (.inl rfl)
      refine zv (v := .slice (some ⟨w.heap.size, 0, none⟩) l.toNat c.toNat) (w' := w.alloc (.cells (madeCells z'.cells (c.toNat * i.size)) el)) ?_ ⟨g', b3, b4, b5, b6, ztd b2 b1 ⟨rfl, rfl⟩ (by show l.toNat <= c.toNat; omega)⟩;simp only [execOp, ho, h1, h2, Sem.run_bind, hrun, Result.andThen_ok, Sem.run_pure]
   ·cases he
 ·cases he


theorem zqd {t kt et : TypeId} {ti : TI} (h : TOk P t ti) (hk : ti.kind = .map kt et) : P.underlying t = some (.map kt et) := by have := h.kind; rw [hk] at this; exact this

theorem makeMap_op_sound {t : TypeId} (hH : zam g obj w) (hid : ¬ g.used nid) (ho : o.op = .makeMap t none) (hargs : zj g w args []) (he : zoi t nid args = some e) : zfc P o a w (zaj g obj w nid e) := by
 unfold zoi at he;split at he
 ·cases he;refine zv (v := .map (some w.heap.size)) (w' := w.alloc (.map #[] 0)) ?_ (makeMap_sound hH hid t);simp only [execOp, ho, Option.map_none, Sem.run_bind, run_makeMap, Result.andThen_ok, Sem.run_pure]
 ·cases he

theorem lookup_op_sound {t : TypeId} {m x : Operand} {ok : Bool} {orc : Option Res} (hc : Ctx P ty) (hH : zam g obj w) (ho : o.op = .lookup t m x ok) (hargs : zj g w args [a.eval m, a.eval x]) (he : znb ty t ok orc obj args = some e) (hob : e.ob) : zfc P o a w (zaj g obj w nid e) := by
 unfold znb at he;split at he
 ·rename_i av k;obtain ⟨h1, h2⟩ := zcn hargs;simp only [zh] at h2;cases ht : ty t with
  | none => rw [ht] at he; cases he
  | some ti =>
   rw [ht] at he;simp only [Option.bind_some] at he;split at he
   ·rename_i kt et hk;have hu := zqd (hc.ok t ti ht) hk;cases hkt : ty kt with
    | none => rw [hkt] at he; cases he
    | some kti =>
     cases het : ty et with
     | none => rw [hkt, het] at he; cases he
     | some eti =>
      rw [hkt, het] at he;simp only [Option.bind_some] at he;cases hr : zny obj av with
      | none => rw [hr] at he; cases he
      | some rows =>
       rw [hr] at he;simp only [Option.bind_some] at he;split at he
       ·rename_i d;cases he;obtain ⟨hf, hl⟩ := hob;have hm : ∃ b es clock, a.eval m = .map (some b) /\ w.heap[b]? = some (.map es clock) /\ zad g w rows es.toList := by
         unfold zny at hr;split at hr
         ·rename_i id;simp only [Option.map_eq_some_iff] at hr;obtain ⟨ob, hobj, rfl⟩ := hr;obtain ⟨L, hL, hok⟩ := hH.own id ob hobj;simp only [zh] at h1;obtain ⟨hv, hve⟩ := h1.2 L hL;obtain ⟨_, es, clock, e1, e2, e3⟩ := hok.ents hv;exact ⟨L.blk, es, clock, hve, e1, e3⟩
         ·cases hr;simp only [zh, zr] at h1;obtain ⟨b, es, clock, e1, _, e2, e3⟩ := h1;exact ⟨b, es, clock, e1, e2, zad.of_ents e3⟩
         ·cases hr
        obtain ⟨b, es, clock, e1, e2, e3⟩ := hm;obtain ⟨v, hrun, hrep⟩ := lookup_sound hu (hc.ok kt kti hkt) (hc.ok et eti het) e2 e3 hf h2 hl;refine zv (v := v) (w' := w) ?_ (zaj.same hH (by simpa only [zh] using hrep));simp only [execOp, ho, e1, Sem.run_bind, hrun, Result.andThen_ok, Sem.run_pure]
       ·cases he
   ·cases he
 ·cases he

theorem zth {t : TypeId} {m x y : Operand} (hc : Ctx P ty) (hH : zam g obj w) (ho : o.op = .mapUpdate t m x y) (hargs : zj g w args [a.eval m, a.eval x, a.eval y]) (he : zhi ty t obj args = some e) (hob : e.ob) : zfc P o a w (zaj g obj w nid e) := by
 unfold zhi at he;split at he
 ·rename_i id k av;obtain ⟨h1, h2, h3⟩ := three_args hargs;have h2' := h2;simp only [zh] at h2';cases ht : ty t with
  | none => rw [ht] at he; cases he
  | some ti =>
   rw [ht] at he;simp only [Option.bind_some] at he;split at he
   ·rename_i kt et hk;have hu := zqd (hc.ok t ti ht) hk;cases hkt : ty kt with
    | none => rw [hkt] at he; cases he
    | some kti =>
     cases hobj : obj id with
     | none => rw [hkt, hobj] at he; cases he
     | some ob =>
      rw [hkt, hobj] at he;simp only [Option.bind_some, Option.map_eq_some_iff] at he;obtain ⟨rows', hp, rfl⟩ := he;obtain ⟨w', g', hrun, hH', hS, hL, hu'⟩ := mapUpdate_sound hH hu (hc.ok kt kti hkt) hobj h1 hob h2' h3 hp;refine does_skip (w' := w') ?_ ⟨g', by simpa [zcu] using hH', hS, hL, fun k hk => .inl (hu' k hk), by simp [zh]⟩;simp only [execOp, ho, Sem.run_bind, hrun, Result.andThen_ok, Sem.run_pure]
   ·cases he
 ·cases he

theorem delete_op_sound {t kt' : TypeId} {m kv : Value} (hc : Ctx P ty) (hH : zam g obj w) (hargs : zj g w args [m, kv]) (he : zih ty t obj args = some e) (hob : e.ob) :
  ∃ w', (Builtin.delete_ #[t, kt'] 0 #[m, kv]).run P w = .ok (.tuple #[]) w' /\ zaj g obj w nid e (.tuple #[]) w' := by
 unfold zih at he;split at he
 ·rename_i id k;obtain ⟨h1, h2⟩ := zcn hargs;have h2' := h2;simp only [zh] at h2';cases ht : ty t with
  | none => rw [ht] at he; cases he
  | some ti =>
   rw [ht] at he;simp only [Option.bind_some] at he;split at he
   ·rename_i kt et hk;have hu := zqd (hc.ok t ti ht) hk;cases hkt : ty kt with
    | none => rw [hkt] at he; cases he
    | some kti =>
     cases hobj : obj id with
     | none => rw [hkt, hobj] at he; cases he
     | some ob =>
      rw [hkt, hobj] at he;simp only [Option.bind_some, Option.map_eq_some_iff] at he;obtain ⟨rows', hp, rfl⟩ := he;obtain ⟨w', g', hrun, hH', hS, hL, hu'⟩ := delete_sound (kt' := kt') (ty' := 0) hH hu (hc.ok kt kti hkt) hobj h1 hob h2' hp;exact ⟨w', hrun, g', by simpa [zcu] using hH', hS, hL, fun k hk => .inl (hu' k hk), by simp [zh, zj]⟩
   ·cases he
 ·cases he
end
end Go.Abs

namespace Go.Abs
variable [Flag]
open Go.RowKit
section
variable {P : Program} {ty : TypeId -> Option TI} {o : Oper} {a : Act} {g : G} {obj : Nat -> Option Ob} {w : World} {nid : Nat} {args : List AV} {e : Eff}

theorem zqv (b o n : Nat) : (⟨b, o, none⟩ : Addr).add n = ⟨b, o + n, none⟩ := Addr.add_lit b o n

theorem zlj {t el : TypeId} {te : TI} (hu : P.underlying t = some (.slice el)) (hte : TOk P el te) {b off len cap : Nat} {k : IntKind} {i : Int} (h0 : 0 <= i) (h1 : i < (len : Int)) :
  (Instr.indexAt t (.slice (some ⟨b, off, none⟩) len cap) (.int k i)).run P w = .ok (.pointer (some ⟨b, off + i.toNat * te.size, none⟩)) w := by
 simp only [Instr.indexAt, Sem.run_bind, asIntOf, Sem.run_pure, Result.andThen_ok, run_underlying hu];rw [if_pos ⟨h0, h1⟩];simp only [Sem.run_bind, hte.sizeOf, Result.andThen_ok, Sem.run_pure, zqv]

theorem zox {t el : TypeId} {te : TI} {n : Nat} (hu : P.underlying t = some (.array n el)) (hte : TOk P el te) {b off : Nat} {k : IntKind} {i : Int} (h0 : 0 <= i) (h1 : i < (n : Int)) :
  (Instr.indexAt t (.pointer (some ⟨b, off, none⟩)) (.int k i)).run P w = .ok (.pointer (some ⟨b, off + i.toNat * te.size, none⟩)) w := by
 simp only [Instr.indexAt, Sem.run_bind, asIntOf, Sem.run_pure, Result.andThen_ok, run_underlying hu, Instr.sureAddr];rw [if_pos ⟨h0, h1⟩];simp only [Sem.run_bind, hte.sizeOf, Result.andThen_ok, Sem.run_pure, zqv]

theorem ztm {t : TypeId} {x y : Operand} (hc : Ctx P ty) (hH : zam g obj w) (ho : o.op = .indexAddr t x y) (hargs : zj g w args [a.eval x, a.eval y]) (he : zem ty t obj args = some e) (hob : e.ob) : zfc P o a w (zaj g obj w nid e) := by
 unfold zem at he;split at he
 ·rename_i id off len k i;obtain ⟨h1, h2⟩ := zcn hargs;simp only [zh, zr] at h1 h2;cases ht : ty t with
  | none => rw [ht] at he; cases he
  | some ti =>
   rw [ht] at he;simp only [Option.bind_some] at he;split at he
   ·rename_i el hk;cases hte : ty el with
    | none => rw [hte] at he; cases he
    | some te =>
     rw [hte] at he;cases hobj : obj id with
     | none => rw [hobj] at he; cases he
     | some ob =>
      rw [hobj] at he;simp only [Option.bind_some] at he;split at he
      ·rename_i hm;cases he;obtain ⟨o1, o2⟩ := hob;obtain ⟨L, hL, hok⟩ := hH.own id ob hobj;rcases h1.2 L hL with ⟨_, _, hl0, _⟩ | ⟨hv, hle, hx⟩
       ·exfalso; rw [hl0] at o2; simp only [Int.natCast_zero] at o2; omega
       ·have hmL : L.m = te.size := by rw [hok.m, hm]
        refine zv (v := .pointer (some ⟨L.blk, off * L.m + i.toNat * te.size, none⟩)) (w' := w) ?_ (zaj.same hH ?_)
        ·simp only [execOp, ho, hx, h2, Sem.run_bind, zlj (zek (hc.ok t ti ht) hk) (hc.ok el te hte) o1 o2, Result.andThen_ok, Sem.run_pure]
        ·simp only [zh];refine ⟨⟨h1.1.1, rfl⟩, fun M hM => ?_⟩;rw [hL] at hM; cases hM;exact ⟨hv, by rw [hmL, Nat.add_zero, Nat.add_mul]⟩
      ·cases he
   ·cases he
 ·rename_i rows k i;obtain ⟨h1, h2⟩ := zcn hargs;simp only [zh, zr] at h1 h2;cases ht : ty t with
  | none => rw [ht] at he; cases he
  | some ti =>
   rw [ht] at he;simp only [Option.bind_some] at he;split at he
   ·rename_i el hk;cases hte : ty el with
    | none => rw [hte] at he; cases he
    | some te =>
     rw [hte] at he;simp only [Option.bind_some, Option.map_eq_some_iff] at he;obtain ⟨r, hr, rfl⟩ := he;obtain ⟨o1, o2⟩ := hob;obtain ⟨ad, cap, hv, hcap, hmax, hrows⟩ := h1;have hlt : i.toNat < rows.length := (List.getElem?_eq_some_iff.1 hr).1;rcases hrows with rfl | ⟨b, off, m, rfl, hb, hrr⟩
     ·simp at hr
     ·obtain ⟨us, hul, hur, huc⟩ := hrr.get _ _ hr;have hm : m = te.size := by rw [<- hul, hur.length, o2]
      subst hm;refine zv (v := .pointer (some ⟨b, off + i.toNat * te.size, none⟩)) (w' := w) ?_ (zaj.same hH ?_)
      ·simp only [execOp, ho, hv, h2, Sem.run_bind, zlj (zek (hc.ok t ti ht) hk) (hc.ok el te hte) o1 (show i < (rows.length : Int) by omega), Result.andThen_ok, Sem.run_pure]
      ·simp only [zh, zr];exact ⟨b, _, us, rfl, hb, hur, huc⟩
   ·cases he
 ·rename_i id i0 j k i;obtain ⟨h1, h2⟩ := zcn hargs;simp only [zh, zr] at h1 h2;cases ht : ty t with
  | none => rw [ht] at he; cases he
  | some ti =>
   rw [ht] at he;simp only [Option.bind_some] at he;split at he
   ·rename_i n el hk;cases hte : ty el with
    | none => rw [hte] at he; cases he
    | some te =>
     rw [hte] at he;simp only [Option.bind_some] at he;split at he
     ·cases he
     ·simp only [Option.map_eq_some_iff] at he;obtain ⟨ob, hobj, rfl⟩ := he;obtain ⟨o1, o2⟩ := hob;obtain ⟨L, hL, hok⟩ := hH.own id ob hobj;obtain ⟨hv, hx⟩ := h1.2 L hL;refine zv (v := .pointer (some ⟨L.blk, i0 * L.m + j + i.toNat * te.size, none⟩)) (w' := w) ?_ (zaj.same hH ?_)
      ·simp only [execOp, ho, hx, h2, Sem.run_bind, zox (zqe (hc.ok t ti ht) hk) (hc.ok el te hte) o1 o2, Result.andThen_ok, Sem.run_pure]
      ·simp only [zh];refine ⟨⟨h1.1.1, rfl⟩, fun M hM => ?_⟩;rw [hL] at hM; cases hM;exact ⟨hv, by rw [Nat.add_assoc]⟩
   ·cases he
 ·rename_i cs k i;obtain ⟨h1, h2⟩ := zcn hargs;simp only [zh, zr] at h1 h2;cases ht : ty t with
  | none => rw [ht] at he; cases he
  | some ti =>
   rw [ht] at he;simp only [Option.bind_some] at he;split at he
   ·rename_i n el hk;cases hte : ty el with
    | none => rw [hte] at he; cases he
    | some te =>
     rw [hte] at he;simp only [Option.bind_some] at he;split at he
     ·cases he
     ·cases he;obtain ⟨o1, o2⟩ := hob;obtain ⟨b, off, us, hx, hb, hr, hcell⟩ := h1;refine zv (v := .pointer (some ⟨b, off + i.toNat * te.size, none⟩)) (w' := w) ?_ (zaj.same hH ?_)
      ·simp only [execOp, ho, hx, h2, Sem.run_bind, zox (zqe (hc.ok t ti ht) hk) (hc.ok el te hte) o1 o2, Result.andThen_ok, Sem.run_pure]
      ·simp only [zh, zr];exact ⟨b, _, _, rfl, hb, hr.drop _, hcell.drop _⟩
   ·cases he
 ·cases he

theorem sliceBounds_run {len cap : Nat} {lo hi : Option Value} {l h : Int} (hlo : (lo = none /\ l = 0) \/ ∃ k, lo = some (.int k l)) (hhi : (hi = none /\ h = len) \/ ∃ k, hi = some (.int k h)) (h0 : 0 <= l) (h1 : l <= h) (h2 : h <= (len : Int)) (hcap : len <= cap) :
  (Instr.sliceBounds true len cap lo hi none).run P w = .ok (l.toNat, h.toNat, cap) w := by
 have b1 : ∀ k, (Instr.sliceBound (.int k h) cap .sliceAcap).run P w = .ok h.toNat w := fun k => by
  simp only [Instr.sliceBound, asIntOf, Sem.run_bind, Sem.run_pure, Result.andThen_ok];rw [if_pos ⟨by omega, by omega⟩];simp
 have b2 : ∀ k, (Instr.sliceBound (.int k l) h.toNat .sliceB).run P w = .ok l.toNat w := fun k => by
  simp only [Instr.sliceBound, asIntOf, Sem.run_bind, Sem.run_pure, Result.andThen_ok];rw [if_pos ⟨h0, by omega⟩];simp
 rcases hlo with ⟨rfl, rfl⟩ | ⟨k, rfl⟩ <;> rcases hhi with ⟨rfl, rfl⟩ | ⟨k', rfl⟩
 ·simp [Instr.sliceBounds]
 ·simp [Instr.sliceBounds, b1]
 ·have b2' := b2 k;simp at b2';simp [Instr.sliceBounds, b2']
 ·simp [Instr.sliceBounds, b1, b2]

theorem sliceArgs_sound {lo hi : Option Operand} {rest : List AV} {b : Option Int × Option Int} (hb : zhw lo.isSome hi.isSome rest = some b) (hrest : zj g w rest (lo.toList.map a.eval ++ hi.toList.map a.eval)) (n : Nat) :
  ((lo.map a.eval = none /\ b.1.getD 0 = 0) \/ ∃ k, lo.map a.eval = some (.int k (b.1.getD 0))) /\ ((hi.map a.eval = none /\ b.2.getD n = n) \/ ∃ k, hi.map a.eval = some (.int k (b.2.getD n))) := by
 unfold zhw at hb;split at hb
 ·rename_i h1 h2;cases hb;simp only [Option.isSome_eq_false_iff, Option.isNone_iff_eq_none] at h1 h2;subst h1; subst h2;exact ⟨.inl ⟨rfl, rfl⟩, .inl ⟨rfl, rfl⟩⟩
 ·rename_i h1 h2;cases hb;obtain ⟨p, rfl⟩ := Option.isSome_iff_exists.1 h1;simp only [Option.isSome_eq_false_iff, Option.isNone_iff_eq_none] at h2;subst h2;have h := zcw hrest;simp only [zh, zr] at h;exact ⟨.inr ⟨_, by simp [h]; rfl⟩, .inl ⟨rfl, rfl⟩⟩
 ·rename_i h1 h2;cases hb;obtain ⟨p, rfl⟩ := Option.isSome_iff_exists.1 h2;simp only [Option.isSome_eq_false_iff, Option.isNone_iff_eq_none] at h1;subst h1;have h := zcw hrest;simp only [zh, zr] at h;exact ⟨.inl ⟨rfl, rfl⟩, .inr ⟨_, by simp [h]; rfl⟩⟩
 ·rename_i h1 h2;cases hb;obtain ⟨p, rfl⟩ := Option.isSome_iff_exists.1 h1;obtain ⟨q, rfl⟩ := Option.isSome_iff_exists.1 h2;obtain ⟨h, h'⟩ := zcn hrest;simp only [zh, zr] at h h';exact ⟨.inr ⟨_, by simp [h]; rfl⟩, .inr ⟨_, by simp [h']; rfl⟩⟩
 ·cases hb

def frozen (g : G) (id : Nat) : G := ⟨fun b => g.ro b \/ ∃ L, g.loc id = some L /\ L.virt = false /\ b = L.blk, fun x => if x = id then none else g.loc x, g.used⟩

theorem zft {g : G} {w : World} {id : Nat} : zbs g w (frozen g id) w := ⟨fun b hb => ⟨.inl hb, rfl⟩, fun _ h => h, fun x _ => by simp only [frozen]; split <;> simp⟩

theorem freeze_rel {id : Nat} {L : Loc} (h : zam g obj w) (hL : g.loc id = some L) : zam (frozen g id) (zbh obj id none) w /\ zan g w (frozen g id) w := by
 have hloc : ∀ x M, (frozen g id).loc x = some M -> x ≠ id /\ g.loc x = some M := by
  intro x M hx;simp only [frozen] at hx;split at hx
  ·cases hx
  ·rename_i e; exact ⟨e, hx⟩
 refine ⟨⟨?_, ?_, ?_, ?_, ?_⟩, ⟨rfl, ⟨rfl, .inr (Nat.le_refl _)⟩, rfl, Nat.le_refl _, fun _ _ _ => rfl, ?_, fun _ hb => .inl hb, ?_⟩⟩
 ·intro x o hx;simp only [zbh] at hx;split at hx
  ·cases hx
  ·rename_i e;obtain ⟨M, hM, hok⟩ := h.own x o hx;exact ⟨M, by simp [frozen, e, hM], hok.later zft fun _ => rfl⟩
 ·intro x hx;simp only [zbh] at hx;split at hx
  ·rename_i e; simp [frozen, e]
  ·rename_i e; simp [frozen, e, h.gone x hx]
 ·intro x M hx;obtain ⟨e, hM⟩ := hloc x M hx;refine ⟨(h.live x M hM).1, fun hv => ⟨((h.live x M hM).2 hv).1, ?_⟩⟩;rintro (hro | ⟨L', hL', hv', hb⟩)
  ·exact ((h.live x M hM).2 hv).2 hro
  ·exact e (h.inj x id M L' hM hL' hv hv' hb)
 ·intro x y M M' hx hy hv hv' hb;exact h.inj x y M M' (hloc x M hx).2 (hloc y M' hy).2 hv hv' hb
 ·rintro b (hro | ⟨L', hL', hv', rfl⟩)
  ·exact h.ro b hro
  ·exact ((h.live id L' hL').2 hv').1
 ·rintro b ⟨x, M, hx, hv, rfl⟩;exact .inr ⟨x, M, (hloc x M hx).2, hv, rfl⟩
 ·rintro b (hro | ⟨L', hL', hv', rfl⟩)
  ·exact .inl hro
  ·exact .inr (.inr ⟨id, L', hL', hv', rfl⟩)

theorem sliceArgs_none {lo hi : Bool} {rest : List AV} {b : Option Int × Option Int} (h : zhw lo hi rest = some b) (h1 : b.1.isNone = true) (h2 : b.2.isNone = true) : lo = false /\ hi = false := by
 unfold zhw at h;split at h
 ·exact ⟨rfl, rfl⟩
 ·cases h; cases h1
 ·cases h; cases h2
 ·cases h; cases h1
 ·cases h

theorem zmb : ∀ (n m : Nat) (l : List D), (zop n m l).length = n
 | 0, _, _ => rfl
 | n + 1, m, l => by simp only [zop, List.length_cons, zmb n m]

theorem chunkD_rep {ro : Nat -> Prop} {b m : Nat} : ∀ (n : Nat) (ds : List D) (us : List Value) (o : Nat), n * m <= ds.length -> zq ro w ds us -> zch w b o us -> zau ro w b m o (zop n m ds)
 | 0, _, _, _, _, _, _ => by simp [zop, zau]
 | n + 1, ds, us, o, hl, hr, hc => by
  rw [Nat.succ_mul] at hl;simp only [zop, zau];refine ⟨⟨us.take m, by rw [List.length_take, hr.length]; omega, hr.take m, hc.take m⟩, ?_⟩;exact chunkD_rep n (ds.drop m) (us.drop m) (o + m) (by simp; omega) (hr.drop m) (hc.drop m)

theorem sliceArr_sound {t el : TypeId} {n : Nat} {te : TI} {x : Operand} (hte : TOk P el te) (hu : P.underlying t = some (.array n el)) (hH : zam g obj w) (ho : o.op = .slice t x none none none) {y : AV}
  {b : Option Int × Option Int} (he : (match y with | .ptr id i j => (obj id).bind fun o => (o.rows[i]?).bind fun row => (allD (row.drop j)).bind fun ds =>
   if b.1.isNone /\ b.2.isNone /\ te.size ≠ 0 /\ n ≠ 0 /\ n <= 65536 /\ n * te.size <= ds.length then some ({ val := .d (.sl (zop n te.size ds)), wr := [(id, none)] } : Eff) else none | _ => none) = some e) (hy : zh g w y (a.eval x)) : zfc P o a w (zaj g obj w nid e) := by
 split at he
 ·rename_i id i j;cases hob : obj id with
  | none => rw [hob] at he; cases he
  | some ob =>
   rw [hob] at he;simp only [Option.bind_some] at he;cases hrow : ob.rows[i]? with
   | none => rw [hrow] at he; cases he
   | some row =>
    rw [hrow] at he;simp only [Option.bind_some] at he;cases had : allD (row.drop j) with
    | none => rw [had] at he; cases he
    | some ds =>
     rw [had] at he;simp only [Option.bind_some] at he;split at he
     ·rename_i hcond;obtain ⟨_, _, hsz, hn0, hn, hlen⟩ := hcond;cases he;obtain ⟨L, hL, hok⟩ := hH.own id ob hob;simp only [zh] at hy;obtain ⟨hv, hx⟩ := hy.2 L hL;obtain ⟨us, hul, hur, huc⟩ := hok.row hv hrow;obtain ⟨h1, h2⟩ := freeze_rel (id := id) hH hL;have hds := zj.allD had (hur.drop j);have hrun : (execOp a.eval o).run P w = .ok (.value (.slice (some ⟨L.blk, i * L.m + j, none⟩) n n)) w := by
       have hb : (Instr.sliceBounds false n n none none none).run P w = .ok (0, n, n) w := by simp [Instr.sliceBounds]
       simp only [execOp, ho, hx, Sem.run_bind, Instr.sliceAt, run_underlying hu, Result.andThen_ok, Instr.sureAddr, Sem.run_pure, Option.map_none, hb, hte.sizeOf];rw [if_neg hn0];simp [zqv]
      refine zv hrun ⟨frozen g id, by simpa [zcu] using h1, h2, zft, fun k hk => .inl hk, ?_⟩;simp only [zh, zr];refine ⟨_, n, by rw [zmb], by rw [zmb]; exact Nat.le_refl _, by simp only [maxLen]; omega, .inr ⟨L.blk, i * L.m + j, te.size, rfl, .inr ⟨L, hL, hv.1, rfl⟩, ?_⟩⟩;exact chunkD_rep n ds (us.drop j) _ hlen (zq.mono (fun b hb => ⟨.inl hb, rfl⟩) _ _ hds) (huc.drop j)
     ·cases he
 ·cases he

theorem slice_op_sound {t : TypeId} {x : Operand} {lo hi : Option Operand} (hc : Ctx P ty) (hH : zam g obj w) (ho : o.op = .slice t x lo hi none) (hargs : zj g w args (a.eval x :: (lo.toList.map a.eval ++ hi.toList.map a.eval)))
  (he : zna ty t obj lo.isSome hi.isSome args = some e) (hob : e.ob) : zfc P o a w (zaj g obj w nid e) := by
 cases args with
 | nil => simp [zna] at he
 | cons y rest =>
  simp only [zj] at hargs;obtain ⟨v, vs, heq, hy, hrest⟩ := hargs;simp only [List.cons.injEq] at heq;obtain ⟨rfl, rfl⟩ := heq;simp only [zna] at he;cases hb : zhw lo.isSome hi.isSome rest with
  | none => rw [hb] at he; cases he
  | some b =>
   rw [hb] at he;have hbs := fun n => sliceArgs_sound (a := a) hb hrest n;cases ht : ty t with
   | none => rw [ht] at he; cases he
   | some ti =>
    rw [ht] at he;simp only [Option.bind_some] at he;split at he
    ·rename_i el hk;cases hte : ty el with
     | none => rw [hte] at he; cases he
     | some te =>
      rw [hte] at he;simp only [Option.bind_some] at he;have hu := zek (hc.ok t ti ht) hk;have go : ∀ (ad : Option Addr) (len cap : Nat), a.eval x = .slice ad len cap -> len <= cap -> 0 <= b.1.getD 0 -> b.1.getD 0 <= b.2.getD len -> b.2.getD len <= len ->
        (execOp a.eval o).run P w = .ok (.value (.slice (if cap = (b.1.getD 0).toNat then ad else ad.map (·.add ((b.1.getD 0).toNat * te.size))) ((b.2.getD len).toNat - (b.1.getD 0).toNat) (cap - (b.1.getD 0).toNat))) w := by
       intro ad len cap hx hcap h0 h1 h2;obtain ⟨q1, q2⟩ := hbs len;simp only [execOp, ho, hx, Sem.run_bind, Instr.sliceAt, run_underlying hu, Result.andThen_ok, Instr.slice, sliceBounds_run q1 q2 h0 h1 h2 hcap, (hc.ok el te hte).sizeOf, Sem.run_pure, Option.map_none]
      split at he
      ·rename_i rows;cases he;obtain ⟨o1, o2, o3, o4⟩ := hob;simp only [zh, zr] at hy;obtain ⟨ad, cap, hv, hcap, hmax, hrows⟩ := hy;refine zv (go ad rows.length cap hv hcap o1 o2 o3) (zaj.same hH ?_);simp only [zh, zr];have hlen : ((rows.take (b.2.getD rows.length).toNat).drop (b.1.getD 0).toNat).length = (b.2.getD rows.length).toNat - (b.1.getD 0).toNat := by
        rw [List.length_drop, List.length_take, Nat.min_eq_left (by omega)]
       refine ⟨_, _, by rw [hlen], by rw [hlen]; omega, by omega, ?_⟩;by_cases hz : ((rows.take (b.2.getD rows.length).toNat).drop (b.1.getD 0).toNat) = []
       ·exact .inl hz
       ·right
        have hne : ¬ cap = (b.1.getD 0).toNat := by
         intro hcc;apply hz
         apply List.eq_nil_of_length_eq_zero
         rw [hlen]; omega
        rcases hrows with rfl | ⟨bk, off, m, rfl, hro, hrr⟩
        ·simp at hz
        ·have hm : m = te.size := by
          cases rows with
          | nil => simp at hz
          | cons r rs =>
           obtain ⟨us, hul, hur, _⟩ := hrr.get 0 r rfl;rw [<- hul, hur.length];exact o4 r List.mem_cons_self
         subst hm;refine ⟨bk, off + (b.1.getD 0).toNat * te.size, te.size, by rw [if_neg hne]; simp [zqv], hro, ?_⟩;exact (hrr.take _).drop _
      ·rename_i id off len;cases hobj : obj id with
       | none => rw [hobj] at he; cases he
       | some ob =>
        rw [hobj] at he;simp only [Option.bind_some] at he;split at he
        ·rename_i hm;cases he;obtain ⟨o1, o2, o3⟩ := hob;simp only [zh] at hy;obtain ⟨L, hL, hok⟩ := hH.own id ob hobj;have hmL : L.m = te.size := by rw [hok.m, hm]
         rcases hy.2 L hL with ⟨hv, rfl, rfl, a0, hx⟩ | ⟨hv, hle, hx⟩
         ·have hl0 : (b.1.getD 0).toNat = 0 := by
           have h3 : b.2.getD (0 : Nat) <= 0 := o3;have h4 : b.1.getD 0 <= b.2.getD (0 : Nat) := o2;omega
          have hh0 : (b.2.getD ((0 : Nat) : Int)).toNat = 0 := by
           have h3 : b.2.getD ((0 : Nat) : Int) <= 0 := o3;omega
          have hrun := go a0 0 0 hx (Nat.le_refl _) o1 o2 o3;rw [hl0, hh0] at hrun;refine zv hrun (zaj.same hH ?_);rw [hl0, hh0, if_pos (.inl (by omega))];simp only [zh];refine ⟨⟨hy.1.1, rfl⟩, fun M hM => ?_⟩;rw [hL] at hM; cases hM;exact .inl ⟨hv, by trivial, by simp, a0, by simp⟩
         ·refine zv (go _ len _ hx (by omega) o1 o2 o3) (zaj.same hH ?_);by_cases o4 : b.1.getD 0 = 0 \/ b.1.getD 0 < (len : Int)
          rotate_left
          ·rw [if_neg o4];obtain ⟨cur, _, _, hcapm, _⟩ := hok.cells hv;simp only [zh, zr];refine ⟨_, _, by rw [show (b.2.getD (len : Int)).toNat - (b.1.getD 0).toNat = ([] : List (List D)).length by simp; omega], by simp, by omega, .inl trivial⟩
          rw [if_pos o4];simp only [zh];refine ⟨⟨hy.1.1, rfl⟩, fun M hM => ?_⟩;rw [hL] at hM; cases hM;refine .inr ⟨hv, by omega, ?_⟩;have hadd : (if L.cap - off = (b.1.getD 0).toNat then some (⟨L.blk, off * L.m, none⟩ : Addr) else (some (⟨L.blk, off * L.m, none⟩ : Addr)).map (·.add ((b.1.getD 0).toNat * te.size))) = some ⟨L.blk, (off + (b.1.getD 0).toNat) * L.m, none⟩ := by
           rcases o4 with o4 | o4
           ·rw [o4]; simp [Addr.add]
           ·rw [if_neg (by omega)];simp only [Option.map_some, zqv, hmL, Nat.add_mul]
          rw [hadd]
          congr 1
          omega
        ·cases he
      ·cases he
    ·rename_i n el hk;unfold ziu at he;cases hte : ty el with
     | none =>
      rw [hte] at he;split at he <;> cases he
     | some te =>
      rw [hte] at he;simp only [Option.bind_some] at he;have hlo : lo = none /\ hi = none := by
       have hbb : b.1.isNone /\ b.2.isNone := by
        split at he
        ·simp only [Option.bind_eq_some_iff] at he;obtain ⟨_, _, _, _, _, _, he⟩ := he;split at he
         ·rename_i hc; exact ⟨hc.1, hc.2.1⟩
         ·cases he
        ·cases he
       obtain ⟨q1, q2⟩ := sliceArgs_none hb hbb.1 hbb.2;have none_of : ∀ {z : Option Operand}, z.isSome = false -> z = none := fun {z} h => by cases z with
        | none => rfl
        | some _ => cases h
       exact ⟨none_of q1, none_of q2⟩
      obtain ⟨rfl, rfl⟩ := hlo;exact sliceArr_sound (b := b) (hc.ok el te hte) (zqe (hc.ok t ti ht) hk) hH ho he hy
    ·cases he

theorem builtin_op_sound {c : Call} {b : Builtin} (hc : Ctx P ty) (hH : zam g obj w) (hid : ¬ g.used nid) (ho : o.op = .call c) (hcb : c.callee = .builtin b) (hargs : zj g w args (c.args.toList.map a.eval))
  (he : zgn ty b c.argTypes.toList obj nid args = some e) (hob : e.ob) : zfc P o a w (zaj g obj w nid e) := by
 have hexec : ∀ (s : Sem Value) (v : Value) (w' : World), (∀ t cs, builtin b c.argTypes t cs (c.args.map a.eval) = do pure (.value (<- s))) -> s.run P w = .ok v w' -> (execOp a.eval o).run P w = .ok (.value v) w' := by
  intro s v w' hs hrun;simp only [execOp, ho, resolve, hcb, pure_bind, invoke, hs, Sem.run_bind, hrun, Result.andThen_ok, Sem.run_pure]
 have hcargs : c.args.map a.eval = (c.args.toList.map a.eval).toArray := by apply Array.ext'; simp
 unfold zgn at he;split at he
 ·rename_i t x hat;have hat' : c.argTypes = #[t] := by apply Array.ext'; simpa using hat
  have hlen := hargs.length;obtain ⟨v, hv⟩ : ∃ v, c.args.toList.map a.eval = [v] := by
   match h : c.args.toList.map a.eval, hlen with
   | [v], _ => exact ⟨v, rfl⟩
  rw [hv] at hargs;have h := zcw hargs;cases ht : ty t with
  | none => rw [ht] at he; cases he
  | some ti =>
   rw [ht] at he;simp only [Option.bind_some] at he;have go : ∀ (n : Int), (Builtin.len_ #[t] 0 #[v]).run P w = .ok (.int .i64 n) w -> (∀ ty', Builtin.len_ #[t] ty' #[v] = Builtin.len_ #[t] 0 #[v]) -> zfc P o a w (zaj g obj w nid { val := .d (.int .i64 n) }) := by
    intro n hrun hty;refine zv (hexec (Builtin.len_ #[t] 0 #[v]) _ w ?_ hrun) (zaj.same hH (by simp only [zh, zr]));intro t' cs;simp only [builtin, hat', hcargs, hv];rw [hty]
   unfold lenA at he;split at he
   ·rename_i el hk;cases he;simp only [zh] at h;subst h;exact go 0 (by simp [Builtin.len_, run_underlying (zek (hc.ok t ti ht) hk), goInt]) (fun _ => rfl)
   ·rename_i el rows hk;cases he;simp only [zh, zr] at h;obtain ⟨ad, cap, rfl, _⟩ := h;exact go _ (by simp [Builtin.len_, run_underlying (zek (hc.ok t ti ht) hk), goInt]) (fun _ => rfl)
   ·rename_i el id off n hk;simp only [Option.map_eq_some_iff] at he;obtain ⟨ob, hobj, rfl⟩ := he;obtain ⟨L, hL, hok⟩ := hH.own id ob hobj;simp only [zh] at h;rcases h.2 L hL with ⟨_, _, rfl, a0, rfl⟩ | ⟨_, _, rfl⟩
    ·exact go _ (by simp [Builtin.len_, run_underlying (zek (hc.ok t ti ht) hk), goInt]) (fun _ => rfl)
    ·exact go _ (by simp [Builtin.len_, run_underlying (zek (hc.ok t ti ht) hk), goInt]) (fun _ => rfl)
   ·rename_i str hk;cases he;simp only [zh, zr] at h;subst h;have hu : P.underlying t = some .string := by have := (hc.ok t ti ht).kind; rw [hk] at this; exact this
    exact go _ (by simp [Builtin.len_, run_underlying hu, goInt]) (fun _ => rfl)
   ·rename_i n el hk;cases he;exact go _ (by simp [Builtin.len_, run_underlying (zqe (hc.ok t ti ht) hk), goInt]) (fun _ => rfl)
   ·cases he
 ·rename_i t t' s x hat;split at he
  ·rename_i htt;subst htt;have hat' : c.argTypes = #[t, t] := by apply Array.ext'; simpa using hat
   have hlen := hargs.length;obtain ⟨v, u, hv⟩ : ∃ v u, c.args.toList.map a.eval = [v, u] := by
    match h : c.args.toList.map a.eval, hlen with
    | [v, u], _ => exact ⟨v, u, rfl⟩
   rw [hv] at hargs;obtain ⟨h1, h2⟩ := zcn hargs;cases ht : ty t with
   | none => rw [ht] at he; cases he
   | some ti =>
    rw [ht] at he;simp only [Option.bind_some] at he;split at he
    ·rename_i el hk;cases hte : ty el with
     | none => rw [hte] at he; cases he
     | some te =>
      rw [hte] at he;simp only [Option.bind_some] at he;split at he
      ·cases he
      ·rename_i hpos;cases hd : zeo obj el te.size s with
       | none => rw [hd] at he; cases he
       | some d =>
        cases hs : zdo obj te.size x with
        | none => rw [hd, hs] at he; cases he
        | some r =>
         rw [hd, hs] at he;simp only [Option.bind_some, Option.map_some, Option.some.injEq] at he;subst he;obtain ⟨o1, o2, o3⟩ := hob;obtain ⟨d1, d2, d3⟩ := d;obtain ⟨r1, r2⟩ := r;obtain ⟨v', w', hrun, hA⟩ := append_sound (ty := 0) (hc.ok t ti ht) hk (hc.ok el te hte) (by omega) (by omega) hH hid h1 h2 hd o1 hs o2 o3;refine zv (hexec (Builtin.append_ #[t, t] 0 #[v, u]) v' w' ?_ hrun) hA;intro t' cs;simp only [builtin, hat', hcargs, hv];rfl
    ·cases he
  ·cases he
 ·rename_i t t' id len x hat;split at he
  ·rename_i htt;subst htt;have hat' : c.argTypes = #[t, t] := by apply Array.ext'; simpa using hat
   have hlen := hargs.length;obtain ⟨v, u, hv⟩ : ∃ v u, c.args.toList.map a.eval = [v, u] := by
    match h : c.args.toList.map a.eval, hlen with
    | [v, u], _ => exact ⟨v, u, rfl⟩
   rw [hv] at hargs;obtain ⟨h1, h2⟩ := zcn hargs;cases ht : ty t with
   | none => rw [ht] at he; cases he
   | some ti =>
    rw [ht] at he;simp only [Option.bind_some] at he;split at he
    ·rename_i el hk;cases hte : ty el with
     | none => rw [hte] at he; cases he
     | some te =>
      rw [hte] at he;simp only [Option.bind_some] at he;cases hobj : obj id with
      | none => rw [hobj] at he; cases he
      | some ob =>
       rw [hobj] at he;simp only [Option.bind_some] at he;cases hs : zdo obj te.size x with
       | none => rw [hs] at he; cases he
       | some r =>
        rw [hs] at he;simp only [Option.bind_some] at he;split at he
        ·rename_i hm;cases he;obtain ⟨o1, o2, o3⟩ := hob;obtain ⟨w', g', hrun, hH', hS, hL, hu⟩ := copy_sound (ty := 0) (zek (hc.ok t ti ht) hk) (hc.ok el te hte) hH hobj hm h1 h2 hs o1 o2 o3;refine zv (hexec (Builtin.copy_ #[t, t] 0 #[v, u]) _ w' ?_ hrun) ⟨g', by simpa [zcu] using hH', hS, hL, fun k hk => .inl (hu k hk), by simp [zh, zr]⟩;intro t' cs;simp only [builtin, hat', hcargs, hv];rfl
        ·cases he
    ·cases he
  ·cases he
 ·rename_i args t t2 hat;have hat' : c.argTypes = #[t, t2] := by apply Array.ext'; simpa using hat
  have hlen := hargs.length;obtain ⟨v, u, hv⟩ : ∃ v u, c.args.toList.map a.eval = [v, u] := by
   have h2 : ∀ l : List AV, zih ty t obj l = some e -> l.length = 2 := by
    intro l hl;unfold zih at hl;split at hl
    ·rfl
    ·cases hl
   match h : c.args.toList.map a.eval, hlen.trans (h2 _ he) with
   | [v, u], _ => exact ⟨v, u, rfl⟩
  rw [hv] at hargs;obtain ⟨w', hrun, haft⟩ := delete_op_sound (nid := nid) (kt' := t2) hc hH hargs he hob;refine zv (hexec (Builtin.delete_ #[t, t2] 0 #[v, u]) _ w' ?_ hrun) haft;intro t' cs;simp only [builtin, hat', hcargs, hv];rfl
 ·rename_i ats k m k' n;split at he
  ·rename_i hk;subst hk;cases he;have hlen := hargs.length;obtain ⟨v, u, hv⟩ : ∃ v u, c.args.toList.map a.eval = [v, u] := by
    match h : c.args.toList.map a.eval, hlen with
    | [v, u], _ => exact ⟨v, u, rfl⟩
   rw [hv] at hargs;obtain ⟨h1, h2⟩ := zcn hargs;simp only [zh, zr] at h1 h2;subst h1; subst h2;refine zv (hexec (Builtin.min_ #[] 0 #[.int k m, .int k n]) (.int k (min m n)) w ?_ ?_) (zaj.same hH (by simp only [zh, zr]))
   ·intro t' cs;simp only [builtin, hcargs, hv];rfl
   ·simp only [Builtin.min_, List.foldlM_cons, List.foldlM_nil, Builtin.min2, Sem.run_bind, Sem.run_pure, Result.andThen_ok]
    congr 2
    omega
  ·cases he
 ·rename_i ats k m k' n;split at he
  ·rename_i hk;subst hk;cases he;have hlen := hargs.length;obtain ⟨v, u, hv⟩ : ∃ v u, c.args.toList.map a.eval = [v, u] := by
    match h : c.args.toList.map a.eval, hlen with
    | [v, u], _ => exact ⟨v, u, rfl⟩
   rw [hv] at hargs;obtain ⟨h1, h2⟩ := zcn hargs;simp only [zh, zr] at h1 h2;subst h1; subst h2;refine zv (hexec (Builtin.max_ #[] 0 #[.int k m, .int k n]) (.int k (max m n)) w ?_ ?_) (zaj.same hH (by simp only [zh, zr]))
   ·intro t' cs;simp only [builtin, hcargs, hv];rfl
   ·simp only [Builtin.max_, List.foldlM_cons, List.foldlM_nil, Builtin.max2, Sem.run_bind, Sem.run_pure, Result.andThen_ok]
    congr 2
    omega
  ·cases he
 ·cases he

theorem zii {orc : Option Res} (hc : Ctx P ty) (hH : zam g obj w) (hid : ¬ g.used nid) (hargs : zj g w args (o.op.operands.toList.map a.eval)) (he : zfv ty P orc o.op obj nid args = some e) (hob : e.ob) : zfc P o a w (zaj g obj w nid e) := by
 cases hop : o.op <;> rw [hop] at he hargs <;> simp only [zfv, reduceCtorEq] at he
 case move x => exact move_sound hH (.inl hop) (by simpa [Op.operands] using hargs) he
 case assign x => exact move_sound hH (.inr hop) (by simpa [Op.operands] using hargs) he
 case pick c x y => exact pick_sound hH hop (by simpa [Op.operands] using hargs) he hob
 case alloc t => exact alloc_op_sound hc hH hid hop he
 case box t x => exact box_op_sound hH hid hop (by simpa [Op.operands] using hargs) he
 case build t ps => exact build_op_sound hc hH hop (by simpa [Op.operands] using hargs) he
 case buildSlice t len ps => exact zsf hc hH hid hop (by simpa [Op.operands] using hargs) he
 case nilCheck x => exact zux hH hop (by simpa [Op.operands] using hargs) he
 case load t x => exact zsn hc hH hop (by simpa [Op.operands] using hargs) he
 case store t x y => exact store_op_sound hc hH hop (by simpa [Op.operands] using hargs) he
 case binOp op t x y yt => exact bin_sound hc hH hop (by simpa [Op.operands] using hargs) he hob
 case unOp op t x => exact un_sound hH hop (by simpa [Op.operands] using hargs) he
 case convert src dst x => exact convert_sound hc hH hop (by simpa [Op.operands] using hargs) he
 case makeFunc fn first caps => exact zvb hH hop (by simpa [Op.operands] using hargs) he
 case makeSlice t x y => exact ztj hc hH hid hop (by simpa [Op.operands] using hargs) he hob
 case slice t x lo hi mx =>
  cases mx with
  | some m => simp at he
  | none => exact slice_op_sound hc hH hop (by cases lo <;> cases hi <;> simpa [Op.operands] using hargs) (by simpa using he) hob
 case fieldAddr t x f => exact ztr hc hH hop (by simpa [Op.operands] using hargs) he
 case field t x f => exact field_op_sound hc hH hop (by simpa [Op.operands] using hargs) he
 case indexAddr t x y => exact ztm hc hH hop (by simpa [Op.operands] using hargs) he hob
 case index t x y => exact index_op_sound hc hH hop (by simpa [Op.operands] using hargs) he hob
 case makeMap t r =>
  cases r with
  | some x => simp at he
  | none => exact makeMap_op_sound hH hid hop (by simpa [Op.operands] using hargs) (by simpa using he)
 case lookup t m x ok => exact lookup_op_sound hc hH hop (by simpa [Op.operands] using hargs) he hob
 case mapUpdate t m x y => exact zth hc hH hop (by simpa [Op.operands] using hargs) he hob
 case extract x ix => exact extract_op_sound hH hop (by simpa [Op.operands] using hargs) he
 case call c =>
  cases hcc : c.callee with
  | builtin b =>
   obtain ⟨callee, cargs, ats⟩ := c;simp only at hcc;subst hcc;exact builtin_op_sound (c := ⟨.builtin b, cargs, ats⟩) hc hH hid hop rfl (by simpa [Op.operands, Call.operands] using hargs) he hob
  | value f =>
   obtain ⟨callee, cargs, ats⟩ := c;simp only at hcc;subst hcc;exact call_sound (c := ⟨.value f, cargs, ats⟩) hH hid hop rfl (by simpa [Op.operands, Call.operands] using hargs) he hob
  | invoke r m =>
   obtain ⟨callee, cargs, ats⟩ := c;simp only at hcc;subst hcc;simp [eff] at he

theorem frz_sound {e0 e1 : Eff} {d : D} {v : Value} {w' : World} (hH : zam g obj w) (hid : ¬ g.used nid) (he : frzE nid d e0 = some e1) (hob : e1.ob) (h : e0.ob -> zaj g obj w nid e0 v w') : zaj g obj w nid e1 v w' := by
 unfold frzE at he;split at he
 ·rename_i id len k o hval hwr;split at he
  ·rename_i hk;obtain ⟨hk1, hk2⟩ := hk;cases he;obtain ⟨hob0, hd⟩ := hob;split at hd
   ·rename_i R hR;obtain ⟨hd1, hd2⟩ := hd;obtain ⟨g', a1, a2, a3, a4, a5⟩ := h hob0;rw [hwr, hk2] at a1;rw [hval, hk1] at a5;have hon : obj nid = none := by
     cases ho : obj nid with
     | none => rfl
     | some o' =>
      obtain ⟨L, hL, _⟩ := hH.own nid o' ho;exact absurd (hH.live nid L hL).1 hid
    obtain ⟨L, hL, hok⟩ := a1.own nid o (by simp [zcu, zbh]);obtain ⟨f1, f2⟩ := freeze_rel a1 hL;have hup : zcu obj [] = zbh (zcu obj [(nid, some o)]) nid none := by
     funext x
     by_cases e : x = nid
     ·subst e; simp [zcu, zbh, hon]
     ·simp [zcu, zbh, e]
    refine ⟨frozen g' nid, by rw [hup]; exact f1, a2.trans f2, ⟨fun b hb => ⟨.inl (a3.fut b hb).1, (a3.fut b hb).2⟩, fun i hi => a3.used i hi, fun i hi => ?_⟩, a4, ?_⟩
    ·simp only [frozen];split
     ·exact .inr rfl
     ·exact a3.loc i hi
    ·simp only [zh] at a5 ⊢;rw [hd1];have hrl := zgz hR;rcases a5.2 L hL with ⟨hv, _, hl0, a0, hvn⟩ | ⟨hv, hlc, hvs⟩
     ·rw [hl0, hvn]; simpa using zff
     ·rw [hvs];have hlen : (R.take len).length = len := by simp; omega
      obtain ⟨_, _, _, hcapm, _⟩ := hok.cells hv;simp only [zr];refine ⟨some ⟨L.blk, 0 * L.m, none⟩, L.cap - 0, by rw [hlen], by rw [hlen]; omega, by omega, ?_⟩;refine .inr ⟨L.blk, 0 * L.m, L.m, rfl, .inr ⟨L, hL, hv.1, rfl⟩, zau.of_get fun i r hi => ?_⟩;rw [List.getElem?_take] at hi;split at hi
      ·obtain ⟨row, hrow, ha⟩ := zgs hR _ r hi;obtain ⟨us, hul, hur, huc⟩ := hok.row hv hrow;refine ⟨us, hul, zq.mono (fun b hb => ⟨.inl hb, rfl⟩) r us (zj.allD ha hur), ?_⟩;rw [Nat.zero_mul, Nat.zero_add];exact huc
      ·cases hi
   ·exact hd.elim
  ·cases he
 ·cases he

theorem ext_sound {r : Res} (hH : zam g obj w) (hid : ¬ g.used nid) (hargs : zj g w args (o.op.operands.toList.map a.eval)) (he : effExt P o.op r nid args = some e) (hob : e.ob) : zfc P o a w (zaj g obj w nid e) := by
 unfold effExt at he;cases hds : allS args with
 | none => rw [hds] at he; cases he
 | some ds =>
  rw [hds] at he;cases he;have hr : zq g.ro w ds (o.op.operands.toList.map a.eval) := by
   rw [allS_eq hds] at hargs;exact zj.to_ds hargs
  obtain ⟨v, w', h1, h2, h3⟩ := hob o a g.ro w rfl hH.ro hr;exact zv h1 (res_sound hH hid h2 (.inl fun _ hb => hb) h3)

theorem eff_sound {orc : Option Res} (hc : Ctx P ty) (hH : zam g obj w) (hid : ¬ g.used nid) (hargs : zj g w args (o.op.operands.toList.map a.eval)) (he : eff ty P orc o.op obj nid args = some e) (hob : e.ob) : zfc P o a w (zaj g obj w nid e) := by
 unfold eff at he;split at he
 ·cases he
 ·rename_i b;simp only [Option.bind_eq_some_iff] at he;obtain ⟨e0, h0, he⟩ := he;unfold fixU at he;split at he
  ·rename_i p q hval;cases he;obtain ⟨hob0, hb⟩ := hob;intro K Q hK;refine zii hc hH hid hargs h0 hob0 K Q fun v w' ⟨g', a1, a2, a3, a4, a5⟩ => hK v w' ⟨g', a1, a2, a3, a4, ?_⟩;rw [hval] at a5;simp only [zh, zr] at a5 ⊢;obtain ⟨c, hc1, hc2, hc3⟩ := a5;rw [hc1];cases b <;> cases c <;> simp_all
  ·cases he
 ·rename_i d;have fin : ∀ {e0 : Eff}, zfv ty P none o.op obj nid args = some e0 -> frzE nid d e0 = some e -> zfc P o a w (zaj g obj w nid e) := fun {e0} h0 he => by
   intro K Q hK;have hob0 : e0.ob := by
    unfold frzE at he;split at he
    ·split at he
     ·cases he; exact hob.1
     ·cases he
    ·cases he
   exact zii hc hH hid hargs h0 hob0 K Q fun v w' ha => hK v w' (frz_sound hH hid he hob fun _ => ha)
  split at he
  ·rename_i heq;simp only [Option.bind_eq_some_iff] at he;obtain ⟨e0, h0, he⟩ := he;exact fin h0 he
  ·rename_i heq;simp only [Option.bind_eq_some_iff] at he;obtain ⟨e0, h0, he⟩ := he;exact fin h0 he
  ·exact zii hc hH hid hargs he hob
 ·cases hp : zhb o.op <;> rw [hp] at he
  ·exact zii hc hH hid hargs he hob
  ·exact ext_sound hH hid hargs he hob
 ·cases hp : zhb o.op <;> rw [hp] at he
  ·exact zii hc hH hid hargs he hob
  ·exact ext_sound hH hid hargs he hob
 ·exact zii hc hH hid hargs he hob

end
end Go.Abs

namespace Go.Abs
variable [Flag]
open Go.RowKit

structure St where
 n : Nat
 tm : List (Nat × AV)
 hp : List (Nat × Option Ob)
 nxt : Nat

def St.get (s : St) (t : Nat) : AV := (find s.tm t).getD .any
def St.obj (s : St) (id : Nat) : Option Ob := (find s.hp id).getD none

def zdd (hp : List (Nat × Option Ob)) : List (Nat × Option Ob) -> List (Nat × Option Ob)
 | [] => hp
 | x :: r => zdd (x :: hp) r

def St.put (s : St) (dst : Option Tmp) (v : AV) : St := match dst with | some d => { s with tm := (d, v) :: s.tm } | none => s
def St.app (s : St) (dst : Option Tmp) (e : Eff) : St := { s.put dst e.val with hp := zdd s.hp e.wr }

theorem zoe : ∀ (wr hp : List (Nat × Option Ob)) (id : Nat), (find (zdd hp wr) id).getD none = zcu (fun x => (find hp x).getD none) wr id
 | [], hp, id => rfl
 | (i, o) :: r, hp, id => by
  simp only [zdd, zcu];rw [zoe r]
  congr 1
  funext x
  simp only [find, zbh];by_cases e : i = x
  ·subst e; simp
  ·simp [e, Ne.symm e]

def cav : Value -> AV
 | .agg cs => if cs.toList.all Value.oneCell' then mkAgg (cs.toList.map zav) else .any
 | .nilFunc => .any
 | v => zav v

theorem cav_rep (g : G) (w : World) (v : Value) : zh g w (cav v) v := by
 unfold cav;split
 ·rename_i cs;split
  ·rename_i h;have := zh.mkAgg (g := g) (w := w) (vs := cs.toList) (fun v hv => List.all_eq_true.1 h v hv) (zj.of_get (ds := cs.toList.map zav) (by simp) fun j d hj => by
    rw [List.getElem?_map] at hj;cases hv : cs.toList[j]? with
    | none => rw [hv] at hj; cases hj
    | some v => rw [hv] at hj; cases hj; exact ⟨v, rfl, zav_rep g w v⟩)
   simpa using this
  ·simp [zh]
 ·simp [zh]
 ·exact zav_rep g w _

def St.eval (s : St) : Operand -> AV
 | .tmp t => s.get t
 | .const v => cav v
 | .global _ => .any
 | .func f => .d (.fn (.func f) [])

theorem zef {U : Nat -> Prop} {g : G} {get : Nat -> AV} {obj : Nat -> Option Ob} {n : Nat} {a : Act} {w : World} (h : Rel U g get obj n a w) {s : St} (hs : ∀ t, s.get t = get t) (x : Operand) : zh g w (s.eval x) (a.eval x) := by
 cases x with
 | tmp t => simp only [St.eval, hs]; exact h.tmp t
 | const v => exact cav_rep g w v
 | global i => simp [St.eval, zh]
 | func f => simp only [St.eval, zh, zr, Act.eval]; exact ⟨[], rfl, by simp [zq]⟩

def zcs (s : St) (g : G) (a : Act) (w : World) : Prop := Rel (· < s.nxt) g s.get s.obj s.n a w

def zgu (get : Nat -> AV) (dst : Option Tmp) (v : AV) : Nat -> AV := fun t => if dst = some t then v else get t

theorem St.get_put (s : St) (dst : Option Tmp) (v : AV) (t : Nat) : (s.put dst v).get t = zgu s.get dst v t := by
 unfold St.put zgu;cases dst with
 | none => simp
 | some d =>
  simp only [St.get, find, Option.some.injEq];by_cases e : d = t <;> simp [e]

theorem zcf {U U' : Nat -> Prop} {g g' : G} {get : Nat -> AV} {obj obj' : Nat -> Option Ob} {n : Nat} {a : Act} {w w' : World} {dst : Option Tmp} {v : AV} {u : Value} (h : Rel U g get obj n a w) (hH : zam g' obj' w') (hl : zbs g w g' w') (hu : ∀ k, g'.used k -> U' k) (hv : zh g' w' v u)
  (hd : ∀ d, dst = some d -> d < n) : Rel U' g' (zgu get dst v) obj' n (a.put dst u) w' where
 defers := by cases dst <;> exact h.defers
 size := by cases dst <;> simp [Act.put, h.size]
 tmp t := by
  cases dst with
  | none => simp only [zgu, Act.put, reduceCtorEq, if_false]; exact zh.later hl _ _ (h.tmp t)
  | some d =>
   simp only [zgu, Act.put, Option.some.injEq];by_cases e : d = t
   ·subst e;have : d < a.tmps.size := by rw [h.size]; exact hd d rfl
    simp [this];exact hv
   ·rw [if_neg e];have : (a.tmps.setIfInBounds d u).getD t undef = a.tmps.getD t undef := by simp [Array.getElem?_setIfInBounds_ne e]
    rw [this];exact zh.later hl _ _ (h.tmp t)
 used := hu
 heap := hH

theorem zfo {P : Program} {ty : TypeId -> Option TI} (hc : Ctx P ty) {U : Nat -> Prop} {g : G} {get : Nat -> AV} {obj : Nat -> Option Ob} {n nid : Nat} {a : Act} {w : World} {o : Oper} {e : Eff} {orc : Option Res} {args : List AV} (h : Rel U g get obj n a w) (hid : ¬ U nid)
  (hargs : zj g w args (o.op.operands.toList.map a.eval)) (he : eff ty P orc o.op obj nid args = some e) (hob : e.ob) (hd : ∀ d, o.dst = some d -> d < n) {K : Act -> World -> Prop} {Q : Exit -> Act -> World -> Prop}
  (hK : ∀ g' a' w', Rel (fun k => U k \/ k = nid) g' (zgu get o.dst e.val) (zcu obj e.wr) n a' w' -> zan g w g' w' -> K a' w') : o.wp P a w K Q := by
 refine eff_sound hc h.heap (fun hu => hid (h.used _ hu)) hargs he hob K Q fun v w' hA => ?_;obtain ⟨g', h1, h2, h3, h4, h5⟩ := hA;exact hK g' _ w' (zcf h h1 h3 (fun k hk => (h4 k hk).imp (h.used k) fun x => x) h5 hd) h2

def St.guard (s : St) (gs : List (Option Tmp)) (j : Nat) (want : Bool) : Option Bool :=
 match gs[j]? with
 | some (some t) => match s.get t with
  | .d (.bool b) => some (b == want)
  | .opt g (.d (.bool b)) => some (g && (b == want))
  | _ => none
 | _ => none

def zbg : List AV -> Prop
 | [] => True
 | .opt g _ :: r => g = true /\ zbg r
 | _ :: r => zbg r

def zbo (op : Op) (l : List AV) : List AV := match op, l with
 | .pick _ _ _, c :: r => zct c :: r
 | _, l => l.map zct
def zao (op : Op) (l : List AV) : Prop := match op, l with
 | .pick _ _ _, c :: _ => zbg [c]
 | _, l => zbg l

theorem sg_move {x} {l : List AV} : zbo (.move x) l = l.map zct := rfl
theorem so_move {x} {l : List AV} : zao (.move x) l = zbg l := rfl
theorem sg_assign {x} {l : List AV} : zbo (.assign x) l = l.map zct := rfl
theorem so_assign {x} {l : List AV} : zao (.assign x) l = zbg l := rfl
theorem sg_alloc {x} {l : List AV} : zbo (.alloc x) l = l.map zct := rfl
theorem so_alloc {x} {l : List AV} : zao (.alloc x) l = zbg l := rfl
theorem sg_box {x y} {l : List AV} : zbo (.box x y) l = l.map zct := rfl
theorem so_box {x y} {l : List AV} : zao (.box x y) l = zbg l := rfl
theorem sg_build {x y} {l : List AV} : zbo (.build x y) l = l.map zct := rfl
theorem so_build {x y} {l : List AV} : zao (.build x y) l = zbg l := rfl
theorem sg_buildSlice {x y z} {l : List AV} : zbo (.buildSlice x y z) l = l.map zct := rfl
theorem so_buildSlice {x y z} {l : List AV} : zao (.buildSlice x y z) l = zbg l := rfl
theorem sg_load {x y} {l : List AV} : zbo (.load x y) l = l.map zct := rfl
theorem so_load {x y} {l : List AV} : zao (.load x y) l = zbg l := rfl
theorem sg_store {x y z} {l : List AV} : zbo (.store x y z) l = l.map zct := rfl
theorem so_store {x y z} {l : List AV} : zao (.store x y z) l = zbg l := rfl
theorem sg_nilCheck {x} {l : List AV} : zbo (.nilCheck x) l = l.map zct := rfl
theorem so_nilCheck {x} {l : List AV} : zao (.nilCheck x) l = zbg l := rfl
theorem sg_binOp {a x y z b} {l : List AV} : zbo (.binOp a x y z b) l = l.map zct := rfl
theorem so_binOp {a x y z b} {l : List AV} : zao (.binOp a x y z b) l = zbg l := rfl
theorem sg_unOp {x y z} {l : List AV} : zbo (.unOp x y z) l = l.map zct := rfl
theorem so_unOp {x y z} {l : List AV} : zao (.unOp x y z) l = zbg l := rfl
theorem sg_convert {x y z} {l : List AV} : zbo (.convert x y z) l = l.map zct := rfl
theorem so_convert {x y z} {l : List AV} : zao (.convert x y z) l = zbg l := rfl
theorem sg_makeFunc {x y z} {l : List AV} : zbo (.makeFunc x y z) l = l.map zct := rfl
theorem so_makeFunc {x y z} {l : List AV} : zao (.makeFunc x y z) l = zbg l := rfl
theorem sg_makeSlice {x y z} {l : List AV} : zbo (.makeSlice x y z) l = l.map zct := rfl
theorem so_makeSlice {x y z} {l : List AV} : zao (.makeSlice x y z) l = zbg l := rfl
theorem sg_slice {a x y z b} {l : List AV} : zbo (.slice a x y z b) l = l.map zct := rfl
theorem so_slice {a x y z b} {l : List AV} : zao (.slice a x y z b) l = zbg l := rfl
theorem sg_fieldAddr {x y z} {l : List AV} : zbo (.fieldAddr x y z) l = l.map zct := rfl
theorem so_fieldAddr {x y z} {l : List AV} : zao (.fieldAddr x y z) l = zbg l := rfl
theorem sg_field {x y z} {l : List AV} : zbo (.field x y z) l = l.map zct := rfl
theorem so_field {x y z} {l : List AV} : zao (.field x y z) l = zbg l := rfl
theorem sg_indexAddr {x y z} {l : List AV} : zbo (.indexAddr x y z) l = l.map zct := rfl
theorem so_indexAddr {x y z} {l : List AV} : zao (.indexAddr x y z) l = zbg l := rfl
theorem sg_index {x y z} {l : List AV} : zbo (.index x y z) l = l.map zct := rfl
theorem so_index {x y z} {l : List AV} : zao (.index x y z) l = zbg l := rfl
theorem sg_extract {x y} {l : List AV} : zbo (.extract x y) l = l.map zct := rfl
theorem so_extract {x y} {l : List AV} : zao (.extract x y) l = zbg l := rfl
theorem sg_call {x} {l : List AV} : zbo (.call x) l = l.map zct := rfl
theorem so_call {x} {l : List AV} : zao (.call x) l = zbg l := rfl
theorem sg_lookup {a x y z} {l : List AV} : zbo (.lookup a x y z) l = l.map zct := rfl
theorem so_lookup {a x y z} {l : List AV} : zao (.lookup a x y z) l = zbg l := rfl
theorem sg_mapUpdate {a x y z} {l : List AV} : zbo (.mapUpdate a x y z) l = l.map zct := rfl
theorem so_mapUpdate {a x y z} {l : List AV} : zao (.mapUpdate a x y z) l = zbg l := rfl
theorem sg_makeInterface {x y} {l : List AV} : zbo (.makeInterface x y) l = l.map zct := rfl
theorem so_makeInterface {x y} {l : List AV} : zao (.makeInterface x y) l = zbg l := rfl
theorem sg_makeMap {x y} {l : List AV} : zbo (.makeMap x y) l = l.map zct := rfl
theorem so_makeMap {x y} {l : List AV} : zao (.makeMap x y) l = zbg l := rfl
theorem sg_pick {x y z} {c : AV} {l : List AV} : zbo (.pick x y z) (c :: l) = zct c :: l := rfl
theorem so_pick {x y z} {c : AV} {l : List AV} : zao (.pick x y z) (c :: l) = zbg [c] := rfl

section
variable (ty : TypeId -> Option TI) (P : Program) (orc : List (Nat × Res)) (gs : List (Option Tmp)) (base : Nat)

def doOp (i : Nat) (o : Oper) (s : St) (K : St -> Prop) : Prop :=
 match eff ty P (find orc i) o.op s.obj (base + i) (o.op.operands.toList.map s.eval) with
 | some e => e.ob /\ (match o.dst with | some d => d < s.n | none => True) /\ K (s.app o.dst e)
 | none => False

def wpT : Nat -> List Oper -> St -> (St -> Prop) -> Prop
 | _, [], s, Q => Q s
 | i, o :: rest, s, Q =>
  match o.guard with
  | none => doOp ty P orc base i o s fun s' => wpT (i + 1) rest s' Q
  | some (j, want) =>
   match s.guard gs j want with
   | some x =>
    (match o.dst with | some d => d < s.n | none => True) /\
    (match eff ty P (find orc i) o.op s.obj (base + i) (zbo o.op (o.op.operands.toList.map s.eval)) with
    | some e => (match e.wr with
     | [] => (x = true -> zao o.op (o.op.operands.toList.map s.eval) /\ e.ob) /\ wpT (i + 1) rest (s.put o.dst (.opt x e.val)) Q
     | _ => x = true /\ zao o.op (o.op.operands.toList.map s.eval) /\ e.ob /\ wpT (i + 1) rest (s.app o.dst e) Q)
    | none => x = false /\ wpT (i + 1) rest (s.put o.dst (.opt false (.d (.bool false)))) Q)
   | none => False
end

def AWp (P : Program) (c : Code) (Q : Exit -> St -> Prop) (s : St) : Prop :=
 ∀ g a w, zcs s g a w -> c.wp P (fun e a' w' => ∃ s' g', zcs s' g' a' w' /\ zan g w g' w' /\ Q e s') a w

theorem Rel.congr {U : Nat -> Prop} {g : G} {get get' : Nat -> AV} {obj obj' : Nat -> Option Ob} {n : Nat} {a : Act} {w : World} (h : Rel U g get obj n a w) (h1 : ∀ t, get' t = get t) (h2 : ∀ t, obj' t = obj t) : Rel U g get' obj' n a w := by
 have e1 : get' = get := funext h1;have e2 : obj' = obj := funext h2;rw [e1, e2]; exact h

theorem zos (s : St) (dst : Option Tmp) (e : Eff) (t : Nat) : (s.app dst e).get t = zgu s.get dst e.val t := by
 rw [<- St.get_put];cases dst <;> rfl

theorem zor (s : St) (dst : Option Tmp) (e : Eff) (id : Nat) : (s.app dst e).obj id = zcu s.obj e.wr id := by
 unfold St.app St.obj;cases dst <;> exact zoe e.wr s.hp id

theorem zlh (s : St) (dst : Option Tmp) (v : AV) (id : Nat) : (s.put dst v).obj id = s.obj id := by cases dst <;> rfl

theorem znk {g : G} {w : World} : ∀ {l : List AV} {vs : List Value}, zj g w l vs -> zbg l -> zj g w (l.map zct) vs
 | [], vs, h, _ => by simpa [zj] using h
 | x :: l, vs, h, ho => by
  simp only [zj] at h;obtain ⟨v, vs', rfl, h1, h2⟩ := h;simp only [List.map_cons, zj];cases x with
  | opt b y =>
   simp only [zbg] at ho;simp only [zh] at h1;exact ⟨v, vs', rfl, h1.1 ho.1, znk h2 ho.2⟩
  | _ => exact ⟨v, vs', rfl, h1, znk h2 ho⟩

theorem zdu {op : Op} {g : G} {w : World} {l : List AV} {vs : List Value} (h : zj g w l vs) (ho : zao op l) : zj g w (zbo op l) vs := by
 cases op
 case pick =>
  cases l with
  | nil => simpa [zbo] using h
  | cons c r =>
   simp only [zbo, zao, zj] at h ho ⊢;obtain ⟨v, vs', rfl, h1, h2⟩ := h;refine ⟨v, vs', rfl, ?_, h2⟩;have := znk (l := [c]) (vs := [v]) (by simp only [zj]; exact ⟨v, [], rfl, h1, rfl⟩) ho;simp only [List.map_cons, List.map_nil, zj] at this;obtain ⟨u, us, heq, hu, _⟩ := this;cases heq;exact hu
 all_goals exact znk h ho

theorem Rel.opt {U : Nat -> Prop} {g : G} {get : Nat -> AV} {obj : Nat -> Option Ob} {n : Nat} {a : Act} {w : World} {dst : Option Tmp} {v : AV} (h : Rel U g (zgu get dst v) obj n a w) : Rel U g (zgu get dst (.opt true v)) obj n a w := by
 refine ⟨h.defers, h.size, fun t => ?_, h.used, h.heap⟩;have := h.tmp t;unfold zgu at this ⊢;split
 ·rename_i e;rw [if_pos e] at this;simp only [zh];exact ⟨fun _ => this, fun hb => by cases hb⟩
 ·rename_i e;rw [if_neg e] at this;exact this

theorem zjo {g : G} {w : World} {a : Act} {s : St} {ops : Array Oper} {gs : List (Option Tmp)} (hgs : ∀ j : Nat, gs[j]? = (ops[j]?).map fun o : Oper => o.dst) (htmp : ∀ t, zh g w (s.get t) (a.tmps.getD t undef)) {o : Oper} {j : Nat} {want x : Bool} (hg : o.guard = some (j, want)) (hx : s.guard gs j want = some x) :
  Region.wanted o (yielded ops a.tmps) = x := by
 unfold St.guard at hx;split at hx
 ·rename_i t ht;have hdst : (ops[j]?).bind (fun o => o.dst) = some t := by
   rw [hgs j] at ht;cases ho : ops[j]? with
   | none => rw [ho] at ht; cases ht
   | some oj => rw [ho] at ht; simpa using ht
  have isb : ∀ b, a.tmps.getD t undef = .bool b -> yielded ops a.tmps j = some b := by
   intro b hb;have hlt : t < a.tmps.size := by
    rcases Nat.lt_or_ge t a.tmps.size with hlt | hge
    ·exact hlt
    ·simp [Array.getElem?_eq_none hge, undef] at hb
   have : a.tmps[t]? = some (.bool b) := by
    simp [hlt] at hb;simp [hlt, hb]
   simp [yielded, hdst, this]
  have isu : a.tmps.getD t undef = undef -> yielded ops a.tmps j = none := by
   intro hb;rcases Nat.lt_or_ge t a.tmps.size with hlt | hge
   ·have : a.tmps[t]? = some undef := by
     simp [hlt] at hb;simp [hlt, hb]
    simp [yielded, hdst, this, undef]
   ·simp [yielded, hdst, Array.getElem?_eq_none hge]
  have hv := htmp t;split at hx
  ·rename_i b hb;cases hx;rw [hb] at hv;simp only [zh, zr] at hv;simp only [Region.wanted, hg, isb b hv];cases b <;> cases want <;> rfl
  ·rename_i q b hb;cases hx;rw [hb] at hv;simp only [zh, zr] at hv;cases q with
   | true =>
    simp only [Region.wanted, hg, isb b (hv.1 rfl)];cases b <;> cases want <;> rfl
   | false =>
    simp only [Region.wanted, hg, isu (hv.2 rfl)];cases want <;> rfl
  ·cases hx
 ·cases hx

theorem zgp {P : Program} {ty : TypeId -> Option TI} (hc : Ctx P ty) {orc : List (Nat × Res)} {gs : List (Option Tmp)} {ops : Array Oper} (hgs : ∀ j : Nat, gs[j]? = (ops[j]?).map fun o : Oper => o.dst) {base nxt : Nat} {Q : Exit -> Act -> World -> Prop} {K : St -> Prop} {g0 : G} {w0 : World}
  (hQ : ∀ s g a w, zcs s g a w -> zan g0 w0 g w -> K s -> Q .normal a w) :
  ∀ (l : List Oper) (i : Nat) (s : St) (g : G) (a : Act) (w : World), base + i + l.length <= nxt -> s.nxt = nxt -> Rel (· < base + i) g s.get s.obj s.n a w -> zan g0 w0 g w -> wpT ty P orc gs base i l s K -> wpList P ops Q l a w
 | [], i, s, g, a, w, hle, hnx, h, hs, hk => hQ s g a w ⟨h.defers, h.size, h.tmp, fun id hu => by have := h.used id hu; simp at hle; show id < s.nxt; omega, h.heap⟩ hs hk
 | o :: rest, i, s, g, a, w, hle, hnx, h, hs, hk => by
  simp only [List.length_cons] at hle;have hargs : zj g w (o.op.operands.toList.map s.eval) (o.op.operands.toList.map a.eval) := by
   refine zj.of_get (by simp) fun j av hj => ?_;rw [List.getElem?_map] at hj ⊢;cases hx : o.op.operands.toList[j]? with
   | none => rw [hx] at hj; cases hj
   | some x => rw [hx] at hj; cases hj; exact ⟨a.eval x, rfl, zef h (fun _ => rfl) x⟩
  have relapp : ∀ (e : Eff) (g' : G) (a' : Act) (w' : World), Rel (fun k => k < base + i \/ k = base + i) g' (zgu s.get o.dst e.val) (zcu s.obj e.wr) s.n a' w' -> Rel (· < base + (i + 1)) g' (s.app o.dst e).get (s.app o.dst e).obj (s.app o.dst e).n a' w' := by
   intro e g' a' w' hr;have hn : (s.app o.dst e).n = s.n := by unfold St.app St.put; cases o.dst <;> rfl
   rw [hn];exact ⟨hr.defers, hr.size, fun t => by rw [zos]; exact hr.tmp t, fun id hu => by
    have := hr.used id hu
    show id < base + (i + 1)
    rcases this with hh | hh <;> omega, by
    have : (s.app o.dst e).obj = zcu s.obj e.wr := funext (zor s o.dst e);rw [this]; exact hr.heap⟩
  have hnapp : ∀ e, (s.app o.dst e).nxt = nxt := fun e => by rw [<- hnx]; unfold St.app St.put; cases o.dst <;> rfl
  have hnput : ∀ v, (s.put o.dst v).nxt = nxt := fun v => by rw [<- hnx]; unfold St.put; cases o.dst <;> rfl
  have hnn : ∀ v, (s.put o.dst v).n = s.n := fun v => by unfold St.put; cases o.dst <;> rfl
  have relput : ∀ (v : AV) (g' : G) (a' : Act) (w' : World) (U : Nat -> Prop), (∀ k, U k -> k < base + (i + 1)) -> Rel U g' (zgu s.get o.dst v) s.obj s.n a' w' -> Rel (· < base + (i + 1)) g' (s.put o.dst v).get (s.put o.dst v).obj (s.put o.dst v).n a' w' := by
   intro v g' a' w' U hU hr;rw [hnn];have := hr.congr (get' := (s.put o.dst v).get) (obj' := (s.put o.dst v).obj) (fun t => St.get_put s o.dst v t) (fun id => zlh s o.dst v id);exact ⟨this.defers, this.size, this.tmp, fun k hk => hU k (this.used k hk), this.heap⟩
  have skipped : ∀ v, (∀ d, o.dst = some d -> d < s.n) -> zh g w v undef -> wpT ty P orc gs base (i + 1) rest (s.put o.dst v) K -> wpList P ops Q rest (a.put o.dst undef) w := by
   intro v hd hv hrest;have hr := zcf (U' := (· < base + i)) (dst := o.dst) (v := v) (u := undef) h h.heap ⟨fun b hb => ⟨hb, rfl⟩, fun _ hx => hx, fun _ _ => .inl rfl⟩ (fun k hk => h.used k hk) hv hd;exact zgp (nxt := nxt) hc hgs hQ rest (i + 1) _ g _ w (by omega) (hnput v) (relput v g _ w _ (fun k hk => by omega) hr) hs hrest
  simp only [wpList];unfold wpT at hk;split at hk
  ·rename_i hg;have hw : Region.wanted o (yielded ops a.tmps) = true := by simp [Region.wanted, hg]
   rw [if_pos hw];left
   unfold doOp at hk;split at hk
   ·rename_i e he;obtain ⟨hob, hd, hrest⟩ := hk;exact zfo hc (nid := base + i) h (by simp) hargs he hob (fun d hd' => by rw [hd'] at hd; exact hd) fun g' a' w' hr hst =>
     zgp (nxt := nxt) hc hgs hQ rest (i + 1) (s.app o.dst e) g' a' w' (by omega) (hnapp e) (relapp e g' a' w' hr) (hs.trans hst) hrest
   ·exact hk.elim
  ·rename_i j want hg;split at hk
   ·rename_i x hgv;have hw := zjo (a := a) hgs h.tmp hg hgv;rw [hw];obtain ⟨hd, hk⟩ := hk;have hd' : ∀ d, o.dst = some d -> d < s.n := fun d hd' => by rw [hd'] at hd; exact hd
    split at hk
    ·rename_i e he;split at hk
     ·rename_i hwr;obtain ⟨hexec, hrest⟩ := hk;cases x with
      | true =>
       rw [if_pos rfl];left
       obtain ⟨hso, hob⟩ := hexec rfl;refine zfo hc (nid := base + i) h (by simp) (zdu hargs hso) he hob hd' fun g' a' w' hr hst => ?_;rw [hwr] at hr;exact zgp (nxt := nxt) hc hgs hQ rest (i + 1) _ g' a' w' (by omega) (hnput _) (relput _ g' a' w' _ (fun k hk => by rcases hk with hh | hh <;> omega) hr.opt) (hs.trans hst) hrest
      | false =>
       rw [if_neg (by simp)];exact skipped _ hd' (by simp [zh]) hrest
     ·obtain ⟨rfl, hso, hob, hrest⟩ := hk;rw [if_pos rfl];left
      exact zfo hc (nid := base + i) h (by simp) (zdu hargs hso) he hob hd' fun g' a' w' hr hst =>
       zgp (nxt := nxt) hc hgs hQ rest (i + 1) (s.app o.dst e) g' a' w' (by omega) (hnapp e) (relapp e g' a' w' hr) (hs.trans hst) hrest
    ·obtain ⟨rfl, hrest⟩ := hk;rw [if_neg (by simp)];exact skipped _ hd' (by simp [zh]) hrest
   ·exact hk.elim

theorem zc {P : Program} {ty : TypeId -> Option TI} (hc : Ctx P ty) (orc : List (Nat × Res)) {id : Nat} {l : List Oper} {Q : Exit -> St -> Prop} {s : St}
  (h : ∀ K : St -> Prop, (∀ s', Q .normal s' -> K s') -> wpT ty P orc (l.map (·.dst)) s.nxt 0 l { s with nxt := s.nxt + l.length } K) : AWp P (.region id l.toArray false) Q s := by
 intro g a w hr;refine wp_region ?_;have hw := zgp (P := P) hc (orc := orc) (gs := l.map (·.dst)) (ops := l.toArray) (by intro j; simp) (base := s.nxt) (nxt := s.nxt + l.length)
  (Q := fun e a' w' => ∃ s' g', zcs s' g' a' w' /\ zan g w g' w' /\ Q e s') (K := fun s' => Q .normal s') (g0 := g) (w0 := w)
  (fun s' g' a' w' h1 h2 h3 => ⟨s', g', h1, h2, h3⟩) l 0 { s with nxt := s.nxt + l.length } g a w (by simp) rfl ⟨hr.defers, hr.size, hr.tmp, fun id hu => by have := hr.used id hu; simpa using this, hr.heap⟩ (zan.refl g w) (h _ fun _ hq => hq)
 have := wpOps_eq_wpList (P := P) (ops := l.toArray) (Q := fun e a' w' => ∃ s' g', zcs s' g' a' w' /\ zan g w g' w' /\ Q e s') l 0 (by intro j; simp);rw [show List.range l.toArray.size = List.range' 0 l.length by simp [List.range_eq_range'], this];exact hw

section
variable {P : Program} {Q : Exit -> St -> Prop} {s : St}

def seqQ (K : St -> Prop) (Q : Exit -> St -> Prop) : Exit -> St -> Prop
 | .normal, s => K s
 | e, s => Q e s

theorem awp_seq {x y : Code} (h : AWp P x (seqQ (fun s' => AWp P y Q s') Q) s) : AWp P (.seq x y) Q s := by
 intro g a w hr;refine wp_seq (wp_mono (h g a w hr) fun e a' w' ⟨s', g', h1, h2, h3⟩ => ?_);cases e with
 | normal => exact wp_mono (h3 g' a' w' h1) fun e2 a2 w2 ⟨s2, g2, k1, k2, k3⟩ => ⟨s2, g2, k1, h2.trans k2, k3⟩
 | _ => exact ⟨s', g', h1, h2, h3⟩

theorem awp_skip (h : Q .normal s) : AWp P .skip Q s := fun g a w hr => wp_skip ⟨s, g, hr, zan.refl g w, h⟩
theorem awp_label {l : Nat} (h : Q .normal s) : AWp P (.label l) Q s := fun g a w hr => wp_label ⟨s, g, hr, zan.refl g w, h⟩
theorem awp_exit {id : Nat} (h : Q (.exit id) s) : AWp P (.exit id) Q s := fun g a w hr => wp_exit ⟨s, g, hr, zan.refl g w, h⟩
theorem awp_ret (h : Q .ret s) : AWp P .ret Q s := fun g a w hr => wp_ret ⟨s, g, hr, zan.refl g w, h⟩

theorem zd {c : Operand} {x y : Code} {b : Bool} (hc : s.eval c = .d (.bool b)) (ht : b = true -> AWp P x Q s) (hf : b = false -> AWp P y Q s) : AWp P (.cond c x y) Q s := by
 intro g a w hr;have h1 := zef hr (fun _ => rfl) c;rw [hc] at h1;simp only [zh, zr] at h1;exact wp_cond_split h1 (fun hb => ht hb g a w hr) (fun hb => hf hb g a w hr)

def zfk (id : Nat) (Q : Exit -> St -> Prop) : Exit -> St -> Prop
 | .exit id', s => if id' = id then Q .normal s else Q (.exit id') s
 | e, s => Q e s

theorem awp_block {id : Nat} {c : Code} (h : AWp P c (zfk id Q) s) : AWp P (.block id c) Q s := by
 intro g a w hr;refine wp_block (wp_mono (h g a w hr) fun e a' w' ⟨s', g', h1, h2, h3⟩ => ?_);cases e with
 | exit id' =>
  simp only [zfk] at h3;simp only [Exit.inBlock];split at h3
  ·rename_i he; rw [if_pos he]; exact ⟨s', g', h1, h2, h3⟩
  ·rename_i he; rw [if_neg he]; exact ⟨s', g', h1, h2, h3⟩
 | _ => exact ⟨s', g', h1, h2, h3⟩

def zpo (Q : Exit -> St -> Prop) : Exit -> St -> Prop
 | .goto _, _ => False
 | e, s => Q e s

theorem awp_scope {c : Code} (h : AWp P c (zpo Q) s) : AWp P (.scope c) Q s := by
 intro g a w hr;refine wp_scope_straight (wp_mono (h g a w hr) fun e a' w' ⟨s', g', h1, h2, h3⟩ => ?_);cases e with
 | goto l => exact h3.elim
 | _ => exact ⟨s', g', h1, h2, h3⟩

def zeh (s s' : St) : Prop := ∀ g a w, zcs s g a w -> ∃ g', zcs s' g' a w /\ zan g w g' w

theorem zeh.refl (s : St) : zeh s s := fun g a w hr => ⟨g, hr, zan.refl g w⟩

theorem zby {c : Code} {s' : St} (hw : zeh s s') (h : AWp P c Q s') : AWp P c Q s := by
 intro g a w hr;obtain ⟨g', hr', hs⟩ := hw g a w hr;exact wp_mono (h g' a w hr') fun e a' w' ⟨s2, g2, h1, h2, h3⟩ => ⟨s2, g2, h1, hs.trans h2, h3⟩

theorem zpf {c : Code} {Q : Exit -> Act -> World -> Prop} (R : Nat -> Act -> World -> Prop) (round : ∀ n a w, R n a w -> c.wp P (Exit.then (fun a' w' => ∃ m, m < n /\ R m a' w') Q) a w) {n : Nat} {a : Act} {w : World} (h : R n a w) : (Code.loop c).wp P Q a w := by
 intro b k cs;have key : ∀ n a w, R n a w -> ∃ e a' w', Q e a' w' /\ Arrives P (lone (b.at a (.code c :: .inLoop c :: k)) cs w) b k cs e a' w' := by
  intro n;induction n using Nat.strongRecOn with
  | _ n ih =>
   intro a w hR;obtain ⟨e, a₁, w₁, hq, harr⟩ := round n a w hR b (.inLoop c :: k) cs;cases e with
   | normal =>
    obtain ⟨m, hlt, hR₁⟩ := hq;obtain ⟨e₂, a₂, w₂, hq₂, harr₂⟩ := ih m hlt a₁ w₁ hR₁;exact ⟨e₂, a₂, w₂, hq₂, .of_steps (Steps.trans harr (.one step_inLoop)) harr₂⟩
   | exit id => exact ⟨_, a₁, w₁, hq, .pass (x := .inLoop c) rfl (fun _ _ => .inl (by simp)) harr⟩
   | goto l => exact ⟨_, a₁, w₁, hq, .pass (x := .inLoop c) rfl (fun _ _ => .inl (by simp)) harr⟩
   | ret => exact ⟨_, a₁, w₁, hq, .pass (x := .inLoop c) rfl (fun _ _ => .inl (by simp)) harr⟩
   | panic ch => exact ⟨_, a₁, w₁, hq, .pass (x := .inLoop c) rfl (fun _ _ => .inl (by simp)) harr⟩
   | outgrown => exact ⟨_, a₁, w₁, hq, .pass (x := .inLoop c) rfl (fun _ _ => .inl (by simp)) harr⟩
 obtain ⟨e, a', w', hq, harr⟩ := key n a w h;exact ⟨e, a', w', hq, .of_steps (.one step_loop) harr⟩

theorem zz {c : Code} {β : Type} (I : β -> St) (inv : β -> Prop) (meas : β -> Nat) (b0 : β) (h0 : zeh s (I b0)) (hi : inv b0)
  (round : ∀ b, inv b -> AWp P c (seqQ (fun s' => ∃ b', inv b' /\ meas b' < meas b /\ zeh s' (I b')) Q) (I b)) : AWp P (.loop c) Q s := by
 refine zby h0 ?_;intro g a w hr;refine zpf (fun n a' w' => ∃ b g', inv b /\ meas b = n /\ zcs (I b) g' a' w' /\ zan g w g' w') ?_ (n := meas b0) ⟨b0, g, hi, rfl, hr, zan.refl g w⟩;rintro n a1 w1 ⟨b, g1, hb, rfl, hr1, hs1⟩;refine wp_mono (round b hb g1 a1 w1 hr1) fun e a2 w2 ⟨s2, g2, h1, h2, h3⟩ => ?_;cases e with
 | normal =>
  obtain ⟨b', k1, k2, k3⟩ := h3;obtain ⟨g3, h4, h5⟩ := k3 g2 a2 w2 h1;exact ⟨meas b', k2, b', g3, k1, rfl, h4, hs1.trans (h2.trans h5)⟩
 | _ => exact ⟨s2, g2, h1, hs1.trans h2, h3⟩

end
end Go.Abs

namespace Go.Abs
variable [Flag]
open Go.RowKit

def zjx : Nat -> List D -> List (Nat × AV) -> List (Nat × AV)
 | _, [], acc => acc
 | i, d :: ds, acc => zjx (i + 1) ds ((i, .d d) :: acc)

def start (n : Nat) (ds : List D) : St := ⟨n, zjx 0 ds [], [], 0⟩

theorem zqm : ∀ (i : Nat) (ds : List D) (acc : List (Nat × AV)) (t : Nat), find (zjx i ds acc) t = if i <= t /\ t < i + ds.length then (ds[t - i]?).map AV.d else find acc t
 | i, [], acc, t => by simp only [zjx, List.length_nil, Nat.add_zero]; rw [if_neg (by omega)]
 | i, d :: ds, acc, t => by
  simp only [zjx, List.length_cons];rw [zqm (i + 1) ds];by_cases e : i = t
  ·subst e;rw [if_neg (by omega), if_pos (by omega)];simp [find]
  ·by_cases e2 : i + 1 <= t /\ t < i + 1 + ds.length
   ·rw [if_pos e2, if_pos (by omega), show t - i = (t - (i + 1)) + 1 by omega, List.getElem?_cons_succ]
   ·rw [if_neg e2, if_neg (by omega)];simp [find, e]

theorem zrb {n : Nat} {ds : List D} {vs : List Value} {ro : Nat -> Prop} {w : World} (hro : ∀ b, ro b -> b < w.heap.size) (hd : zq ro w ds vs) (hn : ds.length <= n) :
  zcs (start n ds) ⟨ro, fun _ => none, fun _ => False⟩ { tmps := vs.toArray ++ Array.replicate (n - vs.toArray.size) undef, defers := [] } w := by
 have hl := hd.length;refine ⟨rfl, by simp only [Array.size_append, List.size_toArray, Array.size_replicate, start]; omega, fun t => ?_, fun _ h => h.elim, ⟨fun id o h => by simp [St.obj, start, find] at h, fun _ _ => rfl, fun _ _ h => by simp at h, fun _ _ _ _ h => by simp at h, hro⟩⟩;simp only [St.get, start, zqm];by_cases e : 0 <= t /\ t < 0 + ds.length
 ·rw [if_pos e];obtain ⟨d, hdt⟩ : ∃ d, ds[t]? = some d := ⟨ds[t]'(by omega), List.getElem?_eq_getElem _⟩
  obtain ⟨v, hv, hr⟩ := hd.get t d hdt;simp only [Nat.sub_zero, hdt, Option.map_some, Option.getD_some, zh];have hlt : t < vs.length := (List.getElem?_eq_some_iff.1 hv).1;have : (vs.toArray ++ Array.replicate (n - vs.toArray.size) undef)[t]? = some v := by
   rw [Array.getElem?_append_left (by simpa using hlt)];simpa using hv
  simp only [Array.getD_eq_getD_getElem?, this, Option.getD_some];exact hr
 ·rw [if_neg e];simp [find, zh]

def zfz (ty : TypeId -> Option TI) (s : St) : List ResultVar -> Option (List AV)
 | [] => some []
 | .tmp t :: r => (zfz ty s r).map (s.get t :: ·)
 | .cell a t :: r => (zlo ty t s.obj [s.get a]).bind fun e => (zfz ty s r).map (e.val :: ·)

def zhs : List AV -> AV
 | [x] => x
 | l => .tup l

def zmk (s : St) (x : AV) : Res -> Prop
 | .p d => match zho s.obj x with | some y => y.1 = d /\ y.2.1 | none => False
 | .o e m rows => match x with
  | .nl => rows = [] /\ 0 < m
  | .hs id 0 len => match s.obj id with
   | some o => o.elem = e /\ o.m = m /\ (match zdc o.rows with | some R => R.take len = rows /\ len <= R.length | none => False)
   | none => False
  | _ => False
 | .x _ => False
 | .skip => False
 | .ub _ => False
 | .f d => match zhr s.obj x with | some y => y.1 = d /\ y.2 | none => False

theorem resOk_p {s : St} {x : AV} {d : D} (h : zmk s x (.p d)) : ∃ p b, zho s.obj x = some (d, p, b) /\ p := by
 simp only [zmk] at h;split at h
 ·rename_i y hy; obtain ⟨d', p, b⟩ := y; obtain ⟨rfl, hp⟩ := h; exact ⟨p, b, hy, hp⟩
 ·exact h.elim

theorem resOk_o {s : St} {x : AV} {e : TypeId} {m : Nat} {rows : List (List D)} (h : zmk s x (.o e m rows)) :
  (x = .nl /\ rows = [] /\ 0 < m) \/ ∃ id len o R, x = .hs id 0 len /\ s.obj id = some o /\ o.elem = e /\ o.m = m /\ zdc o.rows = some R /\ rows = R.take len /\ len <= R.length := by
 simp only [zmk] at h;split at h
 ·exact .inl ⟨rfl, h⟩
 ·rename_i id len;split at h
  ·rename_i o ho;obtain ⟨h1, h2, h3⟩ := h;split at h3
   ·rename_i R hR; exact .inr ⟨id, len, o, R, rfl, ho, h1, h2, hR, h3.1.symm, h3.2⟩
   ·exact h3.elim
  ·exact h.elim
 ·exact h.elim

def retQ (ty : TypeId -> Option TI) (rs : List ResultVar) (r : Res) : Exit -> St -> Prop
 | .normal, s | .ret, s => match zfz ty s rs with | some l => zmk s (zhs l) r | none => False
 | _, _ => False

theorem zrg {ty : TypeId -> Option TI} {rs : List ResultVar} {r : Res} {s : St} (h : match zfz ty s rs with | some l => zmk s (zhs l) r | none => False) : ∃ l, zfz ty s rs = some l /\ zmk s (zhs l) r := by
 split at h
 ·rename_i l hl; exact ⟨l, hl, h⟩
 ·exact h.elim

def resOne (tmps : Array Value) : ResultVar -> Sem Value
 | .tmp t => pure (tmps.getD t undef)
 | .cell a t => do loadVar t (<- asAddr (tmps.getD a undef))

theorem run_asAddr_ptr (P : Program) (w : World) (ad : Addr) : (asAddr (.pointer (some ad))).run P w = .ok ad w := rfl

theorem resAs_run {P : Program} {ty : TypeId -> Option TI} (hc : Ctx P ty) {s : St} {g : G} {a : Act} {w : World} (h : zcs s g a w) : ∀ (rs : List ResultVar) (l : List AV), zfz ty s rs = some l ->
  ∃ vs : List Value, (rs.mapM (resOne a.tmps)).run P w = .ok vs w /\ zj g w l vs
 | [], l, hl => by simp [zfz] at hl; subst hl; exact ⟨[], by simp, by simp [zj]⟩
 | .tmp t :: r, l, hl => by
  simp only [zfz, Option.map_eq_some_iff] at hl;obtain ⟨l', hl', rfl⟩ := hl;obtain ⟨vs, h1, h2⟩ := resAs_run hc h r l' hl';refine ⟨a.tmps.getD t undef :: vs, ?_, by simp only [zj]; exact ⟨_, _, rfl, h.tmp t, h2⟩⟩;simp only [List.mapM_cons, resOne, Sem.run_bind, Sem.run_pure, Result.andThen_ok, h1]
 | .cell c t :: r, l, hl => by
  simp only [zfz] at hl;cases he : zlo ty t s.obj [s.get c] with
  | none => rw [he] at hl; cases hl
  | some e =>
   rw [he] at hl;simp only [Option.bind_some, Option.map_eq_some_iff] at hl;obtain ⟨l', hl', rfl⟩ := hl;obtain ⟨vs, h1, h2⟩ := resAs_run hc h r l' hl';have hd := zsn (P := P) (o := { dst := none, op := .load t (.tmp c), type := 0, pos := "", after := #[], guard := none }) (nid := 0) (a := a) hc h.heap rfl (args := [s.get c]) (by
    simp only [zj]; exact ⟨_, [], rfl, h.tmp c, rfl⟩) he
   have hload : ∃ v, (Instr.loadAt t (a.tmps.getD c undef)).run P w = .ok v w /\ zh g w e.val v := by
    unfold zlo at he;have hx := h.tmp c;split at he
    ·rename_i id i j heq;simp only [List.cons.injEq, and_true] at heq;rw [heq] at hx;cases ht : ty t with
     | none => rw [ht] at he; cases he
     | some ti =>
      cases hob : s.obj id with
      | none => rw [ht, hob] at he; cases he
      | some ob =>
       rw [ht, hob] at he;simp only [Option.bind_some] at he;cases hrow : ob.rows[i]? with
       | none => rw [hrow] at he; cases he
       | some row =>
        rw [hrow] at he;simp only [Option.bind_some, Option.map_eq_some_iff] at he;obtain ⟨y, hy, rfl⟩ := he;obtain ⟨L, hL, hok⟩ := h.heap.own id ob hob;simp only [zh] at hx;obtain ⟨hv, hp⟩ := hx.2 L hL;obtain ⟨us, hul, hur, huc⟩ := hok.row hv hrow;rw [hp];exact zoa (hc.ok t ti ht) (huc.drop j) (hur.drop j) hy
    ·rename_i cs heq;simp only [List.cons.injEq, and_true] at heq;rw [heq] at hx;cases ht : ty t with
     | none => rw [ht] at he; cases he
     | some ti =>
      rw [ht] at he;simp only [Option.bind_some, Option.map_eq_some_iff] at he;obtain ⟨y, hy, rfl⟩ := he;simp only [zh, zr] at hx;obtain ⟨b, off, us, hp, hb, hr, hcell⟩ := hx;rw [hp];exact zoa (hc.ok t ti ht) hcell (zj.of_ds hr) hy
    ·cases he
   obtain ⟨v, hv, hrep⟩ := hload;refine ⟨v :: vs, ?_, by simp only [zj]; exact ⟨_, _, rfl, hrep, h2⟩⟩;have hv' : ∃ ad, a.tmps.getD c undef = .pointer (some ad) /\ (loadVar t ad).run P w = .ok v w := by
    cases hval : a.tmps.getD c undef <;> rw [hval] at hv <;> simp [Instr.loadAt, Instr.sureAddr] at hv
    case pointer p =>
     cases p with
     | none => simp at hv
     | some ad => exact ⟨ad, rfl, by simpa using hv⟩
   obtain ⟨ad, had, hlv⟩ := hv';simp only [List.mapM_cons, resOne, Sem.run_bind, had, run_asAddr_ptr, Sem.run_pure, Result.andThen_ok, hlv, h1]

theorem zpr {P : Program} {ty : TypeId -> Option TI} (hc : Ctx P ty) {s : St} {g : G} {a : Act} {w : World} (h : zcs s g a w) {fn : Func} {l : List AV} (hl : zfz ty s fn.results.toList = some l) :
  ∃ v, (results fn a.tmps).run P w = .ok v w /\ zh g w (zhs l) v := by
 obtain ⟨vs, h1, h2⟩ := resAs_run hc h _ l hl;refine ⟨if h : vs.toArray.size = 1 then vs.toArray[0] else .tuple vs.toArray, ?_, ?_⟩
 ·have hres : results fn a.tmps = (do
    let vs <- fn.results.mapM (resOne a.tmps)
    pure (if h : vs.size = 1 then vs[0] else .tuple vs)) := by
   unfold results
   congr 2
  rw [hres, Array.mapM_eq_mapM_toList];simp only [Sem.run_bind, Sem.run_map, h1, Result.andThen_ok, Sem.run_pure]
 ·have hlen := h2.length;unfold zhs;split
  ·rename_i x
   match vs, hlen, h2 with
   | [v], _, h2 => simpa using zcw h2
  ·rename_i hne;have hsz : vs.toArray.size ≠ 1 := by
    intro hs;simp at hs
    match l, hlen, hne with
    | [x], _, hne => exact hne x rfl
    | [], hlen, _ => simp at hlen; subst hlen; simp at hs
    | _ :: _ :: _, hlen, _ => rw [hs] at hlen; simp at hlen
   rw [dif_neg hsz];simp only [zh];exact ⟨vs, rfl, h2⟩

theorem zl {P : Program} {ty : TypeId -> Option TI} (hc : Ctx P ty) {f : FuncId} {fn : Func} {c : Code} {ds : List D} {r : Res} (hf : P.funcs[f]? = some fn) (hb : fn.body = some c) (hname : (fn.name == "runtime.NumGoroutine") = false) (hn : ds.length <= fn.ntmps)
  (h : AWp P c (retQ ty fn.results.toList r) (start fn.ntmps ds)) : PC P f ds r := by
 refine ⟨⟨fn, hf, hname, by rw [hb]; rfl⟩, fun ro w vs hro hd => ?_⟩;refine calls_of_wp hf hb (wp_mono (h _ _ w (zrb hro hd hn)) fun e a' w' ⟨s', g', h1, h2, h3⟩ => ?_);have done : (∃ l, zfz ty s' fn.results.toList = some l /\ zmk s' (zhs l) r) -> a'.defers = [] /\ ∃ v, (results fn a'.tmps).run P w' = .ok v w' /\ ∃ v', Ending.returned v = .returned v' /\ Below w.heap.size w w' /\ zdn ro w.heap.size w' r v' := by
  rintro ⟨l, hl, hok⟩;obtain ⟨v, hv, hrep⟩ := zpr hc h1 hl;refine ⟨h1.defers, v, hv, v, rfl, ⟨h2.os, h2.tape, h2.output, h2.size, fun k hk => h2.block k hk (by rintro ⟨_, _, h, _⟩; cases h)⟩, ?_⟩;have hro' : ∀ b, g'.ro b -> ro b \/ (w.heap.size <= b /\ b < w'.heap.size) := fun b hb => by
   rcases h2.ro' b hb with hh | hh | ⟨_, _, hh, _⟩
   ·exact .inl hh
   ·exact .inr ⟨hh, h1.heap.ro b hb⟩
   ·cases hh
  have hown' : ∀ b, g'.owns b -> w.heap.size <= b /\ b < w'.heap.size := fun b hb => by
   refine ⟨?_, ?_⟩
   ·rcases h2.own b hb with hh | ⟨_, _, hh, _⟩
    ·exact hh
    ·cases hh
   ·obtain ⟨x, L, hx, hvx, rfl⟩ := hb;exact ((h1.heap.live x L hx).2 hvx).1
  cases r with
  | x c => exact (show False from hok).elim
  | skip => exact (show False from hok).elim
  | ub b => exact (show False from hok).elim
  | f d =>
   simp only [zmk] at hok;split at hok
   ·rename_i y hy;obtain ⟨d', p⟩ := y;obtain ⟨rfl, hp⟩ := hok;simp only [zdn];exact zr.mono (fun b hb => ⟨hown' b hb, rfl⟩) d' v (zpn h1.heap _ _ _ _ hy hp hrep)
   ·exact hok.elim
  | p d =>
   obtain ⟨p, b, hs, hp⟩ := resOk_p hok;obtain ⟨k1, _⟩ := zno h1.heap _ _ _ _ _ hs hp hrep;simp only [zdn];exact zr.mono (fun b hb => ⟨hb.elim (hro' b) fun ho => .inr (hown' b ho), rfl⟩) d v k1
  | o e m rows =>
   simp only [zdn, OwnRes];rcases resOk_o hok with ⟨hx, rfl, hm⟩ | ⟨id, len, o, R, hx, hob, rfl, rfl, hR, rfl, hlen⟩
   ·rw [hx] at hrep;simp only [zh] at hrep;exact ⟨hm, .inl ⟨rfl, none, hrep⟩⟩
   ·rw [hx] at hrep;obtain ⟨L, hL, hok⟩ := h1.heap.own id o hob;refine ⟨by rw [<- hok.m]; exact hok.pos, ?_⟩;simp only [zh] at hrep;rcases hrep.2 L hL with ⟨_, _, rfl, hv'⟩ | ⟨hvirt, hle, hv'⟩
    ·exact .inl ⟨by simp, hv'⟩
    ·obtain ⟨cur, c1, c2, c3, c5⟩ := hok.cells hvirt;have hlenR : (R.take len).length = len := by simp; omega
     refine .inr ⟨L.blk, L.cap, cur, (hown' _ ⟨id, L, hL, hvirt.1, rfl⟩).1, by rw [hv', hlenR]; simp, c1, by rw [hlenR]; omega, c3, by rw [c2, hok.m], fun i row hi => ?_⟩;rw [List.getElem?_take] at hi;split at hi
     ·obtain ⟨arow, harow, had⟩ := zgs hR i row hi;obtain ⟨d1, d2⟩ := c5 i arow harow;obtain ⟨us, hul, hur, huc⟩ := hok.row hvirt harow;have hds := zj.allD had hur;refine ⟨by rw [<- hds.length, hul, hok.m], fun j d hj => ?_⟩;obtain ⟨u, hu, hru⟩ := hds.get j d hj;obtain ⟨hcell, hone⟩ := huc j u hu;have hcu : cur[i * o.m + j]? = some u := by
       rw [<- hok.m];rw [c1.cell] at hcell;simpa using hcell
      refine ⟨u, hcu, hone, zr.mono (fun b hb => ⟨?_, rfl⟩) d u hru⟩;rcases hro' b hb with hh | hh
      ·exact .inl hh
      ·exact .inr ⟨hh.1, hh.2, fun e' => ((h1.heap.live id L hL).2 hvirt.1).2 (e' ▸ hb)⟩
     ·cases hi
 cases e with
 | normal => exact done (zrg h3)
 | ret => exact done (zrg h3)
 | _ => exact h3.elim

def zqx : Nat -> List AV -> List (Nat × AV) -> List (Nat × AV)
 | _, [], acc => acc
 | i, d :: ds, acc => zqx (i + 1) ds ((i, d) :: acc)
def zuo (n : Nat) (Ls : Nat -> Loc) : List (Nat × Nat) -> List (Nat × AV)
 | [] => []
 | (i, _) :: r => (n + i, .pin i (Ls i)) :: zuo n Ls r
def obs : List (Nat × Ob) -> List (Nat × Option Ob)
 | [] => []
 | (i, o) :: r => (i, some o) :: obs r
def zpl (n : Nat) (as : List AV) (pin : List (Nat × Nat)) (Ls : Nat -> Loc) (hp : List (Nat × Ob)) (nxt : Nat) : St := ⟨n, zqx 0 as (zuo n Ls pin), obs hp, nxt⟩

theorem obs_find (id : Nat) : ∀ hp : List (Nat × Ob), find (obs hp) id = (find hp id).map some
 | [] => rfl
 | (i, o) :: r => by
  simp only [obs, find, obs_find id r];split <;> rfl

theorem find_addAVs : ∀ (i : Nat) (ds : List AV) (acc : List (Nat × AV)) (t : Nat), find (zqx i ds acc) t = if i <= t /\ t < i + ds.length then ds[t - i]? else find acc t
 | i, [], acc, t => by simp only [zqx, List.length_nil, Nat.add_zero]; rw [if_neg (by omega)]
 | i, d :: ds, acc, t => by
  simp only [zqx, List.length_cons];rw [find_addAVs (i + 1) ds];by_cases e : i = t
  ·subst e;rw [if_neg (by omega), if_pos (by omega)];simp [find]
  ·by_cases e2 : i + 1 <= t /\ t < i + 1 + ds.length
   ·rw [if_pos e2, if_pos (by omega), show t - i = (t - (i + 1)) + 1 by omega, List.getElem?_cons_succ]
   ·rw [if_neg e2, if_neg (by omega)];simp [find, e]

theorem find_pinTm {n : Nat} {Ls : Nat -> Loc} {t : Nat} {v : AV} : ∀ {pin : List (Nat × Nat)}, find (zuo n Ls pin) t = some v -> ∃ i j, (i, j) ∈ pin /\ v = .pin i (Ls i)
 | [], h => by simp [zuo, find] at h
 | (i, j) :: r, h => by
  simp only [zuo, find] at h;split at h
  ·cases h; exact ⟨i, j, List.mem_cons_self, rfl⟩
  ·obtain ⟨i', j', h1, h2⟩ := find_pinTm h;exact ⟨i', j', List.mem_cons_of_mem _ h1, h2⟩

def zkg (s : St) (ρ : List (Nat × Nat)) (n : Nat) (Ls : Nat -> Loc) : List (Nat × Nat) -> Prop
 | [] => True
 | (i, j) :: r => (match find ρ j with | some y => s.get (n + i) = .pin y (Ls i) /\ (s.obj y).isSome = true | none => False) /\ zkg s ρ n Ls r

def retX (ty : TypeId -> Option TI) (rs : List ResultVar) (n : Nat) (pin : List (Nat × Nat)) (hp' : List (Nat × Ob)) (r : AV) (Ls : Nat -> Loc) : Exit -> St -> Prop
 | .normal, s | .ret, s => ∃ ρ : List (Nat × Nat), match zfz ty s rs with
  | some l => zey ρ [r] [zhs l] /\ zkz s.obj ρ hp' /\ zev (ρ.map (·.2)) = true /\ ρ.map (·.1) = hp'.map (·.1) /\ zkg s ρ n Ls pin
  | none => False
 | _, _ => False

theorem retX_spec {ty : TypeId -> Option TI} {rs : List ResultVar} {n : Nat} {pin : List (Nat × Nat)} {hp' : List (Nat × Ob)} {r : AV} {Ls : Nat -> Loc} {s : St}
  (h : ∃ ρ : List (Nat × Nat), match zfz ty s rs with
   | some l => zey ρ [r] [zhs l] /\ zkz s.obj ρ hp' /\ zev (ρ.map (·.2)) = true /\ ρ.map (·.1) = hp'.map (·.1) /\ zkg s ρ n Ls pin
   | none => False) : ∃ ρ l, zfz ty s rs = some l /\ zey ρ [r] [zhs l] /\ zkz s.obj ρ hp' /\ zev (ρ.map (·.2)) = true /\ ρ.map (·.1) = hp'.map (·.1) /\ zkg s ρ n Ls pin := by
 obtain ⟨ρ, h⟩ := h;split at h
 ·rename_i l hl; exact ⟨ρ, l, hl, h⟩
 ·exact h.elim

theorem pinsOk_mem {s : St} {ρ : List (Nat × Nat)} {n : Nat} {Ls : Nat -> Loc} : ∀ {pin : List (Nat × Nat)}, zkg s ρ n Ls pin -> ∀ i j, (i, j) ∈ pin -> ∃ y, find ρ j = some y /\ s.get (n + i) = .pin y (Ls i) /\ (s.obj y).isSome = true
 | (a, b) :: r, h, i, j, hm => by
  simp only [zkg] at h;rcases List.mem_cons.1 hm with e | hm
  ·cases e;have h1 := h.1;split at h1
   ·rename_i y hy; exact ⟨y, hy, h1.1, h1.2⟩
   ·exact h1.elim
  ·exact pinsOk_mem h.2 i j hm

theorem zbv {P : Program} {ty : TypeId -> Option TI} (hc : Ctx P ty) {f : FuncId} {fn : Func} {c : Code} {as : List AV} {hp : List (Nat × Ob)} {pin : List (Nat × Nat)} {hp' : List (Nat × Ob)} {r : AV} (nxt : Nat)
  (hf : P.funcs[f]? = some fn) (hb : fn.body = some c) (hname : (fn.name == "runtime.NumGoroutine") = false) (hn : as.length <= fn.ntmps)
  (hids : (hp.all fun x => Nat.blt x.1 nxt) = true) (hpin : (pin.all fun x => (find hp x.1).isSome) = true)
  (h : ∀ Ls : Nat -> Loc, AWp P c (retX ty fn.results.toList fn.ntmps pin hp' r Ls) (zpl fn.ntmps as pin Ls hp nxt)) : PX P f as hp pin hp' r := by
 refine ⟨⟨fn, hf, hname, by rw [hb]; rfl⟩, fun g w vs hH hu hd => ?_⟩;have hl := hd.length
 let Ls : Nat -> Loc := fun i => (g.loc i).getD ⟨0, 0, 0, false, false⟩
 have hpin' : ∀ i j, (i, j) ∈ pin -> g.used i /\ g.loc i = some (Ls i) := fun i j hij => by
  have := List.all_eq_true.1 hpin (i, j) hij;obtain ⟨o, ho⟩ := Option.isSome_iff_exists.1 this;obtain ⟨L, hL, _⟩ := hH.own i o ho;exact ⟨(hH.live i L hL).1, by simp [Ls, hL]⟩
 have hrel : zcs (zpl fn.ntmps as pin Ls hp nxt) g { tmps := vs.toArray ++ Array.replicate (fn.ntmps - vs.toArray.size) undef, defers := [] } w := by
  refine ⟨rfl, by simp only [Array.size_append, List.size_toArray, Array.size_replicate, zpl]; omega, fun t => ?_, fun id hid => ?_, ?_⟩
  ·simp only [St.get, zpl, find_addAVs];by_cases e : 0 <= t /\ t < 0 + as.length
   ·rw [if_pos e];obtain ⟨d, hdt⟩ : ∃ d, as[t]? = some d := ⟨as[t]'(by omega), List.getElem?_eq_getElem _⟩
    obtain ⟨v, hv, hr⟩ := hd.get t d hdt;simp only [Nat.sub_zero, hdt, Option.getD_some];have hlt : t < vs.length := (List.getElem?_eq_some_iff.1 hv).1;have : (vs.toArray ++ Array.replicate (fn.ntmps - vs.toArray.size) undef)[t]? = some v := by
     rw [Array.getElem?_append_left (by simpa using hlt)];simpa using hv
    simp only [Array.getD_eq_getD_getElem?, this, Option.getD_some];exact hr
   ·rw [if_neg e];cases hf' : find (zuo fn.ntmps Ls pin) t with
    | none => simp [zh]
    | some v =>
     obtain ⟨i, j, hij, rfl⟩ := find_pinTm hf';simp only [Option.getD_some, zh];obtain ⟨h1, h2⟩ := hpin' i j hij;exact ⟨h1, fun M hM => by rw [h2] at hM; exact (Option.some.inj hM).symm⟩
  ·have h1 := hu id hid;obtain ⟨o, ho⟩ := Option.isSome_iff_exists.1 h1;have hk := zkp ho;obtain ⟨x, hx, rfl⟩ := List.mem_map.1 hk;exact Nat.le_of_ble_eq_true (List.all_eq_true.1 hids x hx)
  ·have : (zpl fn.ntmps as pin Ls hp nxt).obj = zkm hp := by
    funext id
    simp only [St.obj, zpl, obs_find, zkm];cases find hp id <;> rfl
   rw [this];exact hH
 refine calls_of_wp hf hb (wp_mono (h Ls _ _ w hrel) fun e a' w' ⟨s', g', h1, h2, h3⟩ => ?_);have done : (∃ ρ l, zfz ty s' fn.results.toList = some l /\ zey ρ [r] [zhs l] /\ zkz s'.obj ρ hp' /\ zev (ρ.map (·.2)) = true /\ ρ.map (·.1) = hp'.map (·.1) /\ zkg s' ρ fn.ntmps Ls pin) ->
   a'.defers = [] /\ ∃ v, (results fn a'.tmps).run P w' = .ok v w' /\ ∃ v' g2, Ending.returned v = .returned v' /\ zam g2 (zkm hp') w' /\ zh g2 w' r v' /\ zan g w g2 w' /\ ∀ i j, (i, j) ∈ pin -> g2.loc j = g.loc i := by
  rintro ⟨ρ, l, hl, hr, hhp, hρ, hdom, hpo⟩;obtain ⟨v, hv, hrep⟩ := zpr hc h1 hl;have hsame : ∀ b, (via g' ρ hp').owns b -> g'.owns b := fun b ⟨i, L, hL, hvv, hb⟩ => by
   obtain ⟨x, _, q⟩ := zme hL;exact ⟨x, L, q, hvv, hb⟩
  refine ⟨h1.defers, v, hv, v, via g' ρ hp', rfl, via_rel h1.heap hhp (zis hρ) hdom, ?_, ⟨h2.os, h2.tape, h2.output, h2.size, h2.block, fun b hb => h2.own b (hsame b hb), h2.ro, h2.ro'⟩, fun i j hij => ?_⟩
  ·have := zmj (g := g') (g' := via g' ρ hp') (w := w') (fun i x hi => zpi hdom hi) (fun i x hi => zni hi) (fun _ hb => hb) hr (vs := [v]) (by simp only [zj]; exact ⟨v, [], rfl, hrep, rfl⟩);exact zcw this
  ·obtain ⟨y, q1, q2, q3⟩ := pinsOk_mem hpo i j hij;have hty := h1.tmp (fn.ntmps + i);rw [q2] at hty;simp only [zh] at hty;obtain ⟨o, ho⟩ := Option.isSome_iff_exists.1 q3;obtain ⟨M, hM, _⟩ := h1.heap.own y o ho;rw [zni q1, hM, hty.2 M hM, (hpin' i j hij).2]
 cases e with
 | normal => exact done (retX_spec h3)
 | ret => exact done (retX_spec h3)
 | _ => exact h3.elim

section
variable {ty : TypeId -> Option TI} {rs : List ResultVar} {n : Nat} {pin : List (Nat × Nat)} {hp' : List (Nat × Ob)} {r : AV} {Ls : Nat -> Loc} {s : St} (ρ : List (Nat × Nat))
 (h : match zfz ty s rs with
  | some l => zey ρ [r] [zhs l] /\ zkz s.obj ρ hp' /\ zev (ρ.map (·.2)) = true /\ ρ.map (·.1) = hp'.map (·.1) /\ zkg s ρ n Ls pin
  | none => False)
include h
theorem znr : retX ty rs n pin hp' r Ls .ret s := ⟨ρ, h⟩
theorem zns : retX ty rs n pin hp' r Ls .normal s := ⟨ρ, h⟩
end

mutual
def up (σ : List (Nat × Option Nat)) : AV -> Option AV
 | .any => none
 | .nl => some .nl
 | .d x => some (.d x)
 | .hs id off len => match find σ id with
  | some (some old) => some (.hs old off len)
  | some none => if off = 0 /\ len = 0 then some .nl else none
  | none => none
 | .ptr id i j => match find σ id with
  | some (some old) => some (.ptr old i j)
  | _ => none
 | .agg l => (upL σ l).map .agg
 | .clo f l => (upL σ l).map (.clo f)
 | .tup l => (upL σ l).map .tup
 | .opt _ _ => none
 | .ub _ _ => none
 | .lit v => some (.lit v)
 | .pin id L => match find σ id with
  | some (some old) => some (.pin old L)
  | _ => none
 | .hm id => match find σ id with
  | some (some old) => some (.hm old)
  | _ => none
def upL (σ : List (Nat × Option Nat)) : List AV -> Option (List AV)
 | [] => some []
 | a :: as => match up σ a, upL σ as with | some x, some y => some (x :: y) | _, _ => none
end

def upR (σ : List (Nat × Option Nat)) : List (List AV) -> Option (List (List AV))
 | [] => some []
 | a :: as => match upL σ a, upR σ as with | some x, some y => some (x :: y) | _, _ => none

theorem upL_map (σ : List (Nat × Option Nat)) (l : List D) : upL σ (l.map AV.d) = some (l.map AV.d) := by
 induction l with
 | nil => rfl
 | cons x l ih => simp [upL, up, ih]

theorem upR_dr (σ : List (Nat × Option Nat)) (l : List (List D)) : upR σ (dr l) = some (dr l) := by
 induction l with
 | nil => rfl
 | cons x l ih =>
  show upR σ (x.map AV.d :: dr l) = some (x.map AV.d :: dr l)
  simp [upR, upL_map, ih]

def upT (σ : List (Nat × Option Nat)) (s : St) : List (Nat × AV) -> Prop
 | [] => True
 | (t, v) :: r => (match v with | .any => True | v => up σ v = some (s.get t)) /\ upT σ s r

def upH (σ : List (Nat × Option Nat)) (s : St) : List (Nat × Option Ob) -> Prop
 | [] => True
 | (id, some o') :: r => (match find σ id with
   | some (some old) => ∃ o, s.obj old = some o /\ o.elem = o'.elem /\ o.m = o'.m /\ upR σ o'.rows = some o.rows
   | some none => o'.rows = [] /\ 0 < o'.m
   | none => False) /\ upH σ s r
 | (_, none) :: r => upH σ s r

def zp : List (Nat × Option Nat) -> List Nat
 | [] => []
 | (_, some o) :: r => o :: zp r
 | (_, none) :: r => zp r

def zg (s' : St) : List (Nat × Option Nat) -> Prop
 | [] => True
 | (id, _) :: r => (s'.obj id).isSome = true /\ id < s'.nxt /\ zg s' r

def zez (σ : List (Nat × Option Nat)) (s' : St) (g : G) : G :=
 ⟨g.ro, fun id => match find σ id, s'.obj id with | some (some old), some _ => g.loc old | some none, some o => some ⟨0, o.m, 0, true, false⟩ | _, _ => none, fun id => (find σ id).isSome = true⟩

theorem zfp {s' : St} : ∀ {σ : List (Nat × Option Nat)}, zg s' σ -> ∀ id, (find σ id).isSome = true -> (s'.obj id).isSome = true /\ id < s'.nxt
 | [], _, id, h => by simp [find] at h
 | (k, v) :: r, hn, id, h => by
  simp only [zg] at hn;simp only [find] at h;split at h
  ·rename_i e; subst e; exact ⟨hn.1, hn.2.1⟩
  ·exact zfp hn.2.2 id h

theorem zmw : ∀ {σ : List (Nat × Option Nat)} {id old : Nat}, find σ id = some (some old) -> old ∈ zp σ
 | [], id, old, h => by simp [find] at h
 | (k, v) :: r, id, old, h => by
  simp only [find] at h;split at h
  ·cases h; simp [zp]
  ·cases v <;> simp only [zp]
   ·exact zmw h
   ·exact List.mem_cons_of_mem _ (zmw h)

theorem find_inj : ∀ {σ : List (Nat × Option Nat)} {a b old : Nat}, (zp σ).Nodup -> find σ a = some (some old) -> find σ b = some (some old) -> a = b
 | [], a, b, old, _, h, _ => by simp [find] at h
 | (k, v) :: r, a, b, old, hn, h1, h2 => by
  simp only [find] at h1 h2;cases v with
  | none =>
   simp only [zp] at hn;split at h1
   ·cases h1
   ·split at h2
    ·cases h2
    ·exact find_inj hn h1 h2
  | some o =>
   simp only [zp, List.nodup_cons] at hn;split at h1
   ·rename_i e1;cases h1;split at h2
    ·rename_i e2; rw [<- e1, <- e2]
    ·exact absurd (zmw h2) hn.1
   ·split at h2
    ·cases h2;exact absurd (zmw h1) hn.1
    ·exact find_inj hn.2 h1 h2

mutual
theorem up_rep {σ : List (Nat × Option Nat)} {s' : St} {g : G} {w : World} (hn : zg s' σ) : ∀ (x y : AV) (v : Value), up σ x = some y -> zh g w y v -> zh (zez σ s' g) w x v
 | .any, y, v, hx, _ => by simp [up] at hx
 | .opt _ _, y, v, hx, _ => by simp [up] at hx
 | .ub _ _, y, v, hx, _ => by simp [up] at hx
 | .lit u, y, v, hx, h => by simp [up] at hx; subst hx; simpa [zh] using h
 | .pin id L0, y, v, hx, h => by
  simp only [up] at hx;cases hf : find σ id with
  | none => rw [hf] at hx; cases hx
  | some q =>
   obtain ⟨o', ho'⟩ := Option.isSome_iff_exists.1 (zfp hn id (by rw [hf]; rfl)).1;cases q with
   | some old =>
    rw [hf] at hx;cases hx;simp only [zh] at h ⊢;refine ⟨by simp [zez, hf], fun L hL => h.2 L ?_⟩;simpa [zez, hf, ho'] using hL
   | none => rw [hf] at hx; cases hx
 | .nl, y, v, hx, h => by simp [up] at hx; subst hx; simpa [zh] using h
 | .d x, y, v, hx, h => by simp [up] at hx; subst hx; simpa [zh, zez] using h
 | .hs id off len, y, v, hx, h => by
  simp only [up] at hx;cases hf : find σ id with
  | none => rw [hf] at hx; cases hx
  | some q =>
   obtain ⟨o', ho'⟩ := Option.isSome_iff_exists.1 (zfp hn id (by rw [hf]; rfl)).1;cases q with
   | some old =>
    rw [hf] at hx;cases hx;simp only [zh] at h ⊢;refine ⟨⟨by simp [zez, hf], h.1.2⟩, fun L hL => h.2 L ?_⟩;simpa [zez, hf, ho'] using hL
   | none =>
    rw [hf] at hx;simp only at hx;split at hx
    ·rename_i e;cases hx;obtain ⟨rfl, rfl⟩ := e;simp only [zh] at h ⊢;subst h;refine ⟨⟨by simp [zez, hf], rfl⟩, fun L hL => ?_⟩;simp only [zez, hf, ho', Option.some.injEq] at hL;subst hL;exact .inl ⟨by trivial, by trivial, by trivial, none, rfl⟩
    ·cases hx
 | .ptr id i j, y, v, hx, h => by
  simp only [up] at hx;cases hf : find σ id with
  | none => rw [hf] at hx; cases hx
  | some q =>
   obtain ⟨o', ho'⟩ := Option.isSome_iff_exists.1 (zfp hn id (by rw [hf]; rfl)).1;cases q with
   | some old =>
    rw [hf] at hx;cases hx;simp only [zh] at h ⊢;refine ⟨⟨by simp [zez, hf], h.1.2⟩, fun L hL => h.2 L ?_⟩;simpa [zez, hf, ho'] using hL
   | none => rw [hf] at hx; cases hx
 | .hm id, y, v, hx, h => by
  simp only [up] at hx;cases hf : find σ id with
  | none => rw [hf] at hx; cases hx
  | some q =>
   obtain ⟨o', ho'⟩ := Option.isSome_iff_exists.1 (zfp hn id (by rw [hf]; rfl)).1;cases q with
   | some old =>
    rw [hf] at hx;cases hx;simp only [zh] at h ⊢;refine ⟨⟨by simp [zez, hf], h.1.2⟩, fun L hL => h.2 L ?_⟩;simpa [zez, hf, ho'] using hL
   | none => rw [hf] at hx; cases hx
 | .agg l, y, v, hx, h => by
  simp only [up, Option.map_eq_some_iff] at hx;obtain ⟨l', hl', rfl⟩ := hx;simp only [zh] at h ⊢;obtain ⟨vs, hv, ho, hr⟩ := h;exact ⟨vs, hv, ho, zud hn l l' vs hl' hr⟩
 | .clo f l, y, v, hx, h => by
  simp only [up, Option.map_eq_some_iff] at hx;obtain ⟨l', hl', rfl⟩ := hx;simp only [zh] at h ⊢;obtain ⟨vs, hv, hr⟩ := h;exact ⟨vs, hv, zud hn l l' vs hl' hr⟩
 | .tup l, y, v, hx, h => by
  simp only [up, Option.map_eq_some_iff] at hx;obtain ⟨l', hl', rfl⟩ := hx;simp only [zh] at h ⊢;obtain ⟨vs, hv, hr⟩ := h;exact ⟨vs, hv, zud hn l l' vs hl' hr⟩
theorem zud {σ : List (Nat × Option Nat)} {s' : St} {g : G} {w : World} (hn : zg s' σ) : ∀ (x y : List AV) (v : List Value), upL σ x = some y -> zj g w y v -> zj (zez σ s' g) w x v
 | [], y, v, hx, h => by simp [upL] at hx; subst hx; simpa [zj] using h
 | a :: as, y, v, hx, h => by
  simp only [upL] at hx;cases h1 : up σ a with
  | none => rw [h1] at hx; cases hx
  | some b =>
   cases h2 : upL σ as with
   | none => rw [h1, h2] at hx; cases hx
   | some bs =>
    rw [h1, h2] at hx;cases hx;simp only [zj] at h ⊢;obtain ⟨u, us, rfl, k1, k2⟩ := h;exact ⟨u, us, rfl, up_rep hn a b u h1 k1, zud hn as bs us h2 k2⟩
end

theorem upR_get {σ : List (Nat × Option Nat)} : ∀ {x y : List (List AV)}, upR σ x = some y -> x.length = y.length /\ ∀ (i : Nat) (r : List AV), x[i]? = some r -> ∃ r', y[i]? = some r' /\ upL σ r = some r'
 | [], y, h => by simp [upR] at h; subst h; exact ⟨rfl, fun i r hi => by simp at hi⟩
 | a :: as, y, h => by
  simp only [upR] at h;cases h1 : upL σ a with
  | none => rw [h1] at h; cases h
  | some b =>
   cases h2 : upR σ as with
   | none => rw [h1, h2] at h; cases h
   | some bs =>
    rw [h1, h2] at h;cases h;obtain ⟨k1, k2⟩ := upR_get h2;refine ⟨by simp [k1], fun i r hi => ?_⟩;cases i with
    | zero => simp at hi; subst hi; exact ⟨b, by simp, h1⟩
    | succ i => simp at hi; obtain ⟨r', hr', hu⟩ := k2 i r hi; exact ⟨r', by simpa using hr', hu⟩

theorem upL_length {σ : List (Nat × Option Nat)} : ∀ {x y : List AV}, upL σ x = some y -> x.length = y.length
 | [], y, h => by simp [upL] at h; subst h; rfl
 | a :: as, y, h => by
  simp only [upL] at h;cases h1 : up σ a with
  | none => rw [h1] at h; cases h
  | some b =>
   cases h2 : upL σ as with
   | none => rw [h1, h2] at h; cases h
   | some bs => rw [h1, h2] at h; cases h; simp [upL_length h2]

theorem upL_get {σ : List (Nat × Option Nat)} : ∀ {x y : List AV}, upL σ x = some y -> ∀ (i : Nat) (r : AV), x[i]? = some r -> ∃ r', y[i]? = some r' /\ up σ r = some r'
 | [], y, h => fun i r hi => by simp at hi
 | a :: as, y, h => by
  simp only [upL] at h;cases h1 : up σ a with
  | none => rw [h1] at h; cases h
  | some b =>
   cases h2 : upL σ as with
   | none => rw [h1, h2] at h; cases h
   | some bs =>
    rw [h1, h2] at h;cases h;intro i r hi;cases i with
    | zero => simp at hi; subst hi; exact ⟨b, by simp, h1⟩
    | succ i => simp at hi; obtain ⟨r', hr', hu⟩ := upL_get h2 i r hi; exact ⟨r', by simpa using hr', hu⟩

theorem upR_ents {σ : List (Nat × Option Nat)} {s' : St} {g : G} {w : World} (hn : zg s' σ) : ∀ (x y : List (List AV)) (es : List MapEntry), upR σ x = some y -> zad g w y es -> zad (zez σ s' g) w x es
 | [], y, es, h, he => by simp [upR] at h; subst h; simpa [zad] using he
 | a :: as, y, es, h, he => by
  simp only [upR] at h;split at h
  ·rename_i x1 y1 hx1 hy1;cases h;simp only [zad] at he ⊢;obtain ⟨e, es', rfl, h1, h2⟩ := he;exact ⟨e, es', rfl, zud hn a x1 _ hx1 h1, upR_ents hn as y1 es' hy1 h2⟩
  ·cases h

theorem upT_find {σ : List (Nat × Option Nat)} {s : St} : ∀ {tm : List (Nat × AV)}, upT σ s tm -> ∀ t v, find tm t = some v -> v = .any \/ up σ v = some (s.get t)
 | [], _, t, v, h => by simp [find] at h
 | (k, x) :: r, hu, t, v, h => by
  simp only [upT] at hu;simp only [find] at h;split at h
  ·rename_i e;subst e;cases h;cases x
   case any => exact .inl rfl
   all_goals exact .inr hu.1
  ·exact upT_find hu.2 t v h

theorem upH_find {σ : List (Nat × Option Nat)} {s : St} : ∀ {hp : List (Nat × Option Ob)}, upH σ s hp -> ∀ id o', find hp id = some (some o') -> (match find σ id with
   | some (some old) => ∃ o, s.obj old = some o /\ o.elem = o'.elem /\ o.m = o'.m /\ upR σ o'.rows = some o.rows
   | some none => o'.rows = [] /\ 0 < o'.m
   | none => False)
 | [], _, id, o', h => by simp [find] at h
 | (k, x) :: r, hu, id, o', h => by
  simp only [find] at h;split at h
  ·rename_i e;subst e;cases h;simp only [upH] at hu;exact hu.1
  ·cases x <;> simp only [upH] at hu
   ·exact upH_find hu id o' h
   ·exact upH_find hu.2 id o' h

theorem zi {s s' : St} (σ : List (Nat × Option Nat)) (hn : s'.n = s.n) (htm : upT σ s s'.tm) (hhp : upH σ s s'.hp) (hnames : zg s' σ) (hinj : (zp σ).Nodup) : zeh s s' := by
 intro g a w h;have hloc : ∀ id L, (zez σ s' g).loc id = some L -> (∃ old, find σ id = some (some old) /\ g.loc old = some L) \/ (L.virt = true /\ find σ id = some none) := by
  intro id L hL;simp only [zez] at hL;split at hL
  ·rename_i old o h1 h2; exact .inl ⟨old, h1, hL⟩
  ·rename_i o h1 h2; cases hL; exact .inr ⟨rfl, h1⟩
  ·cases hL
 refine ⟨zez σ s' g, ⟨h.defers, by rw [h.size, hn], fun t => ?_, fun id hu => (zfp hnames id hu).2, ⟨?_, ?_, ?_, ?_, h.heap.ro⟩⟩, ⟨rfl, ⟨rfl, .inr (Nat.le_refl _)⟩, rfl, Nat.le_refl _, fun _ _ _ => rfl, ?_, fun _ hb => hb, fun _ hb => .inl hb⟩⟩
 ·cases hf : find s'.tm t with
  | none => simp [St.get, hf, zh]
  | some v =>
   have : s'.get t = v := by simp [St.get, hf]
   rw [this];rcases upT_find htm t v hf with rfl | hu
   ·simp [zh]
   ·exact up_rep hnames v _ _ hu (h.tmp t)
 ·intro id o' ho';have hf : find s'.hp id = some (some o') := by
   unfold St.obj at ho';cases hq : find s'.hp id with
   | none => rw [hq] at ho'; cases ho'
   | some q => rw [hq] at ho'; simp at ho'; rw [ho']
  have hm := upH_find hhp id o' hf;cases hσ : find σ id with
  | none => rw [hσ] at hm; exact hm.elim
  | some q =>
   cases q with
   | none =>
    rw [hσ] at hm;refine ⟨⟨0, o'.m, 0, true, false⟩, by simp [zez, hσ, ho'], rfl, hm.2, by simp [hm.1], fun _ => hm.1, by simp, by simp⟩
   | some old =>
    rw [hσ] at hm;obtain ⟨o, h1, h2, h3, h4⟩ := hm;obtain ⟨L, hL, hok⟩ := h.heap.own old o h1;obtain ⟨k1, k2⟩ := upR_get h4;refine ⟨L, by simp [zez, hσ, ho', hL], by rw [hok.m, h3], hok.pos, by rw [k1]; exact hok.len, fun hv => ?_, fun hv => ?_, fun hv => ⟨(hok.ents hv).1, (hok.ents hv).2.imp fun es he => he.imp fun clock he => ⟨he.1, he.2.1, upR_ents hnames _ _ _ h4 he.2.2⟩⟩⟩
    ·have := hok.virt hv;rw [this] at k1;exact List.eq_nil_of_length_eq_zero (by simpa using k1)
    ·obtain ⟨cur, c1, c2, c3, c5⟩ := hok.cells hv;refine ⟨cur, by rw [<- h2]; exact c1, c2, c3, fun i row hi => ?_⟩;obtain ⟨r', hr', hu⟩ := k2 i row hi;obtain ⟨d1, d2⟩ := c5 i r' hr';refine ⟨by rw [upL_length hu]; exact d1, fun j av hj => ?_⟩;obtain ⟨av', hav', huv⟩ := upL_get hu j av hj;obtain ⟨v, hv', ho, hr⟩ := d2 j av' hav';exact ⟨v, hv', ho, up_rep hnames av av' v huv hr⟩
 ·intro id hid;simp only [zez, hid];cases find σ id with
  | none => rfl
  | some q => cases q <;> rfl
 ·intro id L hL;rcases hloc id L hL with ⟨old, h1, h2⟩ | ⟨h1, h2⟩
  ·exact ⟨by simp [zez, h1], (h.heap.live old L h2).2⟩
  ·exact ⟨by simp [zez, h2], fun hv => by rw [h1] at hv; cases hv⟩
 ·intro x y L L' hx hy hv hv' hb;rcases hloc x L hx with ⟨o1, a1, b1⟩ | ⟨a1, _⟩
  ·rcases hloc y L' hy with ⟨o2, a2, b2⟩ | ⟨a2, _⟩
   ·have := h.heap.inj o1 o2 L L' b1 b2 hv hv' hb;subst this;exact find_inj hinj a1 a2
   ·rw [a2] at hv'; cases hv'
  ·rw [a1] at hv; cases hv
 ·rintro b ⟨x, L, hx, hv, rfl⟩;rcases hloc x L hx with ⟨o1, a1, b1⟩ | ⟨a1, _⟩
  ·exact .inr ⟨o1, L, b1, hv, rfl⟩
  ·rw [a1] at hv; cases hv


theorem wrap_i64 {n : Int} (h1 : -9223372036854775808 <= n) (h2 : n <= 9223372036854775807) : IntKind.i64.wrap n = n := by
 rw [IntKind.wrap_i64]; omega

theorem zrt (l : List (List D)) : (dr l).length = l.length := by simp [dr]
theorem dr_nil : dr [] = [] := rfl
theorem dr_cons (r : List D) (l : List (List D)) : dr (r :: l) = r.map AV.d :: dr l := rfl
theorem dr_append (a b : List (List D)) : dr (a ++ b) = dr a ++ dr b := by simp [dr]
theorem dr_at (l : List (List D)) (i : Nat) : (dr l)[i]? = (l[i]?).map fun r => r.map AV.d := by simp [dr]
theorem dr_take (l : List (List D)) (n : Nat) : (dr l).take n = dr (l.take n) := by simp [dr, List.map_take]
theorem dr_drop (l : List (List D)) (n : Nat) : (dr l).drop n = dr (l.drop n) := by simp [dr, List.map_drop]
theorem dr_set (l : List (List D)) (n : Nat) (r : List D) : dr (l.set n r) = (dr l).set n (r.map AV.d) := by simp [dr, List.map_set]

theorem upR_app (σ : List (Nat × Option Nat)) (b : List (List AV)) : ∀ a : List (List D), upR σ (dr a ++ b) = (upR σ b).map (dr a ++ ·)
 | [] => by show upR σ b = _; cases upR σ b <;> rfl
 | r :: a => by
  show upR σ (r.map AV.d :: (dr a ++ b)) = _
  simp only [upR, upL_map, upR_app σ b a];cases upR σ b <;> rfl
def upRS (σ : List (Nat × Option Nat)) (l : List (List D)) (k : Nat) (r : List AV) : Option (List (List AV)) := upR σ ((dr l).set k r)
theorem upR_set1 {σ : List (Nat × Option Nat)} {r r' : List AV} (h : upL σ r = some r') : ∀ (l : List (List D)) (k : Nat), upR σ ((dr l).set k r) = some ((dr l).set k r')
 | [], k => rfl
 | x :: l, 0 => by
  show upR σ (r :: dr l) = some (r' :: dr l)
  simp only [upR, h, upR_dr]
 | x :: l, k + 1 => by
  show upR σ (x.map AV.d :: (dr l).set k r) = some (x.map AV.d :: (dr l).set k r')
  simp only [upR, upL_map, upR_set1 h l k]
theorem upR_set (σ : List (Nat × Option Nat)) (r : List AV) (l : List (List D)) (k : Nat) : upR σ ((dr l).set k r) = match upL σ r with | some r' => some ((dr l).set k r') | none => upRS σ l k r := by
 cases h : upL σ r with
 | none => rfl
 | some r' => exact upR_set1 h l k
theorem rowsD_app (b : List (List AV)) : ∀ a : List (List D), zdc (dr a ++ b) = (zdc b).map (a ++ ·)
 | [] => by show zdc b = _; cases zdc b <;> rfl
 | r :: a => by
  show zdc (r.map AV.d :: (dr a ++ b)) = _
  simp only [zdc, allD_map, rowsD_app b a];cases zdc b <;> rfl

section
variable {K : St -> Prop} {Q : Exit -> St -> Prop} {s : St} {id i : Nat}
theorem sq_n (h : K s) : seqQ K Q .normal s := h
theorem sq_r (h : Q .ret s) : seqQ K Q .ret s := h
theorem sq_x (h : Q (.exit i) s) : seqQ K Q (.exit i) s := h
theorem bq_n (h : Q .normal s) : zfk id Q .normal s := h
theorem bq_r (h : Q .ret s) : zfk id Q .ret s := h
theorem bq_x (h : Q .normal s) : zfk id Q (.exit id) s := by simp only [zfk, if_true]; exact h
theorem bq_y (hn : Nat.beq i id = false) (h : Q (.exit i) s) : zfk id Q (.exit i) s := by
 have : i ≠ id := fun e => by rw [e, Nat.beq_refl] at hn; cases hn
 simp only [zfk, if_neg this]; exact h
theorem pq_n (h : Q .normal s) : zpo Q .normal s := h
theorem pq_r (h : Q .ret s) : zpo Q .ret s := h
theorem pq_x (h : Q (.exit i) s) : zpo Q (.exit i) s := h

theorem awp_ub {P : Program} {c : Code} (t : Nat) {p q : Bool} (ht : s.get t = .ub p q) (h : ∀ b, (b = true -> p = true) -> (b = false -> q = true) -> AWp P c Q { s with tm := (t, .d (.bool b)) :: s.tm }) : AWp P c Q s := by
 intro g a w hr;have hv := hr.tmp t;rw [ht] at hv;simp only [zh] at hv;obtain ⟨b, hb, h1, h2⟩ := hv;refine h b h1 h2 g a w ⟨hr.defers, hr.size, fun k => ?_, hr.used, hr.heap⟩;unfold St.get;simp only [find];split
 ·rename_i e;subst e;simp only [Option.getD_some, zh, zr];exact hb
 ·exact hr.tmp k

end

class Nav (X : Prop) (Y : outParam Prop) : Prop where
 imp : Y -> X
class Fls (b : Bool) : Prop where
 h : b = false
instance : Fls false := ⟨rfl⟩
section
variable {P : Program} {Q : Exit -> St -> Prop} {K : St -> Prop} {s : St} {x y c : Code} {id i : Nat} {X Y : Prop}
instance (priority := 10) nav_id : Nav X X := ⟨fun h => h⟩
instance nav_seq [h : Nav (AWp P x (seqQ (fun s' => AWp P y Q s') Q) s) Y] : Nav (AWp P (.seq x y) Q s) Y := ⟨fun k => awp_seq (h.imp k)⟩
instance nav_block [h : Nav (AWp P c (zfk id Q) s) Y] : Nav (AWp P (.block id c) Q s) Y := ⟨fun k => awp_block (h.imp k)⟩
instance nav_scope [h : Nav (AWp P c (zpo Q) s) Y] : Nav (AWp P (.scope c) Q s) Y := ⟨fun k => awp_scope (h.imp k)⟩
instance nav_skip [h : Nav (Q .normal s) Y] : Nav (AWp P .skip Q s) Y := ⟨fun k => awp_skip (h.imp k)⟩
instance nav_exit [h : Nav (Q (.exit id) s) Y] : Nav (AWp P (.exit id) Q s) Y := ⟨fun k => awp_exit (h.imp k)⟩
instance nav_ret [h : Nav (Q .ret s) Y] : Nav (AWp P .ret Q s) Y := ⟨fun k => awp_ret (h.imp k)⟩
instance nav_sn [h : Nav (K s) Y] : Nav (seqQ K Q .normal s) Y := ⟨fun k => sq_n (h.imp k)⟩
instance nav_sr [h : Nav (Q .ret s) Y] : Nav (seqQ K Q .ret s) Y := ⟨fun k => sq_r (h.imp k)⟩
instance nav_sx [h : Nav (Q (.exit i) s) Y] : Nav (seqQ K Q (.exit i) s) Y := ⟨fun k => sq_x (h.imp k)⟩
instance nav_bn [h : Nav (Q .normal s) Y] : Nav (zfk id Q .normal s) Y := ⟨fun k => bq_n (h.imp k)⟩
instance nav_br [h : Nav (Q .ret s) Y] : Nav (zfk id Q .ret s) Y := ⟨fun k => bq_r (h.imp k)⟩
instance nav_bx [h : Nav (Q .normal s) Y] : Nav (zfk id Q (.exit id) s) Y := ⟨fun k => bq_x (h.imp k)⟩
instance (priority := 500) nav_by [n : Fls (Nat.beq i id)] [h : Nav (Q (.exit i) s) Y] : Nav (zfk id Q (.exit i) s) Y := ⟨fun k => bq_y n.h (h.imp k)⟩
instance nav_pn [h : Nav (Q .normal s) Y] : Nav (zpo Q .normal s) Y := ⟨fun k => pq_n (h.imp k)⟩
instance nav_pr [h : Nav (Q .ret s) Y] : Nav (zpo Q .ret s) Y := ⟨fun k => pq_r (h.imp k)⟩
instance nav_px [h : Nav (Q (.exit i) s) Y] : Nav (zpo Q (.exit i) s) Y := ⟨fun k => pq_x (h.imp k)⟩
end

theorem ob {p q : Prop} (hq : q) (hp : p := by clear hK; intros; first | omega | (simp_all; done) | (simp_all <;> omega)) : p /\ q := ⟨hp, hq⟩
theorem nx {K Q : St -> Prop} {s : St} {Y : Prop} [h : Nav (Q s) Y] (hK : ∀ s', Q s' -> K s') (k : Y) : K s := hK s (h.imp k)
theorem rx {P : Program} {Q : Exit -> St -> Prop} {s : St} {ty : TypeId -> Option TI} (hc : Ctx P ty) (orc : List (Nat × Res)) {id : Nat} {l : List Oper} {s1 : St} {Y : Prop} (h : ∀ K : St -> Prop, K s1 -> wpT ty P orc (l.map (·.dst)) s.nxt 0 l { s with nxt := s.nxt + l.length } K) [n : Nav (Q .normal s1) Y] (k : Y) : AWp P (.region id l.toArray false) Q s := zc hc orc fun K hK => h K (hK s1 (n.imp k))
theorem rg {P : Program} {Q : Exit -> St -> Prop} {s : St} {ty : TypeId -> Option TI} (hc : Ctx P ty) {id : Nat} {l : List Oper} {s1 : St} {Y : Prop} [n : Nav (Q .normal s1) Y] (k : Y) (h : ∀ K : St -> Prop, K s1 -> wpT ty P [] (l.map (·.dst)) s.nxt 0 l { s with nxt := s.nxt + l.length } K := by intro K hK; simp [push_cast]; (repeat refine ob ?_); exact hK) : AWp P (.region id l.toArray false) Q s := rx hc [] h k
theorem awp_cn {P : Program} {Q : Exit -> St -> Prop} {s : St} {c : Operand} {x y : Code} {X Y : Prop} (b : Bool) [h1 : Nav (AWp P x Q s) X] [h2 : Nav (AWp P y Q s) Y] (hc : s.eval c = .d (.bool b)) (ht : b = true -> X) (hf : b = false -> Y) : AWp P (.cond c x y) Q s := zd hc (fun e => h1.imp (ht e)) (fun e => h2.imp (hf e))
theorem awp_cd {P : Program} {Q : Exit -> St -> Prop} {s : St} {c : Operand} {x y : Code} {X Y : Prop} (b : Bool) [h1 : Nav (AWp P x Q s) X] [h2 : Nav (AWp P y Q s) Y] (ht : b = true -> X) (hf : b = false -> Y) (hc : s.eval c = .d (.bool b) := by simp [push_cast]) : AWp P (.cond c x y) Q s := awp_cn b hc ht hf
theorem wk {s s' : St} (σ : List (Nat × Option Nat)) (htm : upT σ s s'.tm := by simp [upT, up, upL, push_cast]) (hhp : upH σ s s'.hp := by simp [upH, upR, upL, up, push_cast]) (hnames : zg s' σ := by simp [zg, push_cast]) (hinj : (zp σ).Nodup := by simp [zp]) (hn : s'.n = s.n := by rfl) : zeh s s' := zi σ hn htm hhp hnames hinj
theorem wq {s s' : St} (σ : List (Nat × Option Nat)) (h : upT σ s s'.tm /\ upH σ s s'.hp) (hnames : zg s' σ := by simp [zg, push_cast]) (hinj : (zp σ).Nodup := by simp [zp]) (hn : s'.n = s.n := by rfl) : zeh s s' := zi σ hn h.1 h.2 hnames hinj
theorem lB {n m : Nat} (h : n.ble m = true) : n <= m := Nat.le_of_ble_eq_true h
theorem pw {P : Program} {ty : TypeId -> Option TI} (hc : Ctx P ty) {f : FuncId} {fn : Func} {c : Code} {ds : List D} {r : Res} {n : Nat} {Y : Prop} (hf : P.funcs[f]? = some fn) (hn : fn.ntmps = n) (k : Y) [v : Nav (AWp P c (retQ ty fn.results.toList r) (start n ds)) Y] (hb : fn.body = some c := by rfl) (hm : (fn.name == "runtime.NumGoroutine") = false := by rfl) (hl : ds.length <= n := by exact lB rfl) : PC P f ds r := zl hc hf hb hm (by rw [hn]; exact hl) (by rw [hn]; exact v.imp k)
theorem wI (n : Int) (h1 : -9223372036854775808 <= n := by omega) (h2 : n <= 9223372036854775807 := by omega) : IntKind.i64.wrap n = n := wrap_i64 h1 h2
end Go.Abs
