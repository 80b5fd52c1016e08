/-
  Texts of this seat put together: Abs5, Abs6, Abs7, Abs8, Abs9, Abs10.
-/
import Derived.Test.YtdddknniooimmaaGreatJT1
import Derived.WalkSpells
import Derived.Scope
set_option linter.unusedVariables false
set_option linter.unusedSectionVars false
set_option linter.unusedSimpArgs false
namespace Go.Abs
variable [Flag]
open Go.RowKit

inductive Res where
 | p (d : D)
 | o (e : TypeId) (m : Nat) (rows : List (List D))
 | x (c : XC)
 | skip
 | f (d : D)
 | ub (b : Bool)

def OwnRes (ro : Nat -> Prop) (n0 : Nat) (w' : World) (e : TypeId) (m : Nat) (rows : List (List D)) (v : Value) : Prop :=
 0 < m /\ ((rows = [] /\ ∃ a, v = .slice a 0 0) \/ ∃ B cap cur, n0 <= B /\ v = .slice (some ⟨B, 0, none⟩) rows.length cap /\ zgc (w'.heap[B]?) e cur /\ rows.length <= cap /\ cap <= maxLen /\ cur.size = cap * m /\
  ∀ i row, rows[i]? = some row -> row.length = m /\ ∀ (j : Nat) (d : D), row[j]? = some d -> ∃ u : Value, cur[i * m + j]? = some u /\ u.oneCell' = true /\ zv (fun b => ro b \/ (n0 <= b /\ b < w'.heap.size /\ b ≠ B)) w' d u)

def zdu (ro : Nat -> Prop) (n0 : Nat) (w' : World) : Res -> Value -> Prop
 | .p d, v => zv (fun b => ro b \/ (n0 <= b /\ b < w'.heap.size)) w' d v
 | .o e m rows, v => OwnRes ro n0 w' e m rows v
 | .x _, _ => False
 | .skip, _ => False
 | .ub _, _ => False
 | .f d, v => zv (fun b => n0 <= b /\ b < w'.heap.size) w' d v

def PC (P : Program) (f : FuncId) (ds : List D) (r : Res) : Prop :=
 zha P f /\ ∀ (ro : Nat -> Prop) (w : World) (vs : List Value), (∀ b, ro b -> b < w.heap.size) -> zt ro w ds vs ->
  Calls P f vs.toArray w fun e w' => ∃ v, e = .returned v /\ Below w.heap.size w w' /\ zdu ro w.heap.size w' r v

mutual
def D.free : D -> Bool
 | .bool _ | .int _ _ | .str _ | .np => true
 | .agg cs => D.frees cs
 | .tup cs => D.frees cs
 | .sl _ | .rp _ | .fn _ _ | .mp _ => false
def D.frees : List D -> Bool
 | [] => true
 | d :: ds => d.free && D.frees ds
end

mutual
theorem zv.anywhere {ro ro' : Nat -> Prop} {w w' : World} : ∀ (d : D) (v : Value), d.free = true -> zv ro w d v -> zv ro' w' d v
 | .np, v, _, h => by simpa [zv] using h
 | .bool b, v, _, h => by simpa [zv] using h
 | .int k n, v, _, h => by simpa [zv] using h
 | .str s, v, _, h => by simpa [zv] using h
 | .agg cs, v, hf, h => by
  simp only [D.free] at hf;simp only [zv] at h ⊢;obtain ⟨vs, hv, ho, hr⟩ := h;exact ⟨vs, hv, ho, zt.anywhere cs vs hf hr⟩
 | .tup cs, v, hf, h => by
  simp only [D.free] at hf;simp only [zv] at h ⊢;obtain ⟨vs, hv, hr⟩ := h;exact ⟨vs, hv, zt.anywhere cs vs hf hr⟩
 | .sl _, _, hf, _ | .rp _, _, hf, _ | .fn _ _, _, hf, _ | .mp _, _, hf, _ => by simp [D.free] at hf
theorem zt.anywhere {ro ro' : Nat -> Prop} {w w' : World} : ∀ (ds : List D) (vs : List Value), D.frees ds = true -> zt ro w ds vs -> zt ro' w' ds vs
 | [], vs, _, h => by simpa [zt] using h
 | d :: ds, vs, hf, h => by
  simp only [D.frees, Bool.and_eq_true] at hf;simp only [zt] at h ⊢;obtain ⟨v, vs', rfl, h1, h2⟩ := h;exact ⟨v, vs', rfl, zv.anywhere d v hf.1 h1, zt.anywhere ds vs' hf.2 h2⟩
end

def zdm : List (List AV) -> Option (List (List D))
 | [] => some []
 | r :: rs => match allD r, zdm rs with | some d, some ds => some (d :: ds) | _, _ => none

theorem rowsD_dr (l : List (List D)) : zdm (dr l) = some l := by
 induction l with
 | nil => rfl
 | cons r l ih =>
  show (match allD (r.map AV.d), zdm (dr l) with | some d, some ds => some (d :: ds) | _, _ => none) = _
  rw [allD_map, ih]

theorem zhn : ∀ {rows : List (List AV)} {ds : List (List D)}, zdm rows = some ds -> ds.length = rows.length
 | [], ds, h => by simp [zdm] at h; subst h; rfl
 | r :: rs, ds, h => by
  simp only [zdm] at h;split at h
  ·rename_i d ds' h1 h2;cases h;simp [zhn h2]
  ·cases h

theorem zhe : ∀ {rows : List (List AV)} {ds : List (List D)}, zdm rows = some ds -> ∀ (i : Nat) (r : List D), ds[i]? = some r -> ∃ row, rows[i]? = some row /\ allD row = some r
 | [], ds, h, i, r, hi => by simp [zdm] at h; subst h; simp at hi
 | r0 :: rs, ds, h, i, r, hi => by
  simp only [zdm] at h;split at h
  ·rename_i d ds' h1 h2;cases h;cases i with
   | zero => simp at hi; subst hi; exact ⟨r0, by simp, h1⟩
   | succ i => simp at hi; obtain ⟨row, hrow, ha⟩ := zhe h2 i r hi; exact ⟨row, by simpa using hrow, ha⟩
  ·cases h

mutual
def zhz (hp : Nat -> Option Ob) : AV -> Option (D × Prop × Bool)
 | .any => none
 | .opt _ _ => none
 | .ub _ _ => none
 | .lit _ => none
 | .pin _ _ => none
 | .nl => some (.sl [], True, false)
 | .d x => some (x, True, false)
 | .hs id off len => (hp id).bind fun o => (zdm o.rows).map fun rs => (.sl ((rs.drop off).take len), off + len <= rs.length, true)
 | .ptr id i j => (hp id).bind fun o => (o.rows[i]?).bind fun row => (allD row).map fun r => (.rp (r.drop j), True, true)
 | .hm id => (hp id).bind fun o => (zdm o.rows).map fun rs => (.mp rs, True, true)
 | .agg l => (zna hp l).map fun x => (.agg x.1, x.2.1, x.2.2)
 | .clo f caps => if zrh caps then (zna hp caps).map fun x => (.fn f x.1, x.2.1, x.2.2) else none
 | .tup l => (zna hp l).map fun x => (.tup x.1, x.2.1, x.2.2)
def zna (hp : Nat -> Option Ob) : List AV -> Option (List D × Prop × Bool)
 | [] => some ([], True, false)
 | a :: as => match zhz hp a, zna hp as with | some x, some y => some (x.1 :: y.1, x.2.1 /\ y.2.1, x.2.2 || y.2.2) | _, _ => none
end

theorem ents_D {g : G} {w : World} : ∀ {rows : List (List AV)} {rs : List (List D)} {es : List MapEntry}, zdm rows = some rs -> zad g w rows es -> zeg g.ro w rs es
 | [], rs, es, h, he => by simp [zdm] at h; subst h; simpa [zeg, zad] using he
 | r :: rows, rs, es, h, he => by
  simp only [zdm] at h;split at h
  ·rename_i d ds h1 h2;cases h;simp only [zad] at he;obtain ⟨e, es', rfl, h3, h4⟩ := he;simp only [zeg];exact ⟨e, es', rfl, zk.allD h1 h3, ents_D h2 h4⟩
  ·cases h

mutual
theorem zov {g : G} {obj : Nat -> Option Ob} {w : World} (h : zah g obj w) : ∀ (x : AV) (v : Value) (d : D) (p : Prop) (b : Bool), zhz obj x = some (d, p, b) -> p -> zi g w x v ->
  zv (fun b => g.ro b \/ g.owns b) w d v /\ (b = false -> zv g.ro w d v)
 | .any, _, _, _, _, hs, _, _ => by simp [zhz] at hs
 | .opt _ _, _, _, _, _, hs, _, _ => by simp [zhz] at hs
 | .ub _ _, _, _, _, _, hs, _, _ => by simp [zhz] at hs
 | .lit _, _, _, _, _, hs, _, _ => by simp [zhz] at hs
 | .pin _ _, _, _, _, _, hs, _, _ => by simp [zhz] at hs
 | .nl, v, d, p, b, hs, _, hx => by
  simp [zhz] at hs; obtain ⟨rfl, _, rfl⟩ := hs;simp only [zi] at hx; subst hx;exact ⟨zfw, fun _ => zfw⟩
 | .d y, v, d, p, b, hs, _, hx => by
  simp [zhz] at hs; obtain ⟨rfl, _, rfl⟩ := hs;simp only [zi] at hx;exact ⟨zv.mono (fun b hb => ⟨.inl hb, rfl⟩) y v hx, fun _ => hx⟩
 | .hs id off len, v, d, p, b, hs, hp, hx => by
  simp only [zhz] at hs;cases ho : obj id with
  | none => rw [ho] at hs; cases hs
  | some o =>
   rw [ho] at hs;simp only [Option.bind_some, Option.map_eq_some_iff] at hs;obtain ⟨rs, hrs, he⟩ := hs;simp only [Prod.mk.injEq] at he;obtain ⟨rfl, rfl, rfl⟩ := he;refine ⟨?_, fun hb => by cases hb⟩;obtain ⟨L, hL, hok⟩ := h.own id o ho;simp only [zi] at hx;have hrl := zhn hrs;rcases hx.2 L hL with ⟨hv, rfl, rfl, a0, rfl⟩ | ⟨hv, hle, rfl⟩
   ·simpa using zfw
   ·have hlen : ((rs.drop off).take len).length = len := by simp; omega
    obtain ⟨_, _, _, hcapm, _⟩ := hok.cells hv;simp only [zv];refine ⟨some ⟨L.blk, off * L.m, none⟩, L.cap - off, by rw [hlen], by rw [hlen]; omega, by omega, ?_⟩;refine .inr ⟨L.blk, off * L.m, L.m, rfl, .inr ⟨id, L, hL, hv.1, rfl⟩, zba.of_get fun i r hi => ?_⟩;rw [List.getElem?_take] at hi;split at hi
    ·rw [List.getElem?_drop] at hi;obtain ⟨row, hrow, ha⟩ := zhe hrs _ r hi;obtain ⟨us, hul, hur, huc⟩ := hok.row hv hrow;refine ⟨us, hul, zt.mono (fun b hb => ⟨.inl hb, rfl⟩) r us (zk.allD ha hur), ?_⟩
     rwa [Nat.add_mul] at huc
    ·cases hi
 | .ptr id i j, v, d, p, b, hs, hp, hx => by
  simp only [zhz] at hs;cases ho : obj id with
  | none => rw [ho] at hs; cases hs
  | some o =>
   rw [ho] at hs;simp only [Option.bind_some] at hs;cases hrow : o.rows[i]? with
   | none => rw [hrow] at hs; cases hs
   | some row =>
    rw [hrow] at hs;simp only [Option.bind_some, Option.map_eq_some_iff] at hs;obtain ⟨r, hr, he⟩ := hs;simp only [Prod.mk.injEq] at he;obtain ⟨rfl, _, rfl⟩ := he;refine ⟨?_, fun hb => by cases hb⟩;obtain ⟨L, hL, hok⟩ := h.own id o ho;simp only [zi] at hx;obtain ⟨hv, rfl⟩ := hx.2 L hL;obtain ⟨us, hul, hur, huc⟩ := hok.row hv hrow;simp only [zv];exact ⟨L.blk, i * L.m + j, us.drop j, rfl, .inr ⟨id, L, hL, hv.1, rfl⟩, (zt.mono (fun b hb => ⟨.inl hb, rfl⟩) r us (zk.allD hr hur)).drop j, huc.drop j⟩
 | .hm id, v, d, p, b, hs, hp, hx => by
  simp only [zhz] at hs;cases ho : obj id with
  | none => rw [ho] at hs; cases hs
  | some o =>
   rw [ho] at hs;simp only [Option.bind_some, Option.map_eq_some_iff] at hs;obtain ⟨rs, hrs, he⟩ := hs;simp only [Prod.mk.injEq] at he;obtain ⟨rfl, _, rfl⟩ := he;refine ⟨?_, fun hb => by cases hb⟩;obtain ⟨L, hL, hok⟩ := h.own id o ho;simp only [zi] at hx;obtain ⟨hv, rfl⟩ := hx.2 L hL;obtain ⟨_, es, clock, e1, e2, e3⟩ := hok.ents hv;simp only [zv];exact ⟨L.blk, es, clock, rfl, .inr ⟨id, L, hL, hv.1, rfl⟩, e1, zeg.mono (fun b hb => ⟨.inl hb, rfl⟩) _ _ (ents_D hrs e3)⟩
 | .agg l, v, d, p, b, hs, hp, hx => by
  simp only [zhz, Option.map_eq_some_iff] at hs;obtain ⟨⟨ds, p', b'⟩, hs', he⟩ := hs;simp only [Prod.mk.injEq] at he;obtain ⟨rfl, rfl, rfl⟩ := he;simp only [zi] at hx;obtain ⟨vs, rfl, ho, hr⟩ := hx;obtain ⟨h1, h2⟩ := zjf h l vs ds p' b' hs' hp hr;simp only [zv];exact ⟨⟨vs, rfl, ho, h1⟩, fun hb => ⟨vs, rfl, ho, h2 hb⟩⟩
 | .clo f l, v, d, p, b, hs, hp, hx => by
  simp only [zhz] at hs;split at hs
  case isFalse => cases hs
  rename_i hok;simp only [Option.map_eq_some_iff] at hs;obtain ⟨⟨ds, p', b'⟩, hs', he⟩ := hs;simp only [Prod.mk.injEq] at he;obtain ⟨rfl, rfl, rfl⟩ := he;obtain ⟨vs, rfl, hr⟩ := ztd hok hx;obtain ⟨h1, h2⟩ := zjf h l vs ds p' b' hs' hp hr;simp only [zv];exact ⟨⟨vs, rfl, h1⟩, fun hb => ⟨vs, rfl, h2 hb⟩⟩
 | .tup l, v, d, p, b, hs, hp, hx => by
  simp only [zhz, Option.map_eq_some_iff] at hs;obtain ⟨⟨ds, p', b'⟩, hs', he⟩ := hs;simp only [Prod.mk.injEq] at he;obtain ⟨rfl, rfl, rfl⟩ := he;simp only [zi] at hx;obtain ⟨vs, rfl, hr⟩ := hx;obtain ⟨h1, h2⟩ := zjf h l vs ds p' b' hs' hp hr;simp only [zv];exact ⟨⟨vs, rfl, h1⟩, fun hb => ⟨vs, rfl, h2 hb⟩⟩
theorem zjf {g : G} {obj : Nat -> Option Ob} {w : World} (h : zah g obj w) : ∀ (xs : List AV) (vs : List Value) (ds : List D) (p : Prop) (b : Bool), zna obj xs = some (ds, p, b) -> p -> zk g w xs vs ->
  zt (fun b => g.ro b \/ g.owns b) w ds vs /\ (b = false -> zt g.ro w ds vs)
 | [], vs, ds, p, b, hs, _, hx => by
  simp [zna] at hs; obtain ⟨rfl, _, rfl⟩ := hs;simp only [zk] at hx;exact ⟨by simpa [zt] using hx, fun _ => by simpa [zt] using hx⟩
 | a :: as, vs, ds, p, b, hs, hp, hx => by
  simp only [zna] at hs;cases h1 : zhz obj a with
  | none => rw [h1] at hs; cases hs
  | some x =>
   cases h2 : zna obj as with
   | none => rw [h1, h2] at hs; cases hs
   | some y =>
    rw [h1, h2] at hs;simp only [Option.some.injEq, Prod.mk.injEq] at hs;obtain ⟨rfl, rfl, rfl⟩ := hs;obtain ⟨xd, xp, xb⟩ := x;obtain ⟨yd, yp, yb⟩ := y;simp only [zk] at hx;obtain ⟨v, vs', rfl, hv, hvs⟩ := hx;obtain ⟨a1, a2⟩ := zov h a v xd xp xb h1 hp.1 hv;obtain ⟨b1, b2⟩ := zjf h as vs' yd yp yb h2 hp.2 hvs;simp only [zt, Bool.or_eq_false_iff];exact ⟨⟨v, vs', rfl, a1, b1⟩, fun hb => ⟨v, vs', rfl, a2 hb.1, b2 hb.2⟩⟩
end

def D.freess : List (List D) -> Bool
 | [] => true
 | r :: rs => D.frees r && D.freess rs

def Res.free : Res -> Bool
 | .p d => d.free
 | .o _ _ rows => D.freess rows
 | .x _ => false
 | .skip => false
 | .ub _ => false
 | .f _ => true

theorem zug : ∀ {rows : List (List D)}, D.freess rows = true -> ∀ (i : Nat) (r : List D), rows[i]? = some r -> D.frees r = true
 | [], _, i, r, hi => by simp at hi
 | r0 :: rs, h, i, r, hi => by
  simp only [D.freess, Bool.and_eq_true] at h;cases i with
  | zero => simp at hi; subst hi; exact h.1
  | succ i => simp at hi; exact zug h.2 i r hi

theorem frees_get : ∀ {ds : List D}, D.frees ds = true -> ∀ (i : Nat) (d : D), ds[i]? = some d -> d.free = true
 | [], _, i, r, hi => by simp at hi
 | r0 :: rs, h, i, r, hi => by
  simp only [D.frees, Bool.and_eq_true] at h;cases i with
  | zero => simp at hi; subst hi; exact h.1
  | succ i => simp at hi; exact frees_get h.2 i r hi

mutual
def zia (hp : Nat -> Option Ob) : AV -> Option (D × Prop)
 | .d x => if x.free then some (x, True) else none
 | .nl => some (.sl [], True)
 | .hs id off len => (hp id).bind fun o => (zdm o.rows).bind fun rs => if D.freess rs then some (.sl ((rs.drop off).take len), off + len <= rs.length) else none
 | .agg l => (zqv hp l).map fun x => (.agg x.1, x.2)
 | .tup l => (zqv hp l).map fun x => (.tup x.1, x.2)
 | _ => none
def zqv (hp : Nat -> Option Ob) : List AV -> Option (List D × Prop)
 | [] => some ([], True)
 | a :: as => match zia hp a, zqv hp as with | some x, some y => some (x.1 :: y.1, x.2 /\ y.2) | _, _ => none
end

mutual
theorem zqw {g : G} {obj : Nat -> Option Ob} {w : World} (h : zah g obj w) : ∀ (x : AV) (v : Value) (d : D) (p : Prop), zia obj x = some (d, p) -> p -> zi g w x v -> zv (fun b => g.owns b) w d v
 | .any, _, _, _, hs, _, _ => by simp [zia] at hs
 | .opt _ _, _, _, _, hs, _, _ => by simp [zia] at hs
 | .ub _ _, _, _, _, hs, _, _ => by simp [zia] at hs
 | .lit _, _, _, _, hs, _, _ => by simp [zia] at hs
 | .pin _ _, _, _, _, hs, _, _ => by simp [zia] at hs
 | .ptr _ _ _, _, _, _, hs, _, _ => by simp [zia] at hs
 | .clo _ _, _, _, _, hs, _, _ => by simp [zia] at hs
 | .hm _, _, _, _, hs, _, _ => by simp [zia] at hs
 | .nl, v, d, p, hs, _, hx => by
  simp [zia] at hs; obtain ⟨rfl, _⟩ := hs;simp only [zi] at hx; subst hx;exact zfw
 | .d y, v, d, p, hs, _, hx => by
  simp only [zia] at hs;split at hs
  ·rename_i hf;simp only [Option.some.injEq, Prod.mk.injEq] at hs;obtain ⟨rfl, _⟩ := hs;simp only [zi] at hx;exact zv.anywhere y v hf hx
  ·cases hs
 | .hs id off len, v, d, p, hs, hp, hx => by
  simp only [zia] at hs;cases ho : obj id with
  | none => rw [ho] at hs; cases hs
  | some o =>
   rw [ho] at hs;simp only [Option.bind_some] at hs;cases hrs : zdm o.rows with
   | none => rw [hrs] at hs; cases hs
   | some rs =>
    rw [hrs] at hs;simp only [Option.bind_some] at hs;split at hs
    ·rename_i hfree;simp only [Option.some.injEq, Prod.mk.injEq] at hs;obtain ⟨rfl, rfl⟩ := hs;obtain ⟨L, hL, hok⟩ := h.own id o ho;simp only [zi] at hx;have hrl := zhn hrs;rcases hx.2 L hL with ⟨hv, rfl, rfl, a0, rfl⟩ | ⟨hv, hle, rfl⟩
     ·simpa using zfw
     ·have hlen : ((rs.drop off).take len).length = len := by simp; omega
      obtain ⟨_, _, _, hcapm, _⟩ := hok.cells hv;simp only [zv];refine ⟨some ⟨L.blk, off * L.m, none⟩, L.cap - off, by rw [hlen], by rw [hlen]; omega, by omega, ?_⟩;refine .inr ⟨L.blk, off * L.m, L.m, rfl, ⟨id, L, hL, hv.1, rfl⟩, zba.of_get fun i r hi => ?_⟩;rw [List.getElem?_take] at hi;split at hi
      ·rw [List.getElem?_drop] at hi;obtain ⟨row, hrow, ha⟩ := zhe hrs _ r hi;obtain ⟨us, hul, hur, huc⟩ := hok.row hv hrow;refine ⟨us, hul, zt.anywhere r us (zug hfree _ r hi) (zk.allD ha hur), ?_⟩
       rwa [Nat.add_mul] at huc
      ·cases hi
    ·cases hs
 | .agg l, v, d, p, hs, hp, hx => by
  simp only [zia, Option.map_eq_some_iff] at hs;obtain ⟨⟨ds, q⟩, hl, he⟩ := hs;simp only [Prod.mk.injEq] at he;obtain ⟨rfl, rfl⟩ := he;simp only [zi] at hx;obtain ⟨vs, hv, ho, hr⟩ := hx;simp only [zv];exact ⟨vs, hv, ho, zou h l vs ds _ hl hp hr⟩
 | .tup l, v, d, p, hs, hp, hx => by
  simp only [zia, Option.map_eq_some_iff] at hs;obtain ⟨⟨ds, q⟩, hl, he⟩ := hs;simp only [Prod.mk.injEq] at he;obtain ⟨rfl, rfl⟩ := he;simp only [zi] at hx;obtain ⟨vs, hv, hr⟩ := hx;simp only [zv];exact ⟨vs, hv, zou h l vs ds _ hl hp hr⟩
theorem zou {g : G} {obj : Nat -> Option Ob} {w : World} (h : zah g obj w) : ∀ (xs : List AV) (vs : List Value) (ds : List D) (p : Prop), zqv obj xs = some (ds, p) -> p -> zk g w xs vs -> zt (fun b => g.owns b) w ds vs
 | [], vs, ds, p, hs, _, hx => by
  simp [zqv] at hs; obtain ⟨rfl, _⟩ := hs;simpa [zk, zt] using hx
 | a :: as, vs, ds, p, hs, hp, hx => by
  simp only [zqv] at hs;cases h1 : zia obj a with
  | none => rw [h1] at hs; cases hs
  | some x =>
   cases h2 : zqv obj as with
   | none => rw [h1, h2] at hs; cases hs
   | some y =>
    rw [h1, h2] at hs;simp only [Option.some.injEq, Prod.mk.injEq] at hs;obtain ⟨rfl, rfl⟩ := hs;simp only [zk] at hx;obtain ⟨v, vs', rfl, k1, k2⟩ := hx;simp only [zt];exact ⟨v, vs', rfl, zqw h a v x.1 x.2 h1 hp.1 k1, zou h as vs' y.1 y.2 h2 hp.2 k2⟩
end

theorem zah.adopt {g : G} {obj : Nat -> Option Ob} {w : World} (h : zah g obj w) {id B cap : Nat} (hid : ¬ g.used id) (o : Ob) (cur : Array Value) (hro : ¬ g.ro B) (hown : ¬ g.owns B)
  (hnew : zgc (w.heap[B]?) o.elem cur) (hm : 0 < o.m) (hcs : cur.size = cap * o.m) (hlen : o.rows.length <= cap) (hcap : cap <= maxLen)
  (hrep : ∀ i row, o.rows[i]? = some row -> row.length = o.m /\ ∀ (j : Nat) (av : AV), row[j]? = some av -> ∃ v : Value, cur[i * o.m + j]? = some v /\ v.oneCell' = true /\ zi g w av v) :
  ∃ g', g'.loc id = some ⟨B, o.m, cap, false, false⟩ /\ g'.used = (fun x => g.used x \/ x = id) /\ g'.ro = g.ro /\ zah g' (zbj obj id (some o)) w /\ (∀ b, g'.owns b -> g.owns b \/ b = B) /\ zbt g w g' w := by
 let g' : G := ⟨g.ro, fun x => if x = id then some ⟨B, o.m, cap, false, false⟩ else g.loc x, fun x => g.used x \/ x = id⟩
 have hloc : ∀ x L, g'.loc x = some L -> (x = id /\ L = ⟨B, o.m, cap, false, false⟩) \/ (x ≠ id /\ g.loc x = some L) := by
  intro x L hx;simp only [g'] at hx;split at hx
  ·rename_i e; exact .inl ⟨e, by simpa using hx.symm⟩
  ·rename_i e; exact .inr ⟨e, hx⟩
 have hlater : zbt g w g' w := ⟨fun b hb => ⟨hb, rfl⟩, fun x hx => .inl hx, fun x hx => .inl (by simp only [g']; rw [if_neg (fun e : x = id => hid (e ▸ hx))])⟩
 refine ⟨g', by simp [g'], rfl, rfl, ⟨?_, ?_, ?_, ?_, h.ro⟩, ?_, hlater⟩
 ·intro x o' hx;simp only [zbj] at hx;split at hx
  ·rename_i e;cases hx;subst e;refine ⟨⟨B, o.m, cap, false, false⟩, by simp [g'], ⟨rfl, hm, fun _ => hlen, by simp, fun _ => ⟨cur, hnew, hcs, hcap, fun i row hi => ⟨(hrep i row hi).1, fun j av hj => ?_⟩⟩, by simp⟩⟩;obtain ⟨v, hv, ho, hr⟩ := (hrep i row hi).2 j av hj;exact ⟨v, hv, ho, zi.later hlater av v hr⟩
  ·rename_i e;obtain ⟨L, hL, hok⟩ := h.own x o' hx;exact ⟨L, by simp [g', e, hL], hok.later hlater fun _ => rfl⟩
 ·intro x hx;simp only [zbj] at hx;split at hx
  ·cases hx
  ·rename_i e; simp [g', e, h.gone x hx]
 ·intro x L hx;rcases hloc x L hx with ⟨rfl, rfl⟩ | ⟨e, hL⟩
  ·exact ⟨.inr rfl, fun _ => ⟨hnew.lt, hro⟩⟩
  ·exact ⟨.inl (h.live x L hL).1, (h.live x L hL).2⟩
 ·intro x y L L' hx hy hv hv' hb;rcases hloc x L hx with ⟨rfl, rfl⟩ | ⟨e, hL⟩ <;> rcases hloc y L' hy with ⟨rfl, rfl⟩ | ⟨e', hL'⟩
  ·rfl
  ·exact absurd ⟨y, L', hL', hv', hb.symm⟩ hown
  ·exact absurd ⟨x, L, hL, hv, hb⟩ hown
  ·exact h.inj x y L L' hL hL' hv hv' hb
 ·rintro b ⟨x, L, hx, hv, rfl⟩;rcases hloc x L hx with ⟨rfl, rfl⟩ | ⟨e, hL⟩
  ·exact .inr rfl
  ·exact .inl ⟨x, L, hL, hv, rfl⟩

def zjw (nid : Nat) : Res -> AV × List (Nat × Option Ob)
 | .p d => (.d d, [])
 | .o e m rows => (.hs nid 0 rows.length, [(nid, some ⟨e, m, dr rows⟩)])
 | .x _ => (.any, [])
 | .skip => (.any, [])
 | .ub _ => (.any, [])
 | .f d => (.d d, [])

theorem dr_get {rows : List (List D)} {i : Nat} {row : List AV} (h : (dr rows)[i]? = some row) : ∃ r, rows[i]? = some r /\ row = r.map AV.d := by
 simp only [dr, List.getElem?_map, Option.map_eq_some_iff] at h;obtain ⟨r, h1, h2⟩ := h;exact ⟨r, h1, h2.symm⟩

theorem res_sound {g : G} {obj : Nat -> Option Ob} {w w' : World} (h : zah g obj w) {nid : Nat} (hid : ¬ g.used nid) {r : Res} {v : Value} (hb : Below w.heap.size w w') {ro : Nat -> Prop} (hro : (∀ b, ro b -> g.ro b) \/ r.free = true)
  (hr : zdu ro w.heap.size w' r v) {p : Prop} : zaf g obj w nid { val := (zjw nid r).1, wr := (zjw nid r).2, ob := p } v w' := by
 cases r with
 | x c => simp [zdu] at hr
 | skip => simp [zdu] at hr
 | ub b => simp [zdu] at hr
 | f d =>
  simp only [zdu] at hr;obtain ⟨h1, h2, h3⟩ := h.wide hb (fun b => w.heap.size <= b /\ b < w'.heap.size) (fun b hb => hb);refine ⟨_, h1, h2, h3, fun _ hk => .inl hk, ?_⟩;simp only [zjw, zi];exact zv.mono (fun b hb => ⟨.inr hb, rfl⟩) d v hr
 | p d =>
  simp only [zdu] at hr;obtain ⟨h1, h2, h3⟩ := h.wide hb (fun b => w.heap.size <= b /\ b < w'.heap.size) (fun b hb => hb);refine ⟨_, h1, h2, h3, fun _ hk => .inl hk, ?_⟩;simp only [zjw, zi];rcases hro with hro | hf
  ·exact zv.mono (fun b hb => ⟨hb.imp (hro b) fun x => x, rfl⟩) d v hr
  ·exact zv.anywhere d v hf hr
 | o e m rows =>
  simp only [zdu, OwnRes] at hr;obtain ⟨hm, hr⟩ := hr;rcases hr with ⟨rfl, a0, rfl⟩ | ⟨B, cap, cur, hB, hv, hcell, hlen, hcap, hcs, hrep⟩
  ·obtain ⟨h1, h2, h3⟩ := h.idle hb;obtain ⟨g', a1, a2, a3, a4, a5, a6⟩ := h1.newVirt hid e m hm;refine ⟨g', by simpa [zjw, zcm, dr] using a4, h2.trans a5, ⟨fun b hb => ⟨(a6.fut b hb).1, (h3.fut b hb).2⟩, a6.used, a6.loc⟩, fun k hk => by rw [a2] at hk; exact hk, ?_⟩;simp only [zjw, zi];refine ⟨⟨by rw [a2]; exact .inr rfl, rfl⟩, fun L hL => ?_⟩;rw [a1] at hL; cases hL;exact .inl ⟨by trivial, by trivial, by simp, a0, rfl⟩
  ·obtain ⟨h1, h2, h3⟩ := h.wide hb (fun b => w.heap.size <= b /\ b < w'.heap.size /\ b ≠ B) (fun b hb => ⟨hb.1, hb.2.1⟩);have hnro : ¬ (g.ro B \/ (w.heap.size <= B /\ B < w'.heap.size /\ B ≠ B)) := by
    rintro (hg | hg)
    ·have := h.ro B hg; omega
    ·exact hg.2.2 rfl
   have hnown : ¬ G.owns ⟨fun b => g.ro b \/ (w.heap.size <= b /\ b < w'.heap.size /\ b ≠ B), g.loc, g.used⟩ B := by
    rintro ⟨x, L, hx, hvx, rfl⟩;have := ((h.live x L hx).2 hvx).1;omega
   obtain ⟨g', a1, a2, a3, a4, a5, a6⟩ := h1.adopt hid ⟨e, m, dr rows⟩ cur hnro hnown hcell hm hcs (by simpa [dr] using hlen) hcap (fun i row hi => by
    obtain ⟨r, hr', rfl⟩ := dr_get hi;obtain ⟨c1, c2⟩ := hrep i r hr';refine ⟨by simpa using c1, fun j av hj => ?_⟩;simp only [List.getElem?_map, Option.map_eq_some_iff] at hj;obtain ⟨d, hd, rfl⟩ := hj;obtain ⟨u, hu, ho, hrd⟩ := c2 j d hd;refine ⟨u, hu, ho, ?_⟩;simp only [zi];rcases hro with hro | hf
    ·exact zv.mono (fun b hb => ⟨hb.imp (hro b) fun x => x, rfl⟩) d u hrd
    ·exact zv.anywhere d u (frees_get (zug hf i r hr') j d hd) hrd)
   refine ⟨g', by simpa [zjw, zcm] using a4, ⟨h2.os, h2.tape, h2.output, h2.size, h2.block, fun b hb => ?_, fun b hb => by rw [a3]; exact .inl hb, fun b hb => by rw [a3] at hb; exact h2.ro' b hb⟩,
    ⟨fun b hb => ⟨by rw [a3]; exact .inl hb, (h3.fut b hb).2⟩, a6.used, a6.loc⟩, fun k hk => by rw [a2] at hk; exact hk, ?_⟩
   ·rcases a5 b hb with hb | rfl
    ·exact h2.own b hb
    ·exact .inl hB
   ·rw [hv];exact zrc (by rw [a2]; exact .inr rfl) a1 ⟨rfl, rfl⟩ hlen

def zjq (P : Program) (orc : Option Res) (hp : Nat -> Option Ob) (nid : Nat) : List AV -> Option Eff
 | fv :: args =>
  match zhz hp fv, zna hp args, orc with
  | some (.fn (.func f) caps, p0, b0), some (ds, p, b), some r =>
   some { val := (zjw nid r).1, wr := (zjw nid r).2, ob := (p0 /\ p /\ ((b0 || b) = true -> r.free = true)) /\ PC P f (ds ++ caps) r }
  | _, _, _ => none
 | [] => none

theorem callP_sound {P : Program} {o : Oper} {a : Act} {g : G} {obj : Nat -> Option Ob} {w : World} (h : zah g obj w) {nid : Nat} (hid : ¬ g.used nid) {c : Call} {f : Operand} (ho : o.op = .call c) (hc : c.callee = .value f)
  {orc : Option Res} {args : List AV} {e : Eff} (hargs : zk g w args (a.eval f :: c.args.toList.map a.eval)) (he : zjq P orc obj nid args = some e) (hob : e.ob) : zft P o a w (zaf g obj w nid e) := by
 cases args with
 | nil => simp [zjq] at he
 | cons fv args =>
  simp only [zk] at hargs;obtain ⟨v, vs, heq, hfv, hargs⟩ := hargs;simp only [List.cons.injEq] at heq;obtain ⟨rfl, rfl⟩ := heq;simp only [zjq] at he;split at he
  ·rename_i k caps p0 b0 ds p b r h1 h2;cases he;obtain ⟨⟨hp0, hp, hfree⟩, henter, hcontract⟩ := hob;obtain ⟨c1, c2⟩ := zov h fv _ _ _ _ h1 hp0 hfv;obtain ⟨d1, d2⟩ := zjf h args _ _ _ _ h2 hp hargs;have hf : ∃ cs : List Value, a.eval f = .func (.func k) #[] cs.toArray /\ zt (fun b => g.ro b \/ g.owns b) w caps cs /\ (b0 = false -> zt g.ro w caps cs) := by
    simp only [zv] at c1;obtain ⟨cs, hcs, hrc⟩ := c1;refine ⟨cs, hcs, hrc, fun hb0 => ?_⟩;have := c2 hb0;simp only [zv] at this;obtain ⟨cs', hcs', hrc'⟩ := this;rw [hcs] at hcs';simp only [Value.func.injEq, true_and] at hcs';have : cs = cs' := by simpa using hcs'
    rw [this]; exact hrc'
   obtain ⟨cs, hcs, hrc, hrc'⟩ := hf;obtain ⟨fn, hfn, hname, hbody⟩ := henter;have hrun : (execOp a.eval o).run P w = .ok (.enter k ((c.args.toList.map a.eval) ++ cs).toArray) w := by
    unfold execOp;simp only [ho, resolve, hc, Deferred.ofValue, hcs, Sem.run_bind, Sem.run_pure, Result.andThen_ok, invoke, callFunc, run_program, hfn, hname, hbody, Bool.false_eq_true, if_false]
    congr 2
    simp
   by_cases hbb : (b0 || b) = true
   ·refine ziu hrun ((hcontract (fun b => g.ro b \/ g.owns b) w _ (fun b hb => hb.elim (h.ro b) fun ⟨x, L, hx, hv, hb⟩ => hb ▸ ((h.live x L hx).2 hv).1) (d1.append hrc)).mono fun e w' ⟨v, he, hb, hr⟩ => ⟨v, he, ?_⟩);exact res_sound h hid hb (.inr (hfree hbb)) hr
   ·simp only [Bool.or_eq_true, not_or, Bool.not_eq_true] at hbb;refine ziu hrun ((hcontract g.ro w _ h.ro ((d2 hbb.2).append (hrc' hbb.1))).mono fun e w' ⟨v, he, hb, hr⟩ => ⟨v, he, ?_⟩);exact res_sound h hid hb (.inl fun _ hb => hb) hr
  ·cases he

def zks : AV -> Option (FuncId × List AV)
 | .d (.fn (.func f) caps) => some (f, caps.map .d)
 | .clo (.func f) caps => if zrh caps then some (f, caps) else none
 | _ => none
def calleeB : AV -> Option (FuncId × List AV × List AV)
 | .clo (.func f) (.tup l :: r) => some (f, l, r)
 | _ => none

def zwk (P : Program) (orc : Option Res) (hp : Nat -> Option Ob) (nid : Nat) (l : List AV) : Option Eff :=
 match orc, l with
 | some (.x c), fv :: args => match zks fv with
  | some q => some (effX P q.1 c nid hp (args ++ q.2))
  | none => (calleeB fv).map fun q => effX P q.1 c nid hp ((q.2.1 ++ args) ++ q.2.2)
 | r, l => zjq P r hp nid l

theorem call_sound {P : Program} {o : Oper} {a : Act} {g : G} {obj : Nat -> Option Ob} {w : World} (h : zah g obj w) {nid : Nat} (hid : ¬ g.used nid) {c : Call} {f : Operand} (ho : o.op = .call c) (hc : c.callee = .value f)
  {orc : Option Res} {args : List AV} {e : Eff} (hargs : zk g w args (a.eval f :: c.args.toList.map a.eval)) (he : zwk P orc obj nid args = some e) (hob : e.ob) : zft P o a w (zaf g obj w nid e) := by
 unfold zwk at he;split at he
 ·rename_i xc fv as;simp only [zk] at hargs;obtain ⟨v, vs, heq, hfv, hargs⟩ := hargs;simp only [List.cons.injEq] at heq;obtain ⟨rfl, rfl⟩ := heq;split at he
  ·rename_i q hcal;obtain ⟨k, caps⟩ := q;cases he;have hf : ∃ cs : List Value, a.eval f = .func (.func k) #[] cs.toArray /\ zk g w caps cs := by
    unfold zks at hcal;split at hcal
    ·cases hcal;simp only [zi, zv] at hfv;obtain ⟨cs, h1, h2⟩ := hfv;exact ⟨cs, h1, zk.of_ds h2⟩
    ·split at hcal
     ·rename_i hok;cases hcal;exact ztd hok hfv
     ·cases hcal
    ·cases hcal
   obtain ⟨cs, hcs, hrc⟩ := hf;obtain ⟨fn, hfn, hname, hbody⟩ := hob.2.1;have hrun : (execOp a.eval o).run P w = .ok (.enter k ((c.args.toList.map a.eval) ++ cs).toArray) w := by
    unfold execOp;simp only [ho, resolve, hc, Deferred.ofValue, hcs, Sem.run_bind, Sem.run_pure, Result.andThen_ok, invoke, callFunc, run_program, hfn, hname, hbody, Bool.false_eq_true, if_false]
    congr 2
    simp
   exact ziu hrun (x_sound h hid (hargs.append hrc) hob)
  ·simp only [Option.map_eq_some_iff] at he;obtain ⟨⟨k, bs, caps⟩, hcal, rfl⟩ := he;have hf : ∃ fs cs : List Value, a.eval f = .func (.func k) fs.toArray cs.toArray /\ zk g w bs fs /\ zk g w caps cs := by
    unfold calleeB at hcal;split at hcal
    ·cases hcal;exact clo_bound hfv
    ·cases hcal
   obtain ⟨fs, cs, hcs, hrb, hrc⟩ := hf;obtain ⟨fn, hfn, hname, hbody⟩ := hob.2.1;have hrun : (execOp a.eval o).run P w = .ok (.enter k ((fs ++ c.args.toList.map a.eval) ++ cs).toArray) w := by
    unfold execOp;simp only [ho, resolve, hc, Deferred.ofValue, hcs, Sem.run_bind, Sem.run_pure, Result.andThen_ok, invoke, callFunc, run_program, hfn, hname, hbody, Bool.false_eq_true, if_false]
    congr 2
    simp
   exact ziu hrun (x_sound h hid ((hrb.append hargs).append hrc) hob)
 ·exact callP_sound h hid ho hc hargs he hob


def zwh : List AV -> Option Eff
 | [x] => some { val := x }
 | _ => none

def pickA (c : Bool) : AV -> AV -> AV
 | .d (.bool x), .d (.bool y) => .d (.bool (bif c then x else y))
 | x, y => bif c then x else y

def zcw : AV -> AV
 | .opt _ x => x
 | x => x

def optOb (c : Bool) : AV -> Prop
 | .opt g _ => c = true -> g = true
 | _ => True

def effPick : List AV -> Option Eff
 | [.d (.bool c), x, y] => some { val := pickA c (zcw x) (zcw y), ob := optOb c x /\ optOb (!c) y }
 | _ => none

def zwm (ty : TypeId -> Option TI) (t : TypeId) (nid : Nat) : List AV -> Option Eff
 | [] => (ty t).bind fun ti => if ti.size = 0 then none else some { val := .ptr nid 0 0, wr := [(nid, some ⟨t, ti.zero.length, [ti.zero]⟩)] }
 | _ => none

def effBox (t : TypeId) (nid : Nat) : List AV -> Option Eff
 | [x] => (zdh x).bind fun l => if l.length = 0 then none else some { val := .ptr nid 0 0, wr := [(nid, some ⟨t, l.length, [l]⟩)] }
 | _ => none

def zwl (ty : TypeId -> Option TI) (t : TypeId) (keys : List Nat) (args : List AV) : Option Eff :=
 (ty t).bind fun ti =>
  match ti.kind with
  | .struct fs => (zwf (fun i => (fs[i]?).map fun f => (f.1, f.2.1)) ti.zero (keys.zip args)).map fun l => { val := mkAgg l }
  | .arr _ e => (ty e).bind fun te => (zwf (fun i => some (i * te.size, te.size)) ti.zero (keys.zip args)).map fun l => { val := mkAgg l }
  | _ => none

def ziz (ty : TypeId -> Option TI) (t : TypeId) (len : Nat) (keys : List Nat) (nid : Nat) (args : List AV) : Option Eff :=
 (ty t).bind fun ti =>
  match ti.kind with
  | .slice e => (ty e).bind fun te => if te.size = 0 \/ len * te.size > 2 ^ 24 then none else
    (zwf (fun i => some (i * te.size, te.size)) (rep len te.zero) (keys.zip args)).map fun l => { val := .hs nid 0 len, wr := [(nid, some ⟨e, te.size, zqk len te.size l⟩)] }
  | _ => none

def zmk (ty : TypeId -> Option TI) (t : TypeId) (hp : Nat -> Option Ob) : List AV -> Option Eff
 | [.ptr id i j] => (ty t).bind fun ti => (hp id).bind fun o => (o.rows[i]?).bind fun row => (zuy ti (row.drop j)).map fun x => { val := x }
 | [.d (.rp cs)] => (ty t).bind fun ti => (zuy ti (cs.map .d)).map fun x => { val := x }
 | _ => none

def zlq (ty : TypeId -> Option TI) (t : TypeId) (hp : Nat -> Option Ob) : List AV -> Option Eff
 | [.ptr id i j, x] => (ty t).bind fun ti => (hp id).bind fun o => (o.rows[i]?).bind fun row => (zdh x).bind fun l =>
   if l.length = ti.size /\ j + l.length <= row.length then some { val := .any, wr := [(id, some ⟨o.elem, o.m, o.rows.set i (putCells row j l)⟩)] } else none
 | _ => none

def zga (hp : Nat -> Option Ob) : List AV -> Option Eff
 | [.d (.rp cs)] => some { val := .d (.rp cs) }
 | [.ptr id i j] => (hp id).map fun _ => { val := .ptr id i j }
 | [.d (.fn (.func f) caps)] => some { val := .d (.fn (.func f) caps) }
 | [.clo (.func f) caps] => some { val := .clo (.func f) caps }
 | _ => none

def isNil (obj : Nat -> Option Ob) : AV -> Option AV
 | .nl => some (.d (.bool true))
 | .d (.sl rows) => some (.ub rows.isEmpty true)
 | .hs id _ len => (obj id).map fun _ => .ub (len == 0) true
 | _ => none

def notA : AV -> AV
 | .d (.bool b) => .d (.bool (!b))
 | .ub p q => .ub q p
 | x => x

def effBin (ty : TypeId -> Option TI) (op : BinOp) (t : TypeId) (obj : Nat -> Option Ob) : List AV -> Option Eff
 | [x, .nl] => (ty t).bind fun ti => match ti.kind with
  | .slice _ => (isNil obj x).bind fun c => match op with
   | .eql => some { val := c }
   | .neq => some { val := notA c }
   | _ => none
  | _ => none
 | [.d (.int k a), .d (.int k' b)] =>
  if k = k' then
   match op with
   | .add => some { val := .d (.int k (k.wrap (a + b))) }
   | .sub => some { val := .d (.int k (k.wrap (a - b))) }
   | .mul => some { val := .d (.int k (k.wrap (a * b))) }
   | .quo => some { val := .d (.int k (k.wrap (a.tdiv b))), ob := b ≠ 0 }
   | .rem => some { val := .d (.int k (a.tmod b)), ob := b ≠ 0 }
   | .shr => some { val := .d (.int k (a.fdiv (2 ^ (min b.toNat k.bits)))), ob := ¬ b < 0 }
   | .eql => some { val := .d (.bool (a == b)) }
   | .neq => some { val := .d (.bool (a != b)) }
   | .lss => some { val := .d (.bool (decide (a < b))) }
   | .leq => some { val := .d (.bool (decide (a <= b))) }
   | .gtr => some { val := .d (.bool (decide (a > b))) }
   | .geq => some { val := .d (.bool (decide (a ≥ b))) }
   | _ => none
  else none
 | [.d (.bool a), .d (.bool b)] =>
  (ty t).bind fun ti => match ti.kind with
   | .bool => match op with
    | .eql => some { val := .d (.bool (a == b)) }
    | .neq => some { val := .d (.bool (a != b)) }
    | _ => none
   | _ => none
 | [.d (.agg xs), .d (.agg ys)] =>
  (ty t).bind fun ti => if ti.eqs ≠ 0 /\ xs.length = ti.size then
   match op with
   | .eql => (eqD ti.eqs xs ys).map fun c => { val := .d (.bool c) }
   | .neq => (eqD ti.eqs xs ys).map fun c => { val := .d (.bool (!c)) }
   | _ => none
  else none
 | _ => none

def effUn (op : UnOp) : List AV -> Option Eff
 | [.d (.bool b)] => match op with | .not => some { val := .d (.bool (!b)) } | _ => none
 | [.d (.int k n)] => match op with | .neg => some { val := .d (.int k (k.wrap (0 - n))) } | _ => none
 | _ => none

def zpw (ty : TypeId -> Option TI) (src dst : TypeId) : List AV -> Option Eff
 | [.d (.int _ n)] => (ty src).bind fun _ => (ty dst).bind fun ti => match ti.kind with
  | .int k => some { val := .d (.int k (k.wrap n)) }
  | _ => none
 | _ => none

def aggList : AV -> Option (List AV)
 | .d (.agg cs) => some (cs.map AV.d)
 | .agg l => some l
 | _ => none

def zwj (ty : TypeId -> Option TI) (t : TypeId) (f : Nat) : List AV -> Option Eff
 | [x] => (ty t).bind fun ti => match ti.kind with
  | .struct fs => (fs[f]?).bind fun fi => (aggList x).bind fun l =>
    if fi.2.2 then (if fi.1 + fi.2.1 <= l.length then some { val := mkAgg ((l.drop fi.1).take fi.2.1) } else none) else (l[fi.1]?).map fun y => { val := y }
  | _ => none
 | _ => none

def zfg (ty : TypeId -> Option TI) (t : TypeId) (f : Nat) (hp : Nat -> Option Ob) : List AV -> Option Eff
 | [.ptr id i j] => (ty t).bind fun ti => match ti.kind with
  | .struct fs => (hp id).bind fun _ => (fs[f]?).map fun fi => { val := .ptr id i (j + fi.1) }
  | _ => none
 | [.d (.rp cs)] => (ty t).bind fun ti => match ti.kind with
  | .struct fs => (fs[f]?).map fun fi => { val := .d (.rp (cs.drop fi.1)) }
  | _ => none
 | _ => none

def zff (ty : TypeId -> Option TI) (t : TypeId) (hp : Nat -> Option Ob) : List AV -> Option Eff
 | [.hs id off len, .d (.int _ i)] => (ty t).bind fun ti => match ti.kind with
  | .slice e => (ty e).bind fun te => (hp id).bind fun o => if o.m = te.size then some { val := .ptr id (off + i.toNat) 0, ob := 0 <= i /\ i < (len : Int) } else none
  | _ => none
 | [.d (.sl rows), .d (.int _ i)] => (ty t).bind fun ti => match ti.kind with
  | .slice e => (ty e).bind fun te => (rows[i.toNat]?).map fun r => { val := .d (.rp r), ob := 0 <= i /\ r.length = te.size }
  | _ => none
 | [.ptr id i0 j, .d (.int _ i)] => (ty t).bind fun ti => match ti.kind with
  | .arr n e => (ty e).bind fun te => if n <= 1 then none else (hp id).map fun _ => { val := .ptr id i0 (j + i.toNat * te.size), ob := 0 <= i /\ i < (n : Int) }
  | _ => none
 | [.d (.rp cs), .d (.int _ i)] => (ty t).bind fun ti => match ti.kind with
  | .arr n e => (ty e).bind fun te => if n <= 1 then none else some { val := .d (.rp (cs.drop (i.toNat * te.size))), ob := 0 <= i /\ i < (n : Int) }
  | _ => none
 | _ => none

def zwi (ty : TypeId -> Option TI) (t : TypeId) : List AV -> Option Eff
 | [.d (.agg cs), .d (.int _ i)] => (ty t).bind fun ti => match ti.kind with
  | .arr n e => (ty e).bind fun te =>
    if te.isAgg then some { val := .d (.agg ((cs.drop (i.toNat * te.size)).take te.size)), ob := 0 <= i /\ i < (n : Int) /\ i.toNat * te.size + te.size <= cs.length }
    else (cs[i.toNat * te.size]?).map fun x => { val := .d x, ob := 0 <= i /\ i < (n : Int) }
  | _ => none
 | _ => none

def zpv (ix : Nat) : List AV -> Option Eff
 | [.d (.tup cs)] => (cs[ix]?).map fun x => { val := .d x }
 | [.tup cs] => (cs[ix]?).map fun x => { val := x }
 | _ => none

def zmj (fn : Fn) (first : Nat) (args : List AV) : Option Eff := if first = 0 then (if zrh args then some { val := .clo fn args } else none) else if first <= args.length then some { val := .clo fn (.tup (args.take first) :: args.drop first) } else none

def zkp (ty : TypeId -> Option TI) (t : TypeId) (nid : Nat) : List AV -> Option Eff
 | [.d (.int _ l), .d (.int _ c)] => (ty t).bind fun ti => match ti.kind with
  | .slice e => (ty e).bind fun te => if te.size = 0 then none else
   some { val := .hs nid 0 l.toNat, wr := [(nid, some ⟨e, te.size, List.replicate l.toNat te.zero⟩)], ob := 0 <= l /\ l <= c /\ (te.bytes : Int) * c <= 281474976710656 /\ c <= 9223372036854775807 }
  | _ => none
 | _ => none

def zie : Bool -> Bool -> List AV -> Option (Option Int × Option Int)
 | false, false, [] => some (none, none)
 | true, false, [.d (.int _ l)] => some (some l, none)
 | false, true, [.d (.int _ h)] => some (none, some h)
 | true, true, [.d (.int _ l), .d (.int _ h)] => some (some l, some h)
 | _, _, _ => none

def zqc : Nat -> Nat -> List D -> List (List D)
 | 0, _, _ => []
 | n + 1, m, l => l.take m :: zqc n m (l.drop m)

def zjp (ty : TypeId -> Option TI) (n : Nat) (e : TypeId) (hp : Nat -> Option Ob) (b : Option Int × Option Int) : AV -> Option Eff
 | .ptr id i j => (ty e).bind fun te => (hp id).bind fun o => (o.rows[i]?).bind fun row => (allD (row.drop j)).bind fun ds =>
   if b.1.isNone /\ b.2.isNone /\ te.size ≠ 0 /\ n ≠ 0 /\ n <= 65536 /\ n * te.size <= ds.length then some { val := .d (.sl (zqc n te.size ds)), wr := [(id, none)] } else none
 | _ => none

def znz (ty : TypeId -> Option TI) (t : TypeId) (hp : Nat -> Option Ob) (lo hi : Bool) : List AV -> Option Eff
 | x :: rest =>
  (zie lo hi rest).bind fun b => (ty t).bind fun ti => match ti.kind with
   | .slice e => (ty e).bind fun te => match x with
    | .d (.sl rows) =>
     some { val := .d (.sl ((rows.take ((b.2.getD rows.length).toNat)).drop ((b.1.getD 0).toNat))), ob := 0 <= b.1.getD 0 /\ b.1.getD 0 <= b.2.getD rows.length /\ b.2.getD rows.length <= rows.length /\ ∀ r ∈ rows, r.length = te.size }
    | .hs id off len => (hp id).bind fun o => if o.m = te.size then
      some { val := if b.1.getD 0 = 0 \/ b.1.getD 0 < len then .hs id (off + (b.1.getD 0).toNat) ((b.2.getD len).toNat - (b.1.getD 0).toNat) else .d (.sl []), ob := 0 <= b.1.getD 0 /\ b.1.getD 0 <= b.2.getD len /\ b.2.getD len <= len } else none
    | _ => none
   | .arr n e => zjp ty n e hp b x
   | _ => none
 | _ => none

def lenA (hp : Nat -> Option Ob) : TK -> AV -> Option Eff
 | .slice _, .nl => some { val := .d (.int .i64 0) }
 | .slice _, .d (.sl rows) => some { val := .d (.int .i64 rows.length) }
 | .slice _, .hs id _ n => (hp id).map fun _ => { val := .d (.int .i64 n) }
 | .str, .d (.str s) => some { val := .d (.int .i64 s.size) }
 | .arr n _, _ => some { val := .d (.int .i64 n) }
 | _, _ => none

def zpe (hp : Nat -> Option Ob) : AV -> Option (List (List AV))
 | .hm id => (hp id).map fun o => o.rows
 | .d (.mp rows) => some (dr rows)
 | _ => none

def zpu (t : TypeId) (nid : Nat) : List AV -> Option Eff
 | [] => some { val := .hm nid, wr := [(nid, some ⟨t, mapM, []⟩)] }
 | _ => none

def zoa (ty : TypeId -> Option TI) (t : TypeId) (ok : Bool) (orc : Option Res) (hp : Nat -> Option Ob) : List AV -> Option Eff
 | [m, .d k] => (ty t).bind fun ti => match ti.kind with
  | .map kt et => (ty kt).bind fun kti => (ty et).bind fun eti => (zpe hp m).bind fun rows => match orc with
   | some (.p x) => some { val := .d x, ob := zcj kti k = true /\ zgx (zup eti) ok (zhg k rows) x }
   | _ => none
  | _ => none
 | _ => none

def zht (ty : TypeId -> Option TI) (t : TypeId) (hp : Nat -> Option Ob) : List AV -> Option Eff
 | [.hm id, .d k, x] => (ty t).bind fun ti => match ti.kind with
  | .map kt et => (ty kt).bind fun kti => (hp id).bind fun o => (zlw k x o.rows).map fun rows' => { val := .any, wr := [(id, some ⟨o.elem, o.m, rows'⟩)], ob := zcj kti k = true }
  | _ => none
 | _ => none

def zir (ty : TypeId -> Option TI) (t : TypeId) (hp : Nat -> Option Ob) : List AV -> Option Eff
 | [.hm id, .d k] => (ty t).bind fun ti => match ti.kind with
  | .map kt et => (ty kt).bind fun kti => (hp id).bind fun o => (delR k o.rows).map fun rows' => { val := .tup [], wr := [(id, some ⟨o.elem, o.m, rows'⟩)], ob := zcj kti k = true }
  | _ => none
 | _ => none

def zgy (ty : TypeId -> Option TI) (b : Builtin) (ats : List TypeId) (hp : Nat -> Option Ob) (nid : Nat) (args : List AV) : Option Eff :=
 match b, ats, args with
 | .len, [t], [x] => (ty t).bind fun ti => lenA hp ti.kind x
 | .append, [t, t'], [s, x] => if t = t' then (ty t).bind fun ti => match ti.kind with
  | .slice e => (ty e).bind fun te => if te.size = 0 \/ te.bytes = 0 then none else
   (zed hp e te.size s).bind fun d => (zcx hp te.size x).map fun r =>
    {val := .hs nid 0 (d.1.length + r.1.length), wr := d.2.1 ++ [(nid, some ⟨e, te.size, d.1 ++ r.1⟩)], ob := d.2.2 /\ r.2 /\ (d.1.length + r.1.length) * te.bytes <= 140737488355328 }
  | _ => none
  else none
 | .copy, [t, t'], [.hs id 0 len, x] => if t = t' then (ty t).bind fun ti => match ti.kind with
  | .slice e => (ty e).bind fun te => (hp id).bind fun o => (zcx hp te.size x).bind fun r =>
   if o.m = te.size then some { val := .d (.int .i64 r.1.length), wr := [(id, some ⟨o.elem, o.m, r.1 ++ o.rows.drop r.1.length⟩)], ob := r.2 /\ r.1.length <= len /\ len <= o.rows.length } else none
  | _ => none
  else none
 | .delete, [t, _], args => zir ty t hp args
 | .min, _, [.d (.int k a), .d (.int k' b)] => if k = k' then some { val := .d (.int k (min a b)) } else none
 | .max, _, [.d (.int k a), .d (.int k' b)] => if k = k' then some { val := .d (.int k (max a b)) } else none
 | _, _, _ => none

def zgi (ty : TypeId -> Option TI) (P : Program) (orc : Option Res) (op : Op) (hp : Nat -> Option Ob) (nid : Nat) (args : List AV) : Option Eff :=
 match op with
 | .move _ => zwh args
 | .assign _ => zwh args
 | .pick _ _ _ => effPick args
 | .alloc t => zwm ty t nid args
 | .box t _ => effBox t nid args
 | .build t ps => zwl ty t (ps.toList.map (·.1)) args
 | .buildSlice t len ps => ziz ty t len (ps.toList.map (·.1)) nid args
 | .load t _ => zmk ty t hp args
 | .nilCheck _ => zga hp args
 | .store t _ _ => zlq ty t hp args
 | .binOp op t _ _ _ => effBin ty op t hp args
 | .unOp op _ _ => effUn op args
 | .convert src dst _ => zpw ty src dst args
 | .field t _ f => zwj ty t f args
 | .fieldAddr t _ f => zfg ty t f hp args
 | .indexAddr t _ _ => zff ty t hp args
 | .index t _ _ => zwi ty t args
 | .extract _ ix => zpv ix args
 | .makeFunc fn first _ => zmj fn first.size args
 | .makeSlice t _ _ => zkp ty t nid args
 | .slice t _ lo hi mx => if mx.isSome then none else znz ty t hp lo.isSome hi.isSome args
 | .makeMap t r => if r.isSome then none else zpu t nid args
 | .lookup t _ _ ok => zoa ty t ok orc hp args
 | .mapUpdate t _ _ _ => zht ty t hp args
 | .call { callee := .builtin b, argTypes := ats, .. } => zgy ty b ats.toList hp nid args
 | .call { callee := .value _, .. } => zwk P orc hp nid args
 | _ => none

def fixU (b : Bool) (e : Eff) : Option Eff := match e.val with
 | .ub p q => some { e with val := .d (.bool b), ob := e.ob /\ (bif b then q else p) = false }
 | _ => none

def frzE (nid : Nat) (d : D) (e : Eff) : Option Eff := match e.val, e.wr with
 | .hs id 0 len, [(k, some o)] => if id = nid /\ k = nid then some { val := .d d, ob := e.ob /\ (match zdm o.rows with | some R => d = .sl (R.take len) /\ len <= R.length | none => False) } else none
 | _, _ => none

def zho : Op -> Bool
 | .binOp _ _ _ _ _ => true
 | .index _ _ _ => true
 | .slice _ _ _ _ _ => true
 | .convert _ _ _ => true
 | _ => false
theorem po_binOp {x y z u v} : zho (.binOp x y z u v) = true := rfl
theorem po_index {x y z} : zho (.index x y z) = true := rfl
theorem po_slice {x y z u v} : zho (.slice x y z u v) = true := rfl
theorem po_convert {x y z} : zho (.convert x y z) = true := rfl
theorem po_call {x} : zho (.call x) = false := rfl
theorem po_lookup {x y z u} : zho (.lookup x y z u) = false := rfl
theorem po_load {x y} : zho (.load x y) = false := rfl
theorem po_store {x y z} : zho (.store x y z) = false := rfl
def OpRes (P : Program) (op : Op) (ds : List D) (r : Res) : Prop :=
 ∀ (o : Oper) (a : Act) (ro : Nat -> Prop) (w : World), o.op = op -> (∀ b, ro b -> b < w.heap.size) -> zt ro w ds (op.operands.toList.map a.eval) ->
  ∃ v w', (execOp a.eval o).run P w = .ok (.value v) w' /\ Below w.heap.size w w' /\ zdu ro w.heap.size w' r v
def effExt (P : Program) (op : Op) (r : Res) (nid : Nat) (args : List AV) : Option Eff :=
 (allS args).map fun ds => { val := (zjw nid r).1, wr := (zjw nid r).2, ob := OpRes P op ds r }

def eff (ty : TypeId -> Option TI) (P : Program) (orc : Option Res) (op : Op) (hp : Nat -> Option Ob) (nid : Nat) (args : List AV) : Option Eff :=
 match orc with
 | some .skip => none
 | some (.ub b) => (zgi ty P none op hp nid args).bind (fixU b)
 | some (.f d) => match op with
  | .buildSlice _ _ _ => (zgi ty P none op hp nid args).bind (frzE nid d)
  | .makeSlice _ _ _ => (zgi ty P none op hp nid args).bind (frzE nid d)
  | _ => zgi ty P (some (.f d)) op hp nid args
 | some (.p d) => bif zho op then effExt P op (.p d) nid args else zgi ty P (some (.p d)) op hp nid args
 | some (.o e m rows) => bif zho op then effExt P op (.o e m rows) nid args else zgi ty P (some (.o e m rows)) op hp nid args
 | r => zgi ty P r op hp nid args

structure Ctx (P : Program) (ty : TypeId -> Option TI) : Prop where
 ok : ∀ t ti, ty t = some ti -> TOk P t ti

section
variable {P : Program} {ty : TypeId -> Option TI} {o : Oper} {a : Act} {g : G} {obj : Nat -> Option Ob} {w : World} {nid : Nat} {args : List AV} {e : Eff}

theorem zcr {x : AV} {v : Value} (h : zk g w [x] [v]) : zi g w x v := by
 simp only [zk] at h;obtain ⟨_, _, heq, h1, _⟩ := h;cases heq;exact h1

theorem zcs {x y : AV} {v u : Value} (h : zk g w [x, y] [v, u]) : zi g w x v /\ zi g w y u := by
 simp only [zk] at h;obtain ⟨_, _, heq, h1, _, _, heq', h2, _⟩ := h;cases heq;cases heq';exact ⟨h1, h2⟩

theorem three_args {x y z : AV} {v u t : Value} (h : zk g w [x, y, z] [v, u, t]) : zi g w x v /\ zi g w y u /\ zi g w z t := by
 simp only [zk] at h;obtain ⟨_, _, heq, h1, _, _, heq', h2, _, _, heq'', h3, _⟩ := h;cases heq;cases heq';cases heq'';exact ⟨h1, h2, h3⟩

theorem move_sound {x : Operand} (hH : zah g obj w) (ho : o.op = .move x \/ o.op = .assign x) (hargs : zk g w args [a.eval x]) (he : zwh args = some e) : zft P o a w (zaf g obj w nid e) := by
 match args, he with
 | [y], he =>
  simp [zwh] at he; subst he;have hy := zcr hargs;refine zx (v := a.eval x) (w' := w) ?_ (zaf.same hH hy);rcases ho with ho | ho <;> simp [execOp, ho]

theorem strip_rep {x : AV} {v : Value} {c : Bool} (h : zi g w x v) (hc : c = true) (ho : optOb c x) : zi g w (zcw x) v := by
 cases x with
 | opt b y => simp only [zi] at h; exact h.1 (ho hc)
 | _ => exact h

theorem pickA_rep {c : Bool} {x y : AV} {u v : Value} (hx : c = true -> zi g w x u) (hy : c = false -> zi g w y v) : zi g w (pickA c x y) (if c then u else v) := by
 unfold pickA;split
 ·cases c
  ·have := hy rfl;simp only [zi, zv] at this ⊢;subst this; rfl
  ·have := hx rfl;simp only [zi, zv] at this ⊢;subst this; rfl
 ·cases c
  ·simpa using hy rfl
  ·simpa using hx rfl

theorem pick_sound {c x y : Operand} (hH : zah g obj w) (ho : o.op = .pick c x y) (hargs : zk g w args [a.eval c, a.eval x, a.eval y]) (he : effPick args = some e) (hob : e.ob) : zft P o a w (zaf g obj w nid e) := by
 match args, he with
 | [.d (.bool b), p, q], he =>
  simp [effPick] at he; subst he;obtain ⟨h1, h2, h3⟩ := three_args hargs;simp only [zi, zv] at h1;refine zx (v := if b then a.eval x else a.eval y) (w' := w) ?_ (zaf.same hH (pickA_rep (fun hb => strip_rep h2 hb hob.1) (fun hb => strip_rep h3 (by rw [hb]; rfl) hob.2)));simp [execOp, ho, h1, asBool]

theorem bin_sound {op : BinOp} {t yt : TypeId} {x y : Operand} (hc : Ctx P ty) (hH : zah g obj w) (ho : o.op = .binOp op t x y yt) (hargs : zk g w args [a.eval x, a.eval y]) (he : effBin ty op t obj args = some e) (hob : e.ob) : zft P o a w (zaf g obj w nid e) := by
 unfold effBin at he;split at he
 ·rename_i x0;cases hty : ty t with
  | none => rw [hty] at he; cases he
  | some ti =>
   rw [hty] at he;simp only [Option.bind_some] at he;split at he
   ·rename_i et hk;have hu : P.underlying t = some (.slice et) := by have := (hc.ok t ti hty).kind; rw [hk] at this; exact this
    obtain ⟨h1, h2⟩ := zcs hargs;simp only [zi] at h2;cases hn : isNil obj x0 with
    | none => rw [hn] at he; cases he
    | some c =>
     rw [hn] at he;simp only [Option.bind_some] at he;obtain ⟨aa, nn, cc, hv, hrep, hrep'⟩ : ∃ aa nn cc, a.eval x = .slice aa nn cc /\ zi g w c (.bool aa.isNone) /\ zi g w (notA c) (.bool (!aa.isNone)) := by
      unfold isNil at hn;split at hn
      ·cases hn;simp only [zi] at h1;exact ⟨none, 0, 0, h1, by simp [zi, zv], by simp [zi, zv, notA]⟩
      ·cases hn;simp only [zi, zv] at h1;obtain ⟨aa, cap, hv, hle, hmax, hrows⟩ := h1;refine ⟨aa, _, cap, hv, ?_⟩;rcases hrows with rfl | ⟨b, o, m, rfl, _⟩
       ·cases aa <;> simp [zi, notA]
       ·simp [zi, notA]
      ·rename_i id off len;simp only [Option.map_eq_some_iff] at hn;obtain ⟨ob, hob', rfl⟩ := hn;obtain ⟨L, hL, _⟩ := hH.own id ob hob';simp only [zi] at h1;rcases h1.2 L hL with ⟨_, h3, h4, a0, h5⟩ | ⟨_, _, h5⟩
       ·exact ⟨a0, 0, 0, h5, by cases a0 <;> simp [zi, h4], by cases a0 <;> simp [zi, notA, h4]⟩
       ·exact ⟨_, _, _, h5, by simp [zi], by simp [zi, notA]⟩
      ·cases hn
     cases op <;> simp only [Option.some.injEq, reduceCtorEq] at he
     ·subst he;refine zx (v := .bool aa.isNone) (w' := w) ?_ (zaf.same hH hrep);simp only [execOp, ho, hv, h2, eqGuard_at_slice, pure_bind, Sem.run_bind, Lib.run_eql_slice_nil w t et aa nn cc 0 0 hu, Result.andThen_ok, Sem.run_pure]
     ·subst he;refine zx (v := .bool (!aa.isNone)) (w' := w) ?_ (zaf.same hH hrep');simp only [execOp, ho, hv, h2, eqGuard_at_slice, pure_bind, Sem.run_bind, run_neq_slice_nil_any w t et aa nn cc 0 0 hu, Result.andThen_ok, Sem.run_pure]
   ·cases he
 ·rename_i k m k' n;obtain ⟨h1, h2⟩ := zcs hargs;simp only [zi, zv] at h1 h2;split at he
  ·rename_i hk;subst hk;have key : ∀ (v : Value) (z : D), (binOp op t (.int k m) (.int k n)).run P w = .ok v w -> zv g.ro w z v -> e.val = .d z -> e.wr = [] -> zft P o a w (zaf g obj w nid e) := by
    intro v z hrun hz hv hw;refine zx (v := v) (w' := w) ?_ ?_
    ·simp only [execOp, ho, h1, h2, eqGuard_at_int, pure_bind, Sem.run_bind, hrun, Result.andThen_ok, Sem.run_pure]
    ·obtain ⟨val, wr, ob⟩ := e;simp only at hv hw;subst hv; subst hw;exact zaf.same hH (by simpa only [zi] using hz)
   cases op <;> simp only [Option.some.injEq, reduceCtorEq] at he <;> subst he <;>
    first
     | exact key _ _ (by simp [go_sem, Op.intArith]; rfl) (by simp only [zv]) rfl rfl
     | (simp only at hob
        exact key _ _ (by simp [go_sem, Op.intDiv, hob]; rfl) (by simp only [zv]) rfl rfl)
     | (simp only at hob
        exact key (.int k (m.fdiv (2 ^ (min n.toNat k.bits)))) _ (by simp only [binOp, Op.shift, if_neg hob, Sem.run_pure]) (by simp only [zv]) rfl rfl)
  ·cases he
 ·rename_i m n;cases hty : ty t with
  | none => rw [hty] at he; cases he
  | some ti =>
   rw [hty] at he;simp only [Option.bind_some] at he;split at he
   ·rename_i hk;obtain ⟨h1, h2⟩ := zcs hargs;simp only [zi, zv] at h1 h2;have hu : P.underlying t = some .bool := by have := (hc.ok t ti hty).kind; rw [hk] at this; exact this
    have heq : (Op.equal t (.bool m) (.bool n)).run P w = .ok (m == n) w := by
     show (Op.equalIn (9999 + 1) t (.bool m) (.bool n)).run P w = _
     exact run_equalIn_bool w 9999 t m n hu
    cases op <;> simp only [Option.some.injEq, reduceCtorEq] at he
    ·subst he;refine zx (v := .bool (m == n)) (w' := w) ?_ (zaf.same hH (by simp only [zi, zv]));simp only [execOp, ho, h1, h2, eqGuard_at_bool, pure_bind, binOp, Sem.run_bind, heq, Result.andThen_ok, Sem.run_pure]
    ·subst he;refine zx (v := .bool (!(m == n))) (w' := w) ?_ (zaf.same hH (by simp only [zi, zv]; rfl));simp only [execOp, ho, h1, h2, eqGuard_at_bool, pure_bind, binOp, Sem.run_bind, heq, Result.andThen_ok, Sem.run_pure]
   ·cases he
 ·rename_i xs ys;obtain ⟨h1, h2⟩ := zcs hargs;simp only [zi, zv] at h1 h2;obtain ⟨us, hu, _, hru⟩ := h1;obtain ⟨vs, hv, _, hrv⟩ := h2;cases hty : ty t with
  | none => rw [hty] at he; cases he
  | some ti =>
   rw [hty] at he;simp only [Option.bind_some] at he;split at he
   ·rename_i heqs;obtain ⟨hgt, hflat⟩ := (hc.ok t ti hty).eqs heqs.1;have hrun : ∀ c, eqD ti.eqs xs ys = some c -> (Op.equalIn 10000 t (.agg us.toArray) (.agg vs.toArray)).run P w = .ok c w := fun c hc' => hflat w g.ro us vs xs ys c hru hrv heqs.2 hc';cases op <;> simp only [Option.map_eq_some_iff, reduceCtorEq] at he
    ·obtain ⟨c, hc', rfl⟩ := he;refine zx (v := .bool c) (w' := w) ?_ (zaf.same hH (by simp only [zi, zv]));simp only [execOp, ho, hu, hv, Sem.run_bind, run_eqGuard_agg w _ t x y _ _ hgt, Result.andThen_ok, run_eql_struct, hrun c hc', Sem.run_pure]
    ·obtain ⟨c, hc', rfl⟩ := he;refine zx (v := .bool (!c)) (w' := w) ?_ (zaf.same hH (by simp only [zi, zv]));simp only [execOp, ho, hu, hv, Sem.run_bind, run_eqGuard_agg w _ t x y _ _ hgt, Result.andThen_ok, run_neq_struct, hrun c hc', Sem.run_pure]
   ·cases he
 ·cases he

end
end Go.Abs

namespace Go.Abs
variable [Flag]
open Go.RowKit
section
variable {P : Program} {ty : TypeId -> Option TI} {o : Oper} {a : Act} {g : G} {obj : Nat -> Option Ob} {w : World} {nid : Nat} {args : List AV} {e : Eff}

theorem un_sound {op : UnOp} {t : TypeId} {x : Operand} (hH : zah g obj w) (ho : o.op = .unOp op t x) (hargs : zk g w args [a.eval x]) (he : effUn op args = some e) : zft P o a w (zaf g obj w nid e) := by
 unfold effUn at he;split at he
 ·have h := zcr hargs;simp only [zi, zv] at h;cases op <;> simp only [Option.some.injEq, reduceCtorEq] at he
  subst he;refine zx (v := .bool _) (w' := w) ?_ (zaf.same hH (by simp only [zi, zv]; rfl));simp [execOp, ho, h, Op.unary]
 ·have h := zcr hargs;simp only [zi, zv] at h;cases op <;> simp only [Option.some.injEq, reduceCtorEq] at he
  subst he;refine zx (v := .int _ _) (w' := w) ?_ (zaf.same hH (by simp only [zi, zv]; rfl));simp [execOp, ho, h, Op.unary, Op.intArith]
 ·cases he

theorem zvp {x : Operand} (hH : zah g obj w) (ho : o.op = .nilCheck x) (hargs : zk g w args [a.eval x]) (he : zga obj args = some e) : zft P o a w (zaf g obj w nid e) := by
 unfold zga at he;split at he
 ·cases he;have h := zcr hargs;have h' := h;simp only [zi, zv] at h;obtain ⟨b, off, vs, hv, _⟩ := h;exact zx (v := a.eval x) (w' := w) (by simp [execOp, ho, hv]) (zaf.same hH h')
 ·rename_i id i j;simp only [Option.map_eq_some_iff] at he;obtain ⟨ob, hob, rfl⟩ := he;have h := zcr hargs;have h' := h;obtain ⟨L, hL, _⟩ := hH.own id ob hob;simp only [zi] at h;have hv := (h.2 L hL).2;exact zx (v := a.eval x) (w' := w) (by simp [execOp, ho, hv]) (zaf.same hH h')
 ·cases he;have h := zcr hargs;have h' := h;simp only [zi, zv] at h;obtain ⟨vs, hv, _⟩ := h;exact zx (v := a.eval x) (w' := w) (by simp [execOp, ho, hv]) (zaf.same hH h')
 ·cases he;have h := zcr hargs;have h' := h;simp only [zi] at h;obtain ⟨vs, hv, _⟩ := h;obtain ⟨x1, x2, hx⟩ := mkFn_func _ vs;rw [hx] at hv;exact zx (v := a.eval x) (w' := w) (by simp [execOp, ho, hv]) (zaf.same hH h')
 ·cases he

theorem TOk.und {t : TypeId} {ti : TI} (h : TOk P t ti) : (P.underlying t).isSome = true := by
 have hk := h.kind;cases hti : ti.kind <;> rw [hti] at hk <;> simp only at hk
 case struct l => obtain ⟨fs, hu, _⟩ := hk; simp [hu]
 case one => cases hu : P.underlying t <;> rw [hu] at hk <;> simp at hk ⊢
 all_goals simp [hk]

theorem convert_sound {src dst : TypeId} {x : Operand} (hc : Ctx P ty) (hH : zah g obj w) (ho : o.op = .convert src dst x) (hargs : zk g w args [a.eval x]) (he : zpw ty src dst args = some e) : zft P o a w (zaf g obj w nid e) := by
 unfold zpw at he;split at he
 ·have h := zcr hargs;simp only [zi, zv] at h;cases hs : ty src with
  | none => rw [hs] at he; cases he
  | some si =>
   cases hd : ty dst with
   | none => rw [hs, hd] at he; cases he
   | some di =>
    rw [hs, hd] at he;simp only [Option.bind_some] at he;split at he
    ·rename_i k hk;cases he;have hu : P.underlying dst = some (.int k) := by have := (hc.ok dst di hd).kind; rw [hk] at this; exact this
     obtain ⟨sd, hsd⟩ := Option.isSome_iff_exists.1 (hc.ok src si hs).und;refine zx (v := .int k _) (w' := w) ?_ (zaf.same hH (by simp only [zi, zv]; rfl));simp only [execOp, ho, h, convert, Sem.run_bind, run_underlying hsd, run_underlying hu, Result.andThen_ok];simp [Conv.intToInt]
    ·cases he
 ·cases he

theorem ztp {t : TypeId} {x : Operand} (hc : Ctx P ty) (hH : zah g obj w) (ho : o.op = .load t x) (hargs : zk g w args [a.eval x]) (he : zmk ty t obj args = some e) : zft P o a w (zaf g obj w nid e) := by
 unfold zmk at he;split at he
 ·rename_i id i j;have h := zcr hargs;cases ht : ty t with
  | none => rw [ht] at he; cases he
  | some ti =>
   cases hob : obj id with
   | none => rw [ht, hob] at he; cases he
   | some ob =>
    rw [ht, hob] at he;simp only [Option.bind_some] at he;cases hrow : ob.rows[i]? with
    | none => rw [hrow] at he; cases he
    | some row =>
     rw [hrow] at he;simp only [Option.bind_some, Option.map_eq_some_iff] at he;obtain ⟨y, hy, rfl⟩ := he;obtain ⟨L, hL, hok⟩ := hH.own id ob hob;simp only [zi] at h;obtain ⟨hv, hp⟩ := h.2 L hL;obtain ⟨us, hul, hur, huc⟩ := hok.row hv hrow;obtain ⟨v, hrun, hrep⟩ := zpf (hc.ok t ti ht) (huc.drop j) (hur.drop j) hy;refine zx (v := v) (w' := w) ?_ (zaf.same hH hrep);simp only [execOp, ho, hp, Sem.run_bind, hrun, Result.andThen_ok, Sem.run_pure]
 ·rename_i cs;have h := zcr hargs;cases ht : ty t with
  | none => rw [ht] at he; cases he
  | some ti =>
   rw [ht] at he;simp only [Option.bind_some, Option.map_eq_some_iff] at he;obtain ⟨y, hy, rfl⟩ := he;simp only [zi, zv] at h;obtain ⟨b, off, us, hp, hb, hr, hcell⟩ := h;obtain ⟨v, hrun, hrep⟩ := zpf (hc.ok t ti ht) hcell (zk.of_ds hr) hy;refine zx (v := v) (w' := w) ?_ (zaf.same hH hrep);simp only [execOp, ho, hp, Sem.run_bind, hrun, Result.andThen_ok, Sem.run_pure]
 ·cases he

theorem store_op_sound {t : TypeId} {x y : Operand} (hc : Ctx P ty) (hH : zah g obj w) (ho : o.op = .store t x y) (hargs : zk g w args [a.eval x, a.eval y]) (he : zlq ty t obj args = some e) : zft P o a w (zaf g obj w nid e) := by
 unfold zlq at he;split at he
 ·rename_i id i j av;obtain ⟨h1, h2⟩ := zcs hargs;cases ht : ty t with
  | none => rw [ht] at he; cases he
  | some ti =>
   cases hob : obj id with
   | none => rw [ht, hob] at he; cases he
   | some ob =>
    rw [ht, hob] at he;simp only [Option.bind_some] at he;cases hrow : ob.rows[i]? with
    | none => rw [hrow] at he; cases he
    | some row =>
     rw [hrow] at he;cases hl : zdh av with
     | none => rw [hl] at he; cases he
     | some l =>
      rw [hl] at he;simp only [Option.bind_some] at he;split at he
      ·rename_i hsz;cases he;obtain ⟨w', g', hrun, hH', hS, hL, hu⟩ := store_sound (hc.ok t ti ht) hH hob hrow h1 h2 hl hsz.1 hsz.2;refine does_skip (w' := w') ?_ ⟨g', by simpa [zcm] using hH', hS, hL, fun k hk => .inl (hu k hk), by simp [zi]⟩;simp only [execOp, ho, Sem.run_bind, hrun, Result.andThen_ok, Sem.run_pure]
      ·cases he
 ·cases he

theorem alloc_op_sound {t : TypeId} (hc : Ctx P ty) (hH : zah g obj w) (hid : ¬ g.used nid) (ho : o.op = .alloc t) (he : zwm ty t nid args = some e) : zft P o a w (zaf g obj w nid e) := by
 unfold zwm at he;split at he
 ·cases ht : ty t with
  | none => rw [ht] at he; cases he
  | some ti =>
   rw [ht] at he;simp only [Option.bind_some] at he;split at he
   ·cases he
   ·rename_i hpos;cases he;obtain ⟨v, w', hrun, hA⟩ := alloc_sound (hc.ok t ti ht) (Nat.pos_of_ne_zero hpos) hH hid;refine zx (v := v) (w' := w') ?_ hA;simp only [execOp, ho, Sem.run_bind, hrun, Result.andThen_ok, Sem.run_pure]
 ·cases he

theorem box_op_sound {t : TypeId} {x : Operand} (hH : zah g obj w) (hid : ¬ g.used nid) (ho : o.op = .box t x) (hargs : zk g w args [a.eval x]) (he : effBox t nid args = some e) : zft P o a w (zaf g obj w nid e) := by
 unfold effBox at he;split at he
 ·rename_i y;have h := zcr hargs;cases hl : zdh y with
  | none => rw [hl] at he; cases he
  | some l =>
   rw [hl] at he;simp only [Option.bind_some] at he;split at he
   ·cases he
   ·rename_i hpos;cases he;obtain ⟨hr, ho'⟩ := zum h hl;refine zx (v := .pointer (some ⟨w.heap.size, 0, none⟩)) (w' := w.alloc (.cells (a.eval x).cells t)) ?_ (box_sound hH hid t l (a.eval x).cells hr ho' (Nat.pos_of_ne_zero hpos));simp only [execOp, ho, Instr.box, newVar, newRow, Sem.run_bind, run_newObj, Result.andThen_ok, Sem.run_pure];rfl
 ·cases he

theorem zip_parts {ps : Array (Nat × Operand)} (hargs : zk g w args ((ps.toList.map (·.2)).map a.eval)) :
  (ps.toList.map fun x => (x.1, a.eval x.2)).map (·.1) = ((ps.toList.map (·.1)).zip args).map (·.1) /\ zk g w (((ps.toList.map (·.1)).zip args).map (·.2)) ((ps.toList.map fun x => (x.1, a.eval x.2)).map (·.2)) := by
 have hl : args.length = ps.toList.length := by have := hargs.length; simpa using this.symm
 constructor
 ·rw [List.map_fst_zip (by simpa using Nat.le_of_eq hl.symm)];simp [List.map_map, Function.comp_def]
 ·rw [List.map_snd_zip (by simpa using Nat.le_of_eq hl)];simpa [List.map_map, Function.comp_def] using hargs

theorem mapParts (ps : Array (Nat × Operand)) : (ps.map fun x => (x.1, a.eval x.2)) = (ps.toList.map fun x => (x.1, a.eval x.2)).toArray := by
 apply Array.ext'
 simp

theorem zth {t : TypeId} {len : Nat} {ps : Array (Nat × Operand)} (hc : Ctx P ty) (hH : zah g obj w) (hid : ¬ g.used nid) (ho : o.op = .buildSlice t len ps) (hargs : zk g w args ((ps.toList.map (·.2)).map a.eval))
  (he : ziz ty t len (ps.toList.map (·.1)) nid args = some e) : zft P o a w (zaf g obj w nid e) := by
 unfold ziz at he;cases ht : ty t with
 | none => rw [ht] at he; cases he
 | some ti =>
  rw [ht] at he;simp only [Option.bind_some] at he;split at he
  ·rename_i el hk;cases hte : ty el with
   | none => rw [hte] at he; cases he
   | some te =>
    rw [hte] at he;simp only [Option.bind_some] at he;split at he
    ·cases he
    ·rename_i hn;simp only [Option.map_eq_some_iff] at he;obtain ⟨l', hl', rfl⟩ := he;obtain ⟨h1, h2⟩ := zip_parts hargs;obtain ⟨v, w', hrun, hA⟩ := buildSlice_sound (hc.ok t ti ht) hk (hc.ok el te hte) (by omega) hH hid h1 h2 (by omega) hl';refine zx (v := v) (w' := w') ?_ hA;simp only [execOp, ho, Sem.run_bind, Sem.run_pure];rw [show (ps.map fun x => match x with | (i, x) => (i, a.eval x)) = (ps.toList.map fun x => (x.1, a.eval x.2)).toArray from mapParts ps, hrun, Result.andThen_ok]
  ·cases he

theorem zow {t : TypeId} (h : P.cellsOf t ≠ 0) : (Go.sizeOf t).run P w = .ok (P.cellsOf t) w := by
 unfold Program.cellsOf at h ⊢;cases hi : P.info? t with
 | none => rw [hi] at h; simp at h
 | some i => simp [Go.sizeOf, typeInfo, hi]

theorem places_run (P : Program) (w : World) : ∀ (fs : List Field), fs.all (fun f => (P.underlying f.type).isSome && decide (P.cellsOf f.type ≠ 0)) = true ->
  (fs.mapM (fun f => do pure (f.offset, <- Go.sizeOf f.type) : Field -> Sem (Nat × Nat))).run P w = .ok (fs.map fun f => (f.offset, P.cellsOf f.type)) w
 | [], _ => by simp
 | f :: fs, h => by
  simp only [List.all_cons, Bool.and_eq_true, decide_eq_true_eq] at h;have ih := places_run P w fs h.2;simp only [List.mapM_cons, Sem.run_bind, zow h.1.2, Result.andThen_ok, Sem.run_pure, ih, List.map_cons]

theorem build_op_sound {t : TypeId} {ps : Array (Nat × Operand)} (hc : Ctx P ty) (hH : zah g obj w) (ho : o.op = .build t ps) (hargs : zk g w args ((ps.toList.map (·.2)).map a.eval))
  (he : zwl ty t (ps.toList.map (·.1)) args = some e) : zft P o a w (zaf g obj w nid e) := by
 unfold zwl at he;cases ht : ty t with
 | none => rw [ht] at he; cases he
 | some ti =>
  rw [ht] at he;simp only [Option.bind_some] at he;obtain ⟨z, hz, hr, hoz, _, _⟩ := (hc.ok t ti ht).zero g w;obtain ⟨h1, h2⟩ := zip_parts hargs;have hps : (ps.map fun x => match x with | (i, x) => (i, a.eval x)) = (ps.toList.map fun x => (x.1, a.eval x.2)).toArray := mapParts ps;split at he
  ·rename_i fs hk;simp only [Option.map_eq_some_iff] at he;obtain ⟨l, hl, rfl⟩ := he;have hkind := (hc.ok t ti ht).kind;rw [hk] at hkind;obtain ⟨fds, hu, hfs, hall⟩ := hkind;obtain ⟨cs', hf, hr', ho', _⟩ := zps _ _ ti.zero l z.cells h1 h2 hr hoz hl;have hplaces : (fds.mapM fun f => do pure (f.offset, <- Go.sizeOf f.type) : Sem (Array (Nat × Nat))).run P w = .ok ((fds.toList.map fun f => (f.offset, P.cellsOf f.type)).toArray) w := by
    rw [Array.mapM_eq_mapM_toList];simp only [Sem.run_map, places_run P w fds.toList hall, Result.andThen_ok]
   have hpl : (fun (i : Nat) => ((fds.toList.map fun f => (f.offset, P.cellsOf f.type)).toArray)[i]?) = (fun i => (fs[i]?).map fun (f : Nat × Nat × Bool) => (f.1, f.2.1)) := by
    funext i
    rw [<- hfs];simp only [List.getElem?_toArray, List.getElem?_map, Option.map_map, Function.comp_def]
   refine zx (v := .agg cs') (w' := w) ?_ (zaf.same hH (by have := zi.mkAgg ho' hr'; simpa using this));simp only [execOp, ho, hps, Instr.build, Sem.run_bind, hz, Result.andThen_ok, run_underlying hu, hplaces, Sem.run_pure];rw [hpl, hf];simp
  ·rename_i n el hk;cases hte : ty el with
   | none => rw [hte] at he; cases he
   | some te =>
    rw [hte] at he;simp only [Option.bind_some, Option.map_eq_some_iff] at he;obtain ⟨l, hl, rfl⟩ := he;have hu : P.underlying t = some (.array n el) := by have := (hc.ok t ti ht).kind; rw [hk] at this; exact this
    obtain ⟨cs', hf, hr', ho', _⟩ := zps _ _ ti.zero l z.cells h1 h2 hr hoz hl;refine zx (v := .agg cs') (w' := w) ?_ (zaf.same hH (by have := zi.mkAgg ho' hr'; simpa using this));simp only [execOp, ho, hps, Instr.build, Sem.run_bind, hz, Result.andThen_ok, run_underlying hu, (hc.ok el te hte).sizeOf, hf, Sem.run_pure]
  ·cases he

theorem zeh {t el : TypeId} {ti : TI} (h : TOk P t ti) (hk : ti.kind = .slice el) : P.underlying t = some (.slice el) := by have := h.kind; rw [hk] at this; exact this
theorem zro {t el : TypeId} {n : Nat} {ti : TI} (h : TOk P t ti) (hk : ti.kind = .arr n el) : P.underlying t = some (.array n el) := by have := h.kind; rw [hk] at this; exact this

theorem zvb {t : TypeId} {ti : TI} {fs : List (Nat × Nat × Bool)} {f : Nat} {fi : Nat × Nat × Bool} (h : TOk P t ti) (hk : ti.kind = .struct fs) (hf : fs[f]? = some fi) :
  ∃ fds fd, P.underlying t = some (.struct fds) /\ fds[f]? = some fd /\ fd.offset = fi.1 /\ P.cellsOf fd.type = fi.2.1 /\ fi.2.1 ≠ 0 /\ (P.underlying fd.type).any zgs = fi.2.2 /\ (P.underlying fd.type).isSome = true := by
 have hkind := h.kind;rw [hk] at hkind;obtain ⟨fds, hu, hfs, hall⟩ := hkind;rw [<- hfs] at hf;simp only [List.getElem?_map, Option.map_eq_some_iff] at hf;obtain ⟨fd, hfd, rfl⟩ := hf;have := List.all_eq_true.1 hall fd (List.mem_of_getElem? hfd);simp only [Bool.and_eq_true, decide_eq_true_eq] at this;exact ⟨fds, fd, hu, by simpa using hfd, rfl, rfl, this.2, rfl, this.1⟩

theorem run_isAgg_any {t : TypeId} (h : (P.underlying t).isSome = true) : (isAgg t).run P w = .ok ((P.underlying t).any zgs) w := by
 obtain ⟨d, hd⟩ := Option.isSome_iff_exists.1 h;unfold isAgg;simp only [Sem.run_bind, run_underlying hd, Result.andThen_ok, hd, Option.any_some];cases d <;> simp [zgs]

theorem zuk {t : TypeId} {x : Operand} {f : Nat} (hc : Ctx P ty) (hH : zah g obj w) (ho : o.op = .fieldAddr t x f) (hargs : zk g w args [a.eval x]) (he : zfg ty t f obj args = some e) : zft P o a w (zaf g obj w nid e) := by
 have key : ∀ (ti : TI) (fs : List (Nat × Nat × Bool)) (fi : Nat × Nat × Bool) (b off : Nat), ty t = some ti -> ti.kind = .struct fs -> fs[f]? = some fi -> a.eval x = .pointer (some ⟨b, off, none⟩) -> (execOp a.eval o).run P w = .ok (.value (.pointer (some ⟨b, off + fi.1, none⟩))) w := by
  intro ti fs fi b off ht hk hf hx;obtain ⟨fds, fd, hu, hfd, h1, h2, h3, _⟩ := zvb (hc.ok t ti ht) hk hf;simp only [execOp, ho, hx, Instr.fieldAt, Sem.run_bind, run_underlying hu, Result.andThen_ok, hfd, Instr.sureAddr, Sem.run_pure, fieldPlace, zow (P := P) (w := w) (t := fd.type) (by omega), h2, h3, if_false, Addr.add_lit, h1]
 unfold zfg at he;split at he
 ·rename_i id i j;have h := zcr hargs;cases ht : ty t with
  | none => rw [ht] at he; cases he
  | some ti =>
   rw [ht] at he;simp only [Option.bind_some] at he;split at he
   ·rename_i fs hk;cases hob : obj id with
    | none => rw [hob] at he; cases he
    | some ob =>
     rw [hob] at he;simp only [Option.bind_some, Option.map_eq_some_iff] at he;obtain ⟨fi, hfi, rfl⟩ := he;simp only [zi] at h;obtain ⟨L, hL, hok⟩ := hH.own id ob hob;obtain ⟨hv, hp⟩ := h.2 L hL;refine zx (key ti fs fi _ _ ht hk hfi hp) (zaf.same hH ?_);simp only [zi];refine ⟨⟨h.1.1, rfl⟩, fun M hM => ?_⟩;rw [hL] at hM; cases hM;exact ⟨hv, by rw [Nat.add_assoc]⟩
   ·cases he
 ·rename_i cs;have h := zcr hargs;cases ht : ty t with
  | none => rw [ht] at he; cases he
  | some ti =>
   rw [ht] at he;simp only [Option.bind_some] at he;split at he
   ·rename_i fs hk;simp only [Option.map_eq_some_iff] at he;obtain ⟨fi, hfi, rfl⟩ := he;simp only [zi, zv] at h;obtain ⟨b, off, us, hp, hb, hr, hcell⟩ := h;refine zx (key ti fs fi _ _ ht hk hfi hp) (zaf.same hH ?_);simp only [zi, zv];exact ⟨b, off + fi.1, us.drop fi.1, rfl, hb, hr.drop fi.1, hcell.drop fi.1⟩
   ·cases he
 ·cases he

theorem part_list {t : TypeId} {ti : TI} (ht : (P.underlying t).isSome = true) {sz : Nat} (hsz : P.cellsOf t = sz) (h0 : sz ≠ 0) {b : Bool} (hb : (P.underlying t).any zgs = b) {l : List AV} {us : List Value} {off : Nat} {x : AV} (hr : zk g w l us) (hone : zbk us)
  (hx : (if b then (if off + sz <= l.length then some (mkAgg ((l.drop off).take sz)) else none) else l[off]?) = some x) : ∃ v, (part t us.toArray off).run P w = .ok v w /\ zi g w x v := by
 have hagg := run_isAgg_any (P := P) (w := w) ht;rw [hb] at hagg;cases b
 ·simp only [Bool.false_eq_true, if_false] at hx;obtain ⟨v, hv, hrep⟩ := hr.get _ _ hx;refine ⟨v, ?_, hrep⟩;have : us.toArray[off]? = some v := by simpa using hv
  simp only [part, Sem.run_bind, hagg, Result.andThen_ok, Bool.false_eq_true, if_false, this, Sem.run_pure]
 ·simp only [if_true] at hx;split at hx
  ·cases hx;have hl := hr.length;refine ⟨.agg ((us.drop off).take sz).toArray, ?_, zi.mkAgg (fun v hv => hone v (List.mem_of_mem_drop (List.mem_of_mem_take hv))) ((hr.drop off).take sz)⟩;simp only [part, Sem.run_bind, hagg, Result.andThen_ok, if_true, zow (P := P) (w := w) (t := t) (by omega), hsz, Sem.run_pure]
   congr 2
   apply Array.ext'
   simp [List.take_drop, Array.toList_extract, List.extract_eq_take_drop]
  ·cases hx

theorem field_op_sound {t : TypeId} {x : Operand} {f : Nat} (hc : Ctx P ty) (hH : zah g obj w) (ho : o.op = .field t x f) (hargs : zk g w args [a.eval x]) (he : zwj ty t f args = some e) : zft P o a w (zaf g obj w nid e) := by
 unfold zwj at he;split at he
 ·rename_i y;have h := zcr hargs;cases ht : ty t with
  | none => rw [ht] at he; cases he
  | some ti =>
   rw [ht] at he;simp only [Option.bind_some] at he;split at he
   ·rename_i fs hk;cases hf : fs[f]? with
    | none => rw [hf] at he; cases he
    | some fi =>
     rw [hf] at he;simp only [Option.bind_some] at he;obtain ⟨fds, fd, hu, hfd, h1, h2, h3, h4, h5⟩ := zvb (hc.ok t ti ht) hk hf;cases hml : aggList y with
     | none => rw [hml] at he; cases he
     | some l =>
     rw [hml] at he;simp only [Option.bind_some] at he;have hl : ∃ us : List Value, a.eval x = .agg us.toArray /\ zbk us /\ zk g w l us := by
      unfold aggList at hml;split at hml
      ·cases hml;simp only [zi, zv] at h;obtain ⟨us, hus, hone, hr⟩ := h;exact ⟨us, hus, hone, zk.of_ds hr⟩
      ·cases hml;simp only [zi] at h;exact h
      ·cases hml
     obtain ⟨us, hus, hone, hr⟩ := hl;have hx : ∃ z, e = { val := z } /\ (if fi.2.2 then (if fi.1 + fi.2.1 <= l.length then some (mkAgg ((l.drop fi.1).take fi.2.1)) else none) else l[fi.1]?) = some z := by
      by_cases hb : fi.2.2 = true
      ·simp only [hb, if_true] at he ⊢;split at he
       ·rename_i hle;cases he;exact ⟨_, rfl, by rw [if_pos hle]⟩
       ·cases he
      ·simp only [hb, Bool.false_eq_true, if_false] at he ⊢;simp only [Option.map_eq_some_iff] at he;obtain ⟨z, hz, rfl⟩ := he;exact ⟨z, rfl, hz⟩
     obtain ⟨z, rfl, hz⟩ := hx;obtain ⟨v, hrun, hrep⟩ := part_list (ti := ti) h5 h2 h3 h4 hr hone hz;refine zx (v := v) (w' := w) ?_ (zaf.same hH hrep);simp only [execOp, ho, hus, Instr.field, Sem.run_bind, run_underlying hu, Result.andThen_ok, hfd, asAgg, Sem.run_pure, h1, hrun]
   ·cases he
 ·cases he

theorem TOk.cells {t : TypeId} {ti : TI} (h : TOk P t ti) : P.cellsOf t = ti.size := by
 obtain ⟨i, z, hi, hs, _⟩ := h.info;simp [Program.cellsOf, hi, hs]

theorem index_op_sound {t : TypeId} {x y : Operand} (hc : Ctx P ty) (hH : zah g obj w) (ho : o.op = .index t x y) (hargs : zk g w args [a.eval x, a.eval y]) (he : zwi ty t args = some e) (hob : e.ob) : zft P o a w (zaf g obj w nid e) := by
 unfold zwi at he;split at he
 ·rename_i cs k i;obtain ⟨h1, h2⟩ := zcs hargs;simp only [zi, zv] at h1 h2;obtain ⟨us, hus, hone, hr⟩ := h1;cases ht : ty t with
  | none => rw [ht] at he; cases he
  | some ti =>
   rw [ht] at he;simp only [Option.bind_some] at he;split at he
   ·rename_i n el hk;cases hte : ty el with
    | none => rw [hte] at he; cases he
    | some te =>
     rw [hte] at he;simp only [Option.bind_some] at he;have hu := zro (hc.ok t ti ht) hk;have hl := hr.length;have hra : zk g w (cs.map AV.d) us := zk.of_ds hr;have go : ∀ v, (part el us.toArray (i.toNat * te.size)).run P w = .ok v w -> 0 <= i -> i < (n : Int) -> (execOp a.eval o).run P w = .ok (.value v) w := by
      intro v hrun h0 h1;simp only [execOp, ho, hus, h2, Instr.index, Sem.run_bind, asIntOf, Sem.run_pure, Result.andThen_ok, run_underlying hu];rw [if_pos ⟨h0, h1⟩];simp only [Sem.run_bind, (hc.ok el te hte).sizeOf, Result.andThen_ok, hrun]
     split at he
     ·rename_i hagg;cases he;obtain ⟨o1, o2, o3⟩ := hob;have hsz : te.size ≠ 0 \/ te.size = 0 := by omega
      have hrun : (part el us.toArray (i.toNat * te.size)).run P w = .ok (.agg ((us.drop (i.toNat * te.size)).take te.size).toArray) w := by
       simp only [part, Sem.run_bind, (hc.ok el te hte).agg, Result.andThen_ok, hagg, if_true, (hc.ok el te hte).sizeOf, Sem.run_pure]
       congr 2
       apply Array.ext'
       simp [List.take_drop, Array.toList_extract, List.extract_eq_take_drop]
      refine zx (go _ hrun o1 o2) (zaf.same hH ?_);simp only [zi, zv];exact ⟨_, rfl, fun v hv => hone v (List.mem_of_mem_drop (List.mem_of_mem_take hv)), (hr.drop _).take _⟩
     ·rename_i hagg;simp only [Option.map_eq_some_iff] at he;obtain ⟨z, hz, rfl⟩ := he;obtain ⟨o1, o2⟩ := hob;obtain ⟨v, hv, hrep⟩ := hr.get _ _ hz;have hrun : (part el us.toArray (i.toNat * te.size)).run P w = .ok v w := by
       have : us.toArray[i.toNat * te.size]? = some v := by simpa using hv
       simp only [part, Sem.run_bind, (hc.ok el te hte).agg, Result.andThen_ok, hagg, Bool.false_eq_true, if_false, this, Sem.run_pure]
      exact zx (go _ hrun o1 o2) (zaf.same hH (by simpa only [zi] using hrep))
   ·cases he
 ·cases he

theorem extract_op_sound {x : Operand} {ix : Nat} (hH : zah g obj w) (ho : o.op = .extract x ix) (hargs : zk g w args [a.eval x]) (he : zpv ix args = some e) : zft P o a w (zaf g obj w nid e) := by
 unfold zpv at he;split at he
 ·have h := zcr hargs;simp only [zi, zv] at h;obtain ⟨vs, hvs, hr⟩ := h;simp only [Option.map_eq_some_iff] at he;obtain ⟨z, hz, rfl⟩ := he;obtain ⟨v, hv, hrep⟩ := hr.get _ _ hz;refine zx (v := v) (w' := w) ?_ (zaf.same hH (by simpa only [zi] using hrep));have : vs.toArray[ix]? = some v := by simpa using hv
  simp only [execOp, ho, hvs, Instr.extract, this, Sem.run_bind, Sem.run_pure, Result.andThen_ok]
 ·have h := zcr hargs;simp only [zi] at h;obtain ⟨vs, hvs, hr⟩ := h;simp only [Option.map_eq_some_iff] at he;obtain ⟨z, hz, rfl⟩ := he;obtain ⟨v, hv, hrep⟩ := hr.get _ _ hz;refine zx (v := v) (w' := w) ?_ (zaf.same hH hrep);have : vs.toArray[ix]? = some v := by simpa using hv
  simp only [execOp, ho, hvs, Instr.extract, this, Sem.run_bind, Sem.run_pure, Result.andThen_ok]
 ·cases he

theorem zvq {fn : Fn} {first caps : Array Operand} (hH : zah g obj w) (ho : o.op = .makeFunc fn first caps) (hargs : zk g w args ((first ++ caps).toList.map a.eval)) (he : zmj fn first.size args = some e) : zft P o a w (zaf g obj w nid e) := by
 unfold zmj at he;split at he
 ·rename_i h0;split at he
  case isFalse => cases he
  rename_i hok;cases he;have hf : first = #[] := Array.eq_empty_of_size_eq_zero h0
  subst hf;refine zx (v := .func fn #[] (caps.map a.eval)) (w' := w) ?_ (zaf.same hH ?_)
  ·simp [execOp, ho, Instr.makeFunc]
  ·have hr : zk g w args (caps.toList.map a.eval) := by simpa using hargs
   simp only [zi];exact ⟨caps.toList.map a.eval, by rw [mkFn_plain (zvm hok hr)]; congr 1; apply Array.ext'; simp, hr⟩
 ·split at he
  case isFalse => cases he
  rename_i hle;cases he;refine zx (v := .func fn (first.map a.eval) (caps.map a.eval)) (w' := w) ?_ (zaf.same hH ?_)
  ·simp [execOp, ho, Instr.makeFunc]
  ·have hr : zk g w (args.take first.size ++ args.drop first.size) (first.toList.map a.eval ++ caps.toList.map a.eval) := by
    rw [List.take_append_drop]; simpa using hargs
   obtain ⟨h1, h2⟩ := zk.split hr (by simp; omega);simp only [zi, zk];refine ⟨.tuple (first.toList.map a.eval).toArray :: caps.toList.map a.eval, ?_, _, _, rfl, ⟨_, rfl, h1⟩, h2⟩;simp only [mkFn]
   congr 1 <;> (apply Array.ext'; simp)

theorem zub {t : TypeId} {x y : Operand} (hc : Ctx P ty) (hH : zah g obj w) (hid : ¬ g.used nid) (ho : o.op = .makeSlice t x y) (hargs : zk g w args [a.eval x, a.eval y]) (he : zkp ty t nid args = some e) (hob : e.ob) : zft P o a w (zaf g obj w nid e) := by
 unfold zkp at he;split at he
 ·rename_i k l k' c;obtain ⟨h1, h2⟩ := zcs hargs;simp only [zi, zv] at h1 h2;cases ht : ty t with
  | none => rw [ht] at he; cases he
  | some ti =>
   rw [ht] at he;simp only [Option.bind_some] at he;split at he
   ·rename_i el hk;cases hte : ty el with
    | none => rw [hte] at he; cases he
    | some te =>
     rw [hte] at he;simp only [Option.bind_some] at he;split at he
     ·cases he
     ·rename_i hpos;cases he;obtain ⟨o2, olc, o3, o4⟩ := hob;have hu := zeh (hc.ok t ti ht) hk;obtain ⟨i, z, hi, hsz, hby, hz, hzc, hzs, hzo⟩ := (hc.ok el te hte).info;obtain ⟨z', hz', hr, hone, hzl, hzs'⟩ := (hc.ok el te hte).zero g w;have hzz : z' = z := by
       have : (zeroValue el).run P w = .ok z w := by simp [zeroValue, typeInfo, hi, hz]
       rw [hz'] at this;cases this; rfl
      subst hzz;have hrun := run_make (P := P) w t el i z' hu hi hz k k' l c o2 olc (by rw [hby]; exact o3) o4;obtain ⟨hmr, hmo⟩ := made_rep hr hone c.toNat (by omega);obtain ⟨g', b1, b2, b3, b4, b5, b6⟩ := new_sound hH hid ⟨el, te.size, List.replicate l.toNat te.zero⟩ (madeCells z'.cells (c.toNat * i.size)) c.toNat (Nat.pos_of_ne_zero hpos) (by rw [size_madeCells, hsz]) (by simp; omega) (by simp only [maxLen]; omega)
       (fun j row hj => by
        rw [List.getElem?_replicate] at hj;split at hj
        ·rename_i hlt;cases hj;refine ⟨hzl, fun q av hq => ?_⟩;have hqm : q < te.zero.length := (List.getElem?_eq_some_iff.1 hq).1;have hidx : j * te.size + q < c.toNat * te.zero.length := by
          have := Nat.mul_le_mul_right te.size (show j + 1 <= c.toNat by omega);rw [Nat.succ_mul] at this;rw [hzl] at hqm ⊢;omega
         have hrg : (rep c.toNat te.zero)[j * te.size + q]? = some av := by
          rw [rep_get _ _ _ hidx, hzl];rw [show (j * te.size + q) % te.size = q by rw [Nat.mul_comm, Nat.mul_add_mod]; exact Nat.mod_eq_of_lt (by rw [<- hzl]; exact hqm)];exact hq
         obtain ⟨u, hu', hrep⟩ := hmr.get _ _ hrg;rw [hzl, <- hsz] at hu' hmo;exact ⟨u, by rw [Array.getElem?_toList] at hu'; show (madeCells z'.cells (c.toNat * i.size))[j * te.size + q]? = some u; rw [<- hsz]; exact hu', hmo u (List.mem_of_getElem? hu'), hrep⟩
        ·cases hj) w (.inl rfl)
      refine zx (v := .slice (some ⟨w.heap.size, 0, none⟩) l.toNat c.toNat) (w' := w.alloc (.cells (madeCells z'.cells (c.toNat * i.size)) el)) ?_ ⟨g', b3, b4, b5, b6, zrc b2 b1 ⟨rfl, rfl⟩ (by show l.toNat <= c.toNat; omega)⟩;simp only [execOp, ho, h1, h2, Sem.run_bind, hrun, Result.andThen_ok, Sem.run_pure]
   ·cases he
 ·cases he


theorem zrn {t kt et : TypeId} {ti : TI} (h : TOk P t ti) (hk : ti.kind = .map kt et) : P.underlying t = some (.map kt et) := by have := h.kind; rw [hk] at this; exact this

theorem makeMap_op_sound {t : TypeId} (hH : zah g obj w) (hid : ¬ g.used nid) (ho : o.op = .makeMap t none) (hargs : zk g w args []) (he : zpu t nid args = some e) : zft P o a w (zaf g obj w nid e) := by
 unfold zpu at he;split at he
 ·cases he;refine zx (v := .map (some w.heap.size)) (w' := w.alloc (.map #[] 0)) ?_ (makeMap_sound hH hid t);simp only [execOp, ho, Option.map_none, Sem.run_bind, run_makeMap, Result.andThen_ok, Sem.run_pure]
 ·cases he

theorem lookup_op_sound {t : TypeId} {m x : Operand} {ok : Bool} {orc : Option Res} (hc : Ctx P ty) (hH : zah g obj w) (ho : o.op = .lookup t m x ok) (hargs : zk g w args [a.eval m, a.eval x]) (he : zoa ty t ok orc obj args = some e) (hob : e.ob) : zft P o a w (zaf g obj w nid e) := by
 unfold zoa at he;split at he
 ·rename_i av k;obtain ⟨h1, h2⟩ := zcs hargs;simp only [zi] at h2;cases ht : ty t with
  | none => rw [ht] at he; cases he
  | some ti =>
   rw [ht] at he;simp only [Option.bind_some] at he;split at he
   ·rename_i kt et hk;have hu := zrn (hc.ok t ti ht) hk;cases hkt : ty kt with
    | none => rw [hkt] at he; cases he
    | some kti =>
     cases het : ty et with
     | none => rw [hkt, het] at he; cases he
     | some eti =>
      rw [hkt, het] at he;simp only [Option.bind_some] at he;cases hr : zpe obj av with
      | none => rw [hr] at he; cases he
      | some rows =>
       rw [hr] at he;simp only [Option.bind_some] at he;split at he
       ·rename_i d;cases he;obtain ⟨hf, hl⟩ := hob;have hm : ∃ b es clock, a.eval m = .map (some b) /\ w.heap[b]? = some (.map es clock) /\ zad g w rows es.toList := by
         unfold zpe at hr;split at hr
         ·rename_i id;simp only [Option.map_eq_some_iff] at hr;obtain ⟨ob, hobj, rfl⟩ := hr;obtain ⟨L, hL, hok⟩ := hH.own id ob hobj;simp only [zi] at h1;obtain ⟨hv, hve⟩ := h1.2 L hL;obtain ⟨_, es, clock, e1, e2, e3⟩ := hok.ents hv;exact ⟨L.blk, es, clock, hve, e1, e3⟩
         ·cases hr;simp only [zi, zv] at h1;obtain ⟨b, es, clock, e1, _, e2, e3⟩ := h1;exact ⟨b, es, clock, e1, e2, zad.of_ents e3⟩
         ·cases hr
        obtain ⟨b, es, clock, e1, e2, e3⟩ := hm;obtain ⟨v, hrun, hrep⟩ := lookup_sound hu (hc.ok kt kti hkt) (hc.ok et eti het) e2 e3 hf h2 hl;refine zx (v := v) (w' := w) ?_ (zaf.same hH (by simpa only [zi] using hrep));simp only [execOp, ho, e1, Sem.run_bind, hrun, Result.andThen_ok, Sem.run_pure]
       ·cases he
   ·cases he
 ·cases he

theorem zua {t : TypeId} {m x y : Operand} (hc : Ctx P ty) (hH : zah g obj w) (ho : o.op = .mapUpdate t m x y) (hargs : zk g w args [a.eval m, a.eval x, a.eval y]) (he : zht ty t obj args = some e) (hob : e.ob) : zft P o a w (zaf g obj w nid e) := by
 unfold zht at he;split at he
 ·rename_i id k av;obtain ⟨h1, h2, h3⟩ := three_args hargs;have h2' := h2;simp only [zi] at h2';cases ht : ty t with
  | none => rw [ht] at he; cases he
  | some ti =>
   rw [ht] at he;simp only [Option.bind_some] at he;split at he
   ·rename_i kt et hk;have hu := zrn (hc.ok t ti ht) hk;cases hkt : ty kt with
    | none => rw [hkt] at he; cases he
    | some kti =>
     cases hobj : obj id with
     | none => rw [hkt, hobj] at he; cases he
     | some ob =>
      rw [hkt, hobj] at he;simp only [Option.bind_some, Option.map_eq_some_iff] at he;obtain ⟨rows', hp, rfl⟩ := he;obtain ⟨w', g', hrun, hH', hS, hL, hu'⟩ := mapUpdate_sound hH hu (hc.ok kt kti hkt) hobj h1 hob h2' h3 hp;refine does_skip (w' := w') ?_ ⟨g', by simpa [zcm] using hH', hS, hL, fun k hk => .inl (hu' k hk), by simp [zi]⟩;simp only [execOp, ho, Sem.run_bind, hrun, Result.andThen_ok, Sem.run_pure]
   ·cases he
 ·cases he

theorem delete_op_sound {t kt' : TypeId} {m kv : Value} (hc : Ctx P ty) (hH : zah g obj w) (hargs : zk g w args [m, kv]) (he : zir ty t obj args = some e) (hob : e.ob) :
  ∃ w', (Builtin.delete_ #[t, kt'] 0 #[m, kv]).run P w = .ok (.tuple #[]) w' /\ zaf g obj w nid e (.tuple #[]) w' := by
 unfold zir at he;split at he
 ·rename_i id k;obtain ⟨h1, h2⟩ := zcs hargs;have h2' := h2;simp only [zi] at h2';cases ht : ty t with
  | none => rw [ht] at he; cases he
  | some ti =>
   rw [ht] at he;simp only [Option.bind_some] at he;split at he
   ·rename_i kt et hk;have hu := zrn (hc.ok t ti ht) hk;cases hkt : ty kt with
    | none => rw [hkt] at he; cases he
    | some kti =>
     cases hobj : obj id with
     | none => rw [hkt, hobj] at he; cases he
     | some ob =>
      rw [hkt, hobj] at he;simp only [Option.bind_some, Option.map_eq_some_iff] at he;obtain ⟨rows', hp, rfl⟩ := he;obtain ⟨w', g', hrun, hH', hS, hL, hu'⟩ := delete_sound (kt' := kt') (ty' := 0) hH hu (hc.ok kt kti hkt) hobj h1 hob h2' hp;exact ⟨w', hrun, g', by simpa [zcm] using hH', hS, hL, fun k hk => .inl (hu' k hk), by simp [zi, zk]⟩
   ·cases he
 ·cases he
end
end Go.Abs

namespace Go.Abs
variable [Flag]
open Go.RowKit
section
variable {P : Program} {ty : TypeId -> Option TI} {o : Oper} {a : Act} {g : G} {obj : Nat -> Option Ob} {w : World} {nid : Nat} {args : List AV} {e : Eff}

theorem zol (b o n : Nat) : (⟨b, o, none⟩ : Addr).add n = ⟨b, o + n, none⟩ := Addr.add_lit b o n

theorem zmf {t el : TypeId} {te : TI} (hu : P.underlying t = some (.slice el)) (hte : TOk P el te) {b off len cap : Nat} {k : IntKind} {i : Int} (h0 : 0 <= i) (h1 : i < (len : Int)) :
  (Instr.indexAt t (.slice (some ⟨b, off, none⟩) len cap) (.int k i)).run P w = .ok (.pointer (some ⟨b, off + i.toNat * te.size, none⟩)) w := by
 simp only [Instr.indexAt, Sem.run_bind, asIntOf, Sem.run_pure, Result.andThen_ok, run_underlying hu];rw [if_pos ⟨h0, h1⟩];simp only [Sem.run_bind, hte.sizeOf, Result.andThen_ok, Sem.run_pure, zol]

theorem zqj {t el : TypeId} {te : TI} {n : Nat} (hu : P.underlying t = some (.array n el)) (hte : TOk P el te) {b off : Nat} {k : IntKind} {i : Int} (h0 : 0 <= i) (h1 : i < (n : Int)) :
  (Instr.indexAt t (.pointer (some ⟨b, off, none⟩)) (.int k i)).run P w = .ok (.pointer (some ⟨b, off + i.toNat * te.size, none⟩)) w := by
 simp only [Instr.indexAt, Sem.run_bind, asIntOf, Sem.run_pure, Result.andThen_ok, run_underlying hu, Instr.sureAddr];rw [if_pos ⟨h0, h1⟩];simp only [Sem.run_bind, hte.sizeOf, Result.andThen_ok, Sem.run_pure, zol]

theorem zuc {t : TypeId} {x y : Operand} (hc : Ctx P ty) (hH : zah g obj w) (ho : o.op = .indexAddr t x y) (hargs : zk g w args [a.eval x, a.eval y]) (he : zff ty t obj args = some e) (hob : e.ob) : zft P o a w (zaf g obj w nid e) := by
 unfold zff at he;split at he
 ·rename_i id off len k i;obtain ⟨h1, h2⟩ := zcs hargs;simp only [zi, zv] at h1 h2;cases ht : ty t with
  | none => rw [ht] at he; cases he
  | some ti =>
   rw [ht] at he;simp only [Option.bind_some] at he;split at he
   ·rename_i el hk;cases hte : ty el with
    | none => rw [hte] at he; cases he
    | some te =>
     rw [hte] at he;cases hobj : obj id with
     | none => rw [hobj] at he; cases he
     | some ob =>
      rw [hobj] at he;simp only [Option.bind_some] at he;split at he
      ·rename_i hm;cases he;obtain ⟨o1, o2⟩ := hob;obtain ⟨L, hL, hok⟩ := hH.own id ob hobj;rcases h1.2 L hL with ⟨_, _, hl0, _⟩ | ⟨hv, hle, hx⟩
       ·exfalso; rw [hl0] at o2; simp only [Int.natCast_zero] at o2; omega
       ·have hmL : L.m = te.size := by rw [hok.m, hm]
        refine zx (v := .pointer (some ⟨L.blk, off * L.m + i.toNat * te.size, none⟩)) (w' := w) ?_ (zaf.same hH ?_)
        ·simp only [execOp, ho, hx, h2, Sem.run_bind, zmf (zeh (hc.ok t ti ht) hk) (hc.ok el te hte) o1 o2, Result.andThen_ok, Sem.run_pure]
        ·simp only [zi];refine ⟨⟨h1.1.1, rfl⟩, fun M hM => ?_⟩;rw [hL] at hM; cases hM;exact ⟨hv, by rw [hmL, Nat.add_zero, Nat.add_mul]⟩
      ·cases he
   ·cases he
 ·rename_i rows k i;obtain ⟨h1, h2⟩ := zcs hargs;simp only [zi, zv] at h1 h2;cases ht : ty t with
  | none => rw [ht] at he; cases he
  | some ti =>
   rw [ht] at he;simp only [Option.bind_some] at he;split at he
   ·rename_i el hk;cases hte : ty el with
    | none => rw [hte] at he; cases he
    | some te =>
     rw [hte] at he;simp only [Option.bind_some, Option.map_eq_some_iff] at he;obtain ⟨r, hr, rfl⟩ := he;obtain ⟨o1, o2⟩ := hob;obtain ⟨ad, cap, hv, hcap, hmax, hrows⟩ := h1;have hlt : i.toNat < rows.length := (List.getElem?_eq_some_iff.1 hr).1;rcases hrows with rfl | ⟨b, off, m, rfl, hb, hrr⟩
     ·simp at hr
     ·obtain ⟨us, hul, hur, huc⟩ := hrr.get _ _ hr;have hm : m = te.size := by rw [<- hul, hur.length, o2]
      subst hm;refine zx (v := .pointer (some ⟨b, off + i.toNat * te.size, none⟩)) (w' := w) ?_ (zaf.same hH ?_)
      ·simp only [execOp, ho, hv, h2, Sem.run_bind, zmf (zeh (hc.ok t ti ht) hk) (hc.ok el te hte) o1 (show i < (rows.length : Int) by omega), Result.andThen_ok, Sem.run_pure]
      ·simp only [zi, zv];exact ⟨b, _, us, rfl, hb, hur, huc⟩
   ·cases he
 ·rename_i id i0 j k i;obtain ⟨h1, h2⟩ := zcs hargs;simp only [zi, zv] at h1 h2;cases ht : ty t with
  | none => rw [ht] at he; cases he
  | some ti =>
   rw [ht] at he;simp only [Option.bind_some] at he;split at he
   ·rename_i n el hk;cases hte : ty el with
    | none => rw [hte] at he; cases he
    | some te =>
     rw [hte] at he;simp only [Option.bind_some] at he;split at he
     ·cases he
     ·simp only [Option.map_eq_some_iff] at he;obtain ⟨ob, hobj, rfl⟩ := he;obtain ⟨o1, o2⟩ := hob;obtain ⟨L, hL, hok⟩ := hH.own id ob hobj;obtain ⟨hv, hx⟩ := h1.2 L hL;refine zx (v := .pointer (some ⟨L.blk, i0 * L.m + j + i.toNat * te.size, none⟩)) (w' := w) ?_ (zaf.same hH ?_)
      ·simp only [execOp, ho, hx, h2, Sem.run_bind, zqj (zro (hc.ok t ti ht) hk) (hc.ok el te hte) o1 o2, Result.andThen_ok, Sem.run_pure]
      ·simp only [zi];refine ⟨⟨h1.1.1, rfl⟩, fun M hM => ?_⟩;rw [hL] at hM; cases hM;exact ⟨hv, by rw [Nat.add_assoc]⟩
   ·cases he
 ·rename_i cs k i;obtain ⟨h1, h2⟩ := zcs hargs;simp only [zi, zv] at h1 h2;cases ht : ty t with
  | none => rw [ht] at he; cases he
  | some ti =>
   rw [ht] at he;simp only [Option.bind_some] at he;split at he
   ·rename_i n el hk;cases hte : ty el with
    | none => rw [hte] at he; cases he
    | some te =>
     rw [hte] at he;simp only [Option.bind_some] at he;split at he
     ·cases he
     ·cases he;obtain ⟨o1, o2⟩ := hob;obtain ⟨b, off, us, hx, hb, hr, hcell⟩ := h1;refine zx (v := .pointer (some ⟨b, off + i.toNat * te.size, none⟩)) (w' := w) ?_ (zaf.same hH ?_)
      ·simp only [execOp, ho, hx, h2, Sem.run_bind, zqj (zro (hc.ok t ti ht) hk) (hc.ok el te hte) o1 o2, Result.andThen_ok, Sem.run_pure]
      ·simp only [zi, zv];exact ⟨b, _, _, rfl, hb, hr.drop _, hcell.drop _⟩
   ·cases he
 ·cases he

theorem zqi {len cap : Nat} {lo hi : Option Value} {l h : Int} (hlo : (lo = none /\ l = 0) \/ ∃ k, lo = some (.int k l)) (hhi : (hi = none /\ h = len) \/ ∃ k, hi = some (.int k h)) (h0 : 0 <= l) (h1 : l <= h) (h2 : h <= (len : Int)) (hcap : len <= cap) :
  (Instr.sliceBounds true len cap lo hi none).run P w = .ok (l.toNat, h.toNat, cap) w := by
 have b1 : ∀ k, (Instr.sliceBound (.int k h) cap .sliceAcap).run P w = .ok h.toNat w := fun k => by
  simp only [Instr.sliceBound, asIntOf, Sem.run_bind, Sem.run_pure, Result.andThen_ok];rw [if_pos ⟨by omega, by omega⟩];simp
 have b2 : ∀ k, (Instr.sliceBound (.int k l) h.toNat .sliceB).run P w = .ok l.toNat w := fun k => by
  simp only [Instr.sliceBound, asIntOf, Sem.run_bind, Sem.run_pure, Result.andThen_ok];rw [if_pos ⟨h0, by omega⟩];simp
 rcases hlo with ⟨rfl, rfl⟩ | ⟨k, rfl⟩ <;> rcases hhi with ⟨rfl, rfl⟩ | ⟨k', rfl⟩
 ·simp [Instr.sliceBounds]
 ·simp [Instr.sliceBounds, b1]
 ·have b2' := b2 k;simp at b2';simp [Instr.sliceBounds, b2']
 ·simp [Instr.sliceBounds, b1, b2]

theorem sliceArgs_sound {lo hi : Option Operand} {rest : List AV} {b : Option Int × Option Int} (hb : zie lo.isSome hi.isSome rest = some b) (hrest : zk g w rest (lo.toList.map a.eval ++ hi.toList.map a.eval)) (n : Nat) :
  ((lo.map a.eval = none /\ b.1.getD 0 = 0) \/ ∃ k, lo.map a.eval = some (.int k (b.1.getD 0))) /\ ((hi.map a.eval = none /\ b.2.getD n = n) \/ ∃ k, hi.map a.eval = some (.int k (b.2.getD n))) := by
 unfold zie at hb;split at hb
 ·rename_i h1 h2;cases hb;simp only [Option.isSome_eq_false_iff, Option.isNone_iff_eq_none] at h1 h2;subst h1; subst h2;exact ⟨.inl ⟨rfl, rfl⟩, .inl ⟨rfl, rfl⟩⟩
 ·rename_i h1 h2;cases hb;obtain ⟨p, rfl⟩ := Option.isSome_iff_exists.1 h1;simp only [Option.isSome_eq_false_iff, Option.isNone_iff_eq_none] at h2;subst h2;have h := zcr hrest;simp only [zi, zv] at h;exact ⟨.inr ⟨_, by simp [h]; rfl⟩, .inl ⟨rfl, rfl⟩⟩
 ·rename_i h1 h2;cases hb;obtain ⟨p, rfl⟩ := Option.isSome_iff_exists.1 h2;simp only [Option.isSome_eq_false_iff, Option.isNone_iff_eq_none] at h1;subst h1;have h := zcr hrest;simp only [zi, zv] at h;exact ⟨.inl ⟨rfl, rfl⟩, .inr ⟨_, by simp [h]; rfl⟩⟩
 ·rename_i h1 h2;cases hb;obtain ⟨p, rfl⟩ := Option.isSome_iff_exists.1 h1;obtain ⟨q, rfl⟩ := Option.isSome_iff_exists.1 h2;obtain ⟨h, h'⟩ := zcs hrest;simp only [zi, zv] at h h';exact ⟨.inr ⟨_, by simp [h]; rfl⟩, .inr ⟨_, by simp [h']; rfl⟩⟩
 ·cases hb

def frozen (g : G) (id : Nat) : G := ⟨fun b => g.ro b \/ ∃ L, g.loc id = some L /\ L.virt = false /\ b = L.blk, fun x => if x = id then none else g.loc x, g.used⟩

theorem zgh {g : G} {w : World} {id : Nat} : zbt g w (frozen g id) w := ⟨fun b hb => ⟨.inl hb, rfl⟩, fun _ h => h, fun x _ => by simp only [frozen]; split <;> simp⟩

theorem freeze_rel {id : Nat} {L : Loc} (h : zah g obj w) (hL : g.loc id = some L) : zah (frozen g id) (zbj obj id none) w /\ zam g w (frozen g id) w := by
 have hloc : ∀ x M, (frozen g id).loc x = some M -> x ≠ id /\ g.loc x = some M := by
  intro x M hx;simp only [frozen] at hx;split at hx
  ·cases hx
  ·rename_i e; exact ⟨e, hx⟩
 refine ⟨⟨?_, ?_, ?_, ?_, ?_⟩, ⟨rfl, ⟨rfl, .inr (Nat.le_refl _)⟩, rfl, Nat.le_refl _, fun _ _ _ => rfl, ?_, fun _ hb => .inl hb, ?_⟩⟩
 ·intro x o hx;simp only [zbj] at hx;split at hx
  ·cases hx
  ·rename_i e;obtain ⟨M, hM, hok⟩ := h.own x o hx;exact ⟨M, by simp [frozen, e, hM], hok.later zgh fun _ => rfl⟩
 ·intro x hx;simp only [zbj] at hx;split at hx
  ·rename_i e; simp [frozen, e]
  ·rename_i e; simp [frozen, e, h.gone x hx]
 ·intro x M hx;obtain ⟨e, hM⟩ := hloc x M hx;refine ⟨(h.live x M hM).1, fun hv => ⟨((h.live x M hM).2 hv).1, ?_⟩⟩;rintro (hro | ⟨L', hL', hv', hb⟩)
  ·exact ((h.live x M hM).2 hv).2 hro
  ·exact e (h.inj x id M L' hM hL' hv hv' hb)
 ·intro x y M M' hx hy hv hv' hb;exact h.inj x y M M' (hloc x M hx).2 (hloc y M' hy).2 hv hv' hb
 ·rintro b (hro | ⟨L', hL', hv', rfl⟩)
  ·exact h.ro b hro
  ·exact ((h.live id L' hL').2 hv').1
 ·rintro b ⟨x, M, hx, hv, rfl⟩;exact .inr ⟨x, M, (hloc x M hx).2, hv, rfl⟩
 ·rintro b (hro | ⟨L', hL', hv', rfl⟩)
  ·exact .inl hro
  ·exact .inr (.inr ⟨id, L', hL', hv', rfl⟩)

theorem sliceArgs_none {lo hi : Bool} {rest : List AV} {b : Option Int × Option Int} (h : zie lo hi rest = some b) (h1 : b.1.isNone = true) (h2 : b.2.isNone = true) : lo = false /\ hi = false := by
 unfold zie at h;split at h
 ·exact ⟨rfl, rfl⟩
 ·cases h; cases h1
 ·cases h; cases h2
 ·cases h; cases h1
 ·cases h

theorem zmu : ∀ (n m : Nat) (l : List D), (zqc n m l).length = n
 | 0, _, _ => rfl
 | n + 1, m, l => by simp only [zqc, List.length_cons, zmu n m]

theorem chunkD_rep {ro : Nat -> Prop} {b m : Nat} : ∀ (n : Nat) (ds : List D) (us : List Value) (o : Nat), n * m <= ds.length -> zt ro w ds us -> zck w b o us -> zba ro w b m o (zqc n m ds)
 | 0, _, _, _, _, _, _ => by simp [zqc, zba]
 | n + 1, ds, us, o, hl, hr, hc => by
  rw [Nat.succ_mul] at hl;simp only [zqc, zba];refine ⟨⟨us.take m, by rw [List.length_take, hr.length]; omega, hr.take m, hc.take m⟩, ?_⟩;exact chunkD_rep n (ds.drop m) (us.drop m) (o + m) (by simp; omega) (hr.drop m) (hc.drop m)

theorem sliceArr_sound {t el : TypeId} {n : Nat} {te : TI} {x : Operand} (hte : TOk P el te) (hu : P.underlying t = some (.array n el)) (hH : zah g obj w) (ho : o.op = .slice t x none none none) {y : AV}
  {b : Option Int × Option Int} (he : (match y with | .ptr id i j => (obj id).bind fun o => (o.rows[i]?).bind fun row => (allD (row.drop j)).bind fun ds =>
   if b.1.isNone /\ b.2.isNone /\ te.size ≠ 0 /\ n ≠ 0 /\ n <= 65536 /\ n * te.size <= ds.length then some ({ val := .d (.sl (zqc n te.size ds)), wr := [(id, none)] } : Eff) else none | _ => none) = some e) (hy : zi g w y (a.eval x)) : zft P o a w (zaf g obj w nid e) := by
 split at he
 ·rename_i id i j;cases hob : obj id with
  | none => rw [hob] at he; cases he
  | some ob =>
   rw [hob] at he;simp only [Option.bind_some] at he;cases hrow : ob.rows[i]? with
   | none => rw [hrow] at he; cases he
   | some row =>
    rw [hrow] at he;simp only [Option.bind_some] at he;cases had : allD (row.drop j) with
    | none => rw [had] at he; cases he
    | some ds =>
     rw [had] at he;simp only [Option.bind_some] at he;split at he
     ·rename_i hcond;obtain ⟨_, _, hsz, hn0, hn, hlen⟩ := hcond;cases he;obtain ⟨L, hL, hok⟩ := hH.own id ob hob;simp only [zi] at hy;obtain ⟨hv, hx⟩ := hy.2 L hL;obtain ⟨us, hul, hur, huc⟩ := hok.row hv hrow;obtain ⟨h1, h2⟩ := freeze_rel (id := id) hH hL;have hds := zk.allD had (hur.drop j);have hrun : (execOp a.eval o).run P w = .ok (.value (.slice (some ⟨L.blk, i * L.m + j, none⟩) n n)) w := by
       have hb : (Instr.sliceBounds false n n none none none).run P w = .ok (0, n, n) w := by simp [Instr.sliceBounds]
       simp only [execOp, ho, hx, Sem.run_bind, Instr.sliceAt, run_underlying hu, Result.andThen_ok, Instr.sureAddr, Sem.run_pure, Option.map_none, hb, hte.sizeOf];rw [if_neg hn0];simp [zol]
      refine zx hrun ⟨frozen g id, by simpa [zcm] using h1, h2, zgh, fun k hk => .inl hk, ?_⟩;simp only [zi, zv];refine ⟨_, n, by rw [zmu], by rw [zmu]; exact Nat.le_refl _, by simp only [maxLen]; omega, .inr ⟨L.blk, i * L.m + j, te.size, rfl, .inr ⟨L, hL, hv.1, rfl⟩, ?_⟩⟩;exact chunkD_rep n ds (us.drop j) _ hlen (zt.mono (fun b hb => ⟨.inl hb, rfl⟩) _ _ hds) (huc.drop j)
     ·cases he
 ·cases he

theorem slice_op_sound {t : TypeId} {x : Operand} {lo hi : Option Operand} (hc : Ctx P ty) (hH : zah g obj w) (ho : o.op = .slice t x lo hi none) (hargs : zk g w args (a.eval x :: (lo.toList.map a.eval ++ hi.toList.map a.eval)))
  (he : znz ty t obj lo.isSome hi.isSome args = some e) (hob : e.ob) : zft P o a w (zaf g obj w nid e) := by
 cases args with
 | nil => simp [znz] at he
 | cons y rest =>
  simp only [zk] at hargs;obtain ⟨v, vs, heq, hy, hrest⟩ := hargs;simp only [List.cons.injEq] at heq;obtain ⟨rfl, rfl⟩ := heq;simp only [znz] at he;cases hb : zie lo.isSome hi.isSome rest with
  | none => rw [hb] at he; cases he
  | some b =>
   rw [hb] at he;have hbs := fun n => sliceArgs_sound (a := a) hb hrest n;cases ht : ty t with
   | none => rw [ht] at he; cases he
   | some ti =>
    rw [ht] at he;simp only [Option.bind_some] at he;split at he
    ·rename_i el hk;cases hte : ty el with
     | none => rw [hte] at he; cases he
     | some te =>
      rw [hte] at he;simp only [Option.bind_some] at he;have hu := zeh (hc.ok t ti ht) hk;have go : ∀ (ad : Option Addr) (len cap : Nat), a.eval x = .slice ad len cap -> len <= cap -> 0 <= b.1.getD 0 -> b.1.getD 0 <= b.2.getD len -> b.2.getD len <= len ->
        (execOp a.eval o).run P w = .ok (.value (.slice (if cap = (b.1.getD 0).toNat then ad else ad.map (·.add ((b.1.getD 0).toNat * te.size))) ((b.2.getD len).toNat - (b.1.getD 0).toNat) (cap - (b.1.getD 0).toNat))) w := by
       intro ad len cap hx hcap h0 h1 h2;obtain ⟨q1, q2⟩ := hbs len;simp only [execOp, ho, hx, Sem.run_bind, Instr.sliceAt, run_underlying hu, Result.andThen_ok, Instr.slice, zqi q1 q2 h0 h1 h2 hcap, (hc.ok el te hte).sizeOf, Sem.run_pure, Option.map_none]
      split at he
      ·rename_i rows;cases he;obtain ⟨o1, o2, o3, o4⟩ := hob;simp only [zi, zv] at hy;obtain ⟨ad, cap, hv, hcap, hmax, hrows⟩ := hy;refine zx (go ad rows.length cap hv hcap o1 o2 o3) (zaf.same hH ?_);simp only [zi, zv];have hlen : ((rows.take (b.2.getD rows.length).toNat).drop (b.1.getD 0).toNat).length = (b.2.getD rows.length).toNat - (b.1.getD 0).toNat := by
        rw [List.length_drop, List.length_take, Nat.min_eq_left (by omega)]
       refine ⟨_, _, by rw [hlen], by rw [hlen]; omega, by omega, ?_⟩;by_cases hz : ((rows.take (b.2.getD rows.length).toNat).drop (b.1.getD 0).toNat) = []
       ·exact .inl hz
       ·right
        have hne : ¬ cap = (b.1.getD 0).toNat := by
         intro hcc;apply hz
         apply List.eq_nil_of_length_eq_zero
         rw [hlen]; omega
        rcases hrows with rfl | ⟨bk, off, m, rfl, hro, hrr⟩
        ·simp at hz
        ·have hm : m = te.size := by
          cases rows with
          | nil => simp at hz
          | cons r rs =>
           obtain ⟨us, hul, hur, _⟩ := hrr.get 0 r rfl;rw [<- hul, hur.length];exact o4 r List.mem_cons_self
         subst hm;refine ⟨bk, off + (b.1.getD 0).toNat * te.size, te.size, by rw [if_neg hne]; simp [zol], hro, ?_⟩;exact (hrr.take _).drop _
      ·rename_i id off len;cases hobj : obj id with
       | none => rw [hobj] at he; cases he
       | some ob =>
        rw [hobj] at he;simp only [Option.bind_some] at he;split at he
        ·rename_i hm;cases he;obtain ⟨o1, o2, o3⟩ := hob;simp only [zi] at hy;obtain ⟨L, hL, hok⟩ := hH.own id ob hobj;have hmL : L.m = te.size := by rw [hok.m, hm]
         rcases hy.2 L hL with ⟨hv, rfl, rfl, a0, hx⟩ | ⟨hv, hle, hx⟩
         ·have hl0 : (b.1.getD 0).toNat = 0 := by
           have h3 : b.2.getD (0 : Nat) <= 0 := o3;have h4 : b.1.getD 0 <= b.2.getD (0 : Nat) := o2;omega
          have hh0 : (b.2.getD ((0 : Nat) : Int)).toNat = 0 := by
           have h3 : b.2.getD ((0 : Nat) : Int) <= 0 := o3;omega
          have hrun := go a0 0 0 hx (Nat.le_refl _) o1 o2 o3;rw [hl0, hh0] at hrun;refine zx hrun (zaf.same hH ?_);rw [hl0, hh0, if_pos (.inl (by omega))];simp only [zi];refine ⟨⟨hy.1.1, rfl⟩, fun M hM => ?_⟩;rw [hL] at hM; cases hM;exact .inl ⟨hv, by trivial, by simp, a0, by simp⟩
         ·refine zx (go _ len _ hx (by omega) o1 o2 o3) (zaf.same hH ?_);by_cases o4 : b.1.getD 0 = 0 \/ b.1.getD 0 < (len : Int)
          rotate_left
          ·rw [if_neg o4];obtain ⟨cur, _, _, hcapm, _⟩ := hok.cells hv;simp only [zi, zv];refine ⟨_, _, by rw [show (b.2.getD (len : Int)).toNat - (b.1.getD 0).toNat = ([] : List (List D)).length by simp; omega], by simp, by omega, .inl trivial⟩
          rw [if_pos o4];simp only [zi];refine ⟨⟨hy.1.1, rfl⟩, fun M hM => ?_⟩;rw [hL] at hM; cases hM;refine .inr ⟨hv, by omega, ?_⟩;have hadd : (if L.cap - off = (b.1.getD 0).toNat then some (⟨L.blk, off * L.m, none⟩ : Addr) else (some (⟨L.blk, off * L.m, none⟩ : Addr)).map (·.add ((b.1.getD 0).toNat * te.size))) = some ⟨L.blk, (off + (b.1.getD 0).toNat) * L.m, none⟩ := by
           rcases o4 with o4 | o4
           ·rw [o4]; simp [Addr.add]
           ·rw [if_neg (by omega)];simp only [Option.map_some, zol, hmL, Nat.add_mul]
          rw [hadd]
          congr 1
          omega
        ·cases he
      ·cases he
    ·rename_i n el hk;unfold zjp at he;cases hte : ty el with
     | none =>
      rw [hte] at he;split at he <;> cases he
     | some te =>
      rw [hte] at he;simp only [Option.bind_some] at he;have hlo : lo = none /\ hi = none := by
       have hbb : b.1.isNone /\ b.2.isNone := by
        split at he
        ·simp only [Option.bind_eq_some_iff] at he;obtain ⟨_, _, _, _, _, _, he⟩ := he;split at he
         ·rename_i hc; exact ⟨hc.1, hc.2.1⟩
         ·cases he
        ·cases he
       obtain ⟨q1, q2⟩ := sliceArgs_none hb hbb.1 hbb.2;have none_of : ∀ {z : Option Operand}, z.isSome = false -> z = none := fun {z} h => by cases z with
        | none => rfl
        | some _ => cases h
       exact ⟨none_of q1, none_of q2⟩
      obtain ⟨rfl, rfl⟩ := hlo;exact sliceArr_sound (b := b) (hc.ok el te hte) (zro (hc.ok t ti ht) hk) hH ho he hy
    ·cases he

theorem builtin_op_sound {c : Call} {b : Builtin} (hc : Ctx P ty) (hH : zah g obj w) (hid : ¬ g.used nid) (ho : o.op = .call c) (hcb : c.callee = .builtin b) (hargs : zk g w args (c.args.toList.map a.eval))
  (he : zgy ty b c.argTypes.toList obj nid args = some e) (hob : e.ob) : zft P o a w (zaf g obj w nid e) := by
 have hexec : ∀ (s : Sem Value) (v : Value) (w' : World), (∀ t cs, builtin b c.argTypes t cs (c.args.map a.eval) = do pure (.value (<- s))) -> s.run P w = .ok v w' -> (execOp a.eval o).run P w = .ok (.value v) w' := by
  intro s v w' hs hrun;simp only [execOp, ho, resolve, hcb, pure_bind, invoke, hs, Sem.run_bind, hrun, Result.andThen_ok, Sem.run_pure]
 have hcargs : c.args.map a.eval = (c.args.toList.map a.eval).toArray := by apply Array.ext'; simp
 unfold zgy at he;split at he
 ·rename_i t x hat;have hat' : c.argTypes = #[t] := by apply Array.ext'; simpa using hat
  have hlen := hargs.length;obtain ⟨v, hv⟩ : ∃ v, c.args.toList.map a.eval = [v] := by
   match h : c.args.toList.map a.eval, hlen with
   | [v], _ => exact ⟨v, rfl⟩
  rw [hv] at hargs;have h := zcr hargs;cases ht : ty t with
  | none => rw [ht] at he; cases he
  | some ti =>
   rw [ht] at he;simp only [Option.bind_some] at he;have go : ∀ (n : Int), (Builtin.len_ #[t] 0 #[v]).run P w = .ok (.int .i64 n) w -> (∀ ty', Builtin.len_ #[t] ty' #[v] = Builtin.len_ #[t] 0 #[v]) -> zft P o a w (zaf g obj w nid { val := .d (.int .i64 n) }) := by
    intro n hrun hty;refine zx (hexec (Builtin.len_ #[t] 0 #[v]) _ w ?_ hrun) (zaf.same hH (by simp only [zi, zv]));intro t' cs;simp only [builtin, hat', hcargs, hv];rw [hty]
   unfold lenA at he;split at he
   ·rename_i el hk;cases he;simp only [zi] at h;subst h;exact go 0 (by simp [Builtin.len_, run_underlying (zeh (hc.ok t ti ht) hk), goInt]) (fun _ => rfl)
   ·rename_i el rows hk;cases he;simp only [zi, zv] at h;obtain ⟨ad, cap, rfl, _⟩ := h;exact go _ (by simp [Builtin.len_, run_underlying (zeh (hc.ok t ti ht) hk), goInt]) (fun _ => rfl)
   ·rename_i el id off n hk;simp only [Option.map_eq_some_iff] at he;obtain ⟨ob, hobj, rfl⟩ := he;obtain ⟨L, hL, hok⟩ := hH.own id ob hobj;simp only [zi] at h;rcases h.2 L hL with ⟨_, _, rfl, a0, rfl⟩ | ⟨_, _, rfl⟩
    ·exact go _ (by simp [Builtin.len_, run_underlying (zeh (hc.ok t ti ht) hk), goInt]) (fun _ => rfl)
    ·exact go _ (by simp [Builtin.len_, run_underlying (zeh (hc.ok t ti ht) hk), goInt]) (fun _ => rfl)
   ·rename_i str hk;cases he;simp only [zi, zv] at h;subst h;have hu : P.underlying t = some .string := by have := (hc.ok t ti ht).kind; rw [hk] at this; exact this
    exact go _ (by simp [Builtin.len_, run_underlying hu, goInt]) (fun _ => rfl)
   ·rename_i n el hk;cases he;exact go _ (by simp [Builtin.len_, run_underlying (zro (hc.ok t ti ht) hk), goInt]) (fun _ => rfl)
   ·cases he
 ·rename_i t t' s x hat;split at he
  ·rename_i htt;subst htt;have hat' : c.argTypes = #[t, t] := by apply Array.ext'; simpa using hat
   have hlen := hargs.length;obtain ⟨v, u, hv⟩ : ∃ v u, c.args.toList.map a.eval = [v, u] := by
    match h : c.args.toList.map a.eval, hlen with
    | [v, u], _ => exact ⟨v, u, rfl⟩
   rw [hv] at hargs;obtain ⟨h1, h2⟩ := zcs hargs;cases ht : ty t with
   | none => rw [ht] at he; cases he
   | some ti =>
    rw [ht] at he;simp only [Option.bind_some] at he;split at he
    ·rename_i el hk;cases hte : ty el with
     | none => rw [hte] at he; cases he
     | some te =>
      rw [hte] at he;simp only [Option.bind_some] at he;split at he
      ·cases he
      ·rename_i hpos;cases hd : zed obj el te.size s with
       | none => rw [hd] at he; cases he
       | some d =>
        cases hs : zcx obj te.size x with
        | none => rw [hd, hs] at he; cases he
        | some r =>
         rw [hd, hs] at he;simp only [Option.bind_some, Option.map_some, Option.some.injEq] at he;subst he;obtain ⟨o1, o2, o3⟩ := hob;obtain ⟨d1, d2, d3⟩ := d;obtain ⟨r1, r2⟩ := r;obtain ⟨v', w', hrun, hA⟩ := zww (ty := 0) (hc.ok t ti ht) hk (hc.ok el te hte) (by omega) (by omega) hH hid h1 h2 hd o1 hs o2 o3;refine zx (hexec (Builtin.append_ #[t, t] 0 #[v, u]) v' w' ?_ hrun) hA;intro t' cs;simp only [builtin, hat', hcargs, hv];rfl
    ·cases he
  ·cases he
 ·rename_i t t' id len x hat;split at he
  ·rename_i htt;subst htt;have hat' : c.argTypes = #[t, t] := by apply Array.ext'; simpa using hat
   have hlen := hargs.length;obtain ⟨v, u, hv⟩ : ∃ v u, c.args.toList.map a.eval = [v, u] := by
    match h : c.args.toList.map a.eval, hlen with
    | [v, u], _ => exact ⟨v, u, rfl⟩
   rw [hv] at hargs;obtain ⟨h1, h2⟩ := zcs hargs;cases ht : ty t with
   | none => rw [ht] at he; cases he
   | some ti =>
    rw [ht] at he;simp only [Option.bind_some] at he;split at he
    ·rename_i el hk;cases hte : ty el with
     | none => rw [hte] at he; cases he
     | some te =>
      rw [hte] at he;simp only [Option.bind_some] at he;cases hobj : obj id with
      | none => rw [hobj] at he; cases he
      | some ob =>
       rw [hobj] at he;simp only [Option.bind_some] at he;cases hs : zcx obj te.size x with
       | none => rw [hs] at he; cases he
       | some r =>
        rw [hs] at he;simp only [Option.bind_some] at he;split at he
        ·rename_i hm;cases he;obtain ⟨o1, o2, o3⟩ := hob;obtain ⟨w', g', hrun, hH', hS, hL, hu⟩ := copy_sound (ty := 0) (zeh (hc.ok t ti ht) hk) (hc.ok el te hte) hH hobj hm h1 h2 hs o1 o2 o3;refine zx (hexec (Builtin.copy_ #[t, t] 0 #[v, u]) _ w' ?_ hrun) ⟨g', by simpa [zcm] using hH', hS, hL, fun k hk => .inl (hu k hk), by simp [zi, zv]⟩;intro t' cs;simp only [builtin, hat', hcargs, hv];rfl
        ·cases he
    ·cases he
  ·cases he
 ·rename_i args t t2 hat;have hat' : c.argTypes = #[t, t2] := by apply Array.ext'; simpa using hat
  have hlen := hargs.length;obtain ⟨v, u, hv⟩ : ∃ v u, c.args.toList.map a.eval = [v, u] := by
   have h2 : ∀ l : List AV, zir ty t obj l = some e -> l.length = 2 := by
    intro l hl;unfold zir at hl;split at hl
    ·rfl
    ·cases hl
   match h : c.args.toList.map a.eval, hlen.trans (h2 _ he) with
   | [v, u], _ => exact ⟨v, u, rfl⟩
  rw [hv] at hargs;obtain ⟨w', hrun, haft⟩ := delete_op_sound (nid := nid) (kt' := t2) hc hH hargs he hob;refine zx (hexec (Builtin.delete_ #[t, t2] 0 #[v, u]) _ w' ?_ hrun) haft;intro t' cs;simp only [builtin, hat', hcargs, hv];rfl
 ·rename_i ats k m k' n;split at he
  ·rename_i hk;subst hk;cases he;have hlen := hargs.length;obtain ⟨v, u, hv⟩ : ∃ v u, c.args.toList.map a.eval = [v, u] := by
    match h : c.args.toList.map a.eval, hlen with
    | [v, u], _ => exact ⟨v, u, rfl⟩
   rw [hv] at hargs;obtain ⟨h1, h2⟩ := zcs hargs;simp only [zi, zv] at h1 h2;subst h1; subst h2;refine zx (hexec (Builtin.min_ #[] 0 #[.int k m, .int k n]) (.int k (min m n)) w ?_ ?_) (zaf.same hH (by simp only [zi, zv]))
   ·intro t' cs;simp only [builtin, hcargs, hv];rfl
   ·simp only [Builtin.min_, List.foldlM_cons, List.foldlM_nil, Builtin.min2, Sem.run_bind, Sem.run_pure, Result.andThen_ok]
    congr 2
    omega
  ·cases he
 ·rename_i ats k m k' n;split at he
  ·rename_i hk;subst hk;cases he;have hlen := hargs.length;obtain ⟨v, u, hv⟩ : ∃ v u, c.args.toList.map a.eval = [v, u] := by
    match h : c.args.toList.map a.eval, hlen with
    | [v, u], _ => exact ⟨v, u, rfl⟩
   rw [hv] at hargs;obtain ⟨h1, h2⟩ := zcs hargs;simp only [zi, zv] at h1 h2;subst h1; subst h2;refine zx (hexec (Builtin.max_ #[] 0 #[.int k m, .int k n]) (.int k (max m n)) w ?_ ?_) (zaf.same hH (by simp only [zi, zv]))
   ·intro t' cs;simp only [builtin, hcargs, hv];rfl
   ·simp only [Builtin.max_, List.foldlM_cons, List.foldlM_nil, Builtin.max2, Sem.run_bind, Sem.run_pure, Result.andThen_ok]
    congr 2
    omega
  ·cases he
 ·cases he

theorem zis {orc : Option Res} (hc : Ctx P ty) (hH : zah g obj w) (hid : ¬ g.used nid) (hargs : zk g w args (o.op.operands.toList.map a.eval)) (he : zgi ty P orc o.op obj nid args = some e) (hob : e.ob) : zft P o a w (zaf g obj w nid e) := by
 cases hop : o.op <;> rw [hop] at he hargs <;> simp only [zgi, reduceCtorEq] at he
 case move x => exact move_sound hH (.inl hop) (by simpa [Op.operands] using hargs) he
 case assign x => exact move_sound hH (.inr hop) (by simpa [Op.operands] using hargs) he
 case pick c x y => exact pick_sound hH hop (by simpa [Op.operands] using hargs) he hob
 case alloc t => exact alloc_op_sound hc hH hid hop he
 case box t x => exact box_op_sound hH hid hop (by simpa [Op.operands] using hargs) he
 case build t ps => exact build_op_sound hc hH hop (by simpa [Op.operands] using hargs) he
 case buildSlice t len ps => exact zth hc hH hid hop (by simpa [Op.operands] using hargs) he
 case nilCheck x => exact zvp hH hop (by simpa [Op.operands] using hargs) he
 case load t x => exact ztp hc hH hop (by simpa [Op.operands] using hargs) he
 case store t x y => exact store_op_sound hc hH hop (by simpa [Op.operands] using hargs) he
 case binOp op t x y yt => exact bin_sound hc hH hop (by simpa [Op.operands] using hargs) he hob
 case unOp op t x => exact un_sound hH hop (by simpa [Op.operands] using hargs) he
 case convert src dst x => exact convert_sound hc hH hop (by simpa [Op.operands] using hargs) he
 case makeFunc fn first caps => exact zvq hH hop (by simpa [Op.operands] using hargs) he
 case makeSlice t x y => exact zub hc hH hid hop (by simpa [Op.operands] using hargs) he hob
 case slice t x lo hi mx =>
  cases mx with
  | some m => simp at he
  | none => exact slice_op_sound hc hH hop (by cases lo <;> cases hi <;> simpa [Op.operands] using hargs) (by simpa using he) hob
 case fieldAddr t x f => exact zuk hc hH hop (by simpa [Op.operands] using hargs) he
 case field t x f => exact field_op_sound hc hH hop (by simpa [Op.operands] using hargs) he
 case indexAddr t x y => exact zuc hc hH hop (by simpa [Op.operands] using hargs) he hob
 case index t x y => exact index_op_sound hc hH hop (by simpa [Op.operands] using hargs) he hob
 case makeMap t r =>
  cases r with
  | some x => simp at he
  | none => exact makeMap_op_sound hH hid hop (by simpa [Op.operands] using hargs) (by simpa using he)
 case lookup t m x ok => exact lookup_op_sound hc hH hop (by simpa [Op.operands] using hargs) he hob
 case mapUpdate t m x y => exact zua hc hH hop (by simpa [Op.operands] using hargs) he hob
 case extract x ix => exact extract_op_sound hH hop (by simpa [Op.operands] using hargs) he
 case call c =>
  cases hcc : c.callee with
  | builtin b =>
   obtain ⟨callee, cargs, ats⟩ := c;simp only at hcc;subst hcc;exact builtin_op_sound (c := ⟨.builtin b, cargs, ats⟩) hc hH hid hop rfl (by simpa [Op.operands, Call.operands] using hargs) he hob
  | value f =>
   obtain ⟨callee, cargs, ats⟩ := c;simp only at hcc;subst hcc;exact call_sound (c := ⟨.value f, cargs, ats⟩) hH hid hop rfl (by simpa [Op.operands, Call.operands] using hargs) he hob
  | invoke r m =>
   obtain ⟨callee, cargs, ats⟩ := c;simp only at hcc;subst hcc;simp [eff] at he

theorem frz_sound {e0 e1 : Eff} {d : D} {v : Value} {w' : World} (hH : zah g obj w) (hid : ¬ g.used nid) (he : frzE nid d e0 = some e1) (hob : e1.ob) (h : e0.ob -> zaf g obj w nid e0 v w') : zaf g obj w nid e1 v w' := by
 unfold frzE at he;split at he
 ·rename_i id len k o hval hwr;split at he
  ·rename_i hk;obtain ⟨hk1, hk2⟩ := hk;cases he;obtain ⟨hob0, hd⟩ := hob;split at hd
   ·rename_i R hR;obtain ⟨hd1, hd2⟩ := hd;obtain ⟨g', a1, a2, a3, a4, a5⟩ := h hob0;rw [hwr, hk2] at a1;rw [hval, hk1] at a5;have hon : obj nid = none := by
     cases ho : obj nid with
     | none => rfl
     | some o' =>
      obtain ⟨L, hL, _⟩ := hH.own nid o' ho;exact absurd (hH.live nid L hL).1 hid
    obtain ⟨L, hL, hok⟩ := a1.own nid o (by simp [zcm, zbj]);obtain ⟨f1, f2⟩ := freeze_rel a1 hL;have hup : zcm obj [] = zbj (zcm obj [(nid, some o)]) nid none := by
     funext x
     by_cases e : x = nid
     ·subst e; simp [zcm, zbj, hon]
     ·simp [zcm, zbj, e]
    refine ⟨frozen g' nid, by rw [hup]; exact f1, a2.trans f2, ⟨fun b hb => ⟨.inl (a3.fut b hb).1, (a3.fut b hb).2⟩, fun i hi => a3.used i hi, fun i hi => ?_⟩, a4, ?_⟩
    ·simp only [frozen];split
     ·exact .inr rfl
     ·exact a3.loc i hi
    ·simp only [zi] at a5 ⊢;rw [hd1];have hrl := zhn hR;rcases a5.2 L hL with ⟨hv, _, hl0, a0, hvn⟩ | ⟨hv, hlc, hvs⟩
     ·rw [hl0, hvn]; simpa using zfw
     ·rw [hvs];have hlen : (R.take len).length = len := by simp; omega
      obtain ⟨_, _, _, hcapm, _⟩ := hok.cells hv;simp only [zv];refine ⟨some ⟨L.blk, 0 * L.m, none⟩, L.cap - 0, by rw [hlen], by rw [hlen]; omega, by omega, ?_⟩;refine .inr ⟨L.blk, 0 * L.m, L.m, rfl, .inr ⟨L, hL, hv.1, rfl⟩, zba.of_get fun i r hi => ?_⟩;rw [List.getElem?_take] at hi;split at hi
      ·obtain ⟨row, hrow, ha⟩ := zhe hR _ r hi;obtain ⟨us, hul, hur, huc⟩ := hok.row hv hrow;refine ⟨us, hul, zt.mono (fun b hb => ⟨.inl hb, rfl⟩) r us (zk.allD ha hur), ?_⟩;rw [Nat.zero_mul, Nat.zero_add];exact huc
      ·cases hi
   ·exact hd.elim
  ·cases he
 ·cases he

theorem ext_sound {r : Res} (hH : zah g obj w) (hid : ¬ g.used nid) (hargs : zk g w args (o.op.operands.toList.map a.eval)) (he : effExt P o.op r nid args = some e) (hob : e.ob) : zft P o a w (zaf g obj w nid e) := by
 unfold effExt at he;cases hds : allS args with
 | none => rw [hds] at he; cases he
 | some ds =>
  rw [hds] at he;cases he;have hr : zt g.ro w ds (o.op.operands.toList.map a.eval) := by
   rw [allS_eq hds] at hargs;exact zk.to_ds hargs
  obtain ⟨v, w', h1, h2, h3⟩ := hob o a g.ro w rfl hH.ro hr;exact zx h1 (res_sound hH hid h2 (.inl fun _ hb => hb) h3)

theorem eff_sound {orc : Option Res} (hc : Ctx P ty) (hH : zah g obj w) (hid : ¬ g.used nid) (hargs : zk g w args (o.op.operands.toList.map a.eval)) (he : eff ty P orc o.op obj nid args = some e) (hob : e.ob) : zft P o a w (zaf g obj w nid e) := by
 unfold eff at he;split at he
 ·cases he
 ·rename_i b;simp only [Option.bind_eq_some_iff] at he;obtain ⟨e0, h0, he⟩ := he;unfold fixU at he;split at he
  ·rename_i p q hval;cases he;obtain ⟨hob0, hb⟩ := hob;intro K Q hK;refine zis hc hH hid hargs h0 hob0 K Q fun v w' ⟨g', a1, a2, a3, a4, a5⟩ => hK v w' ⟨g', a1, a2, a3, a4, ?_⟩;rw [hval] at a5;simp only [zi, zv] at a5 ⊢;obtain ⟨c, hc1, hc2, hc3⟩ := a5;rw [hc1];cases b <;> cases c <;> simp_all
  ·cases he
 ·rename_i d;have fin : ∀ {e0 : Eff}, zgi ty P none o.op obj nid args = some e0 -> frzE nid d e0 = some e -> zft P o a w (zaf g obj w nid e) := fun {e0} h0 he => by
   intro K Q hK;have hob0 : e0.ob := by
    unfold frzE at he;split at he
    ·split at he
     ·cases he; exact hob.1
     ·cases he
    ·cases he
   exact zis hc hH hid hargs h0 hob0 K Q fun v w' ha => hK v w' (frz_sound hH hid he hob fun _ => ha)
  split at he
  ·rename_i heq;simp only [Option.bind_eq_some_iff] at he;obtain ⟨e0, h0, he⟩ := he;exact fin h0 he
  ·rename_i heq;simp only [Option.bind_eq_some_iff] at he;obtain ⟨e0, h0, he⟩ := he;exact fin h0 he
  ·exact zis hc hH hid hargs he hob
 ·cases hp : zho o.op <;> rw [hp] at he
  ·exact zis hc hH hid hargs he hob
  ·exact ext_sound hH hid hargs he hob
 ·cases hp : zho o.op <;> rw [hp] at he
  ·exact zis hc hH hid hargs he hob
  ·exact ext_sound hH hid hargs he hob
 ·exact zis hc hH hid hargs he hob

end
end Go.Abs

namespace Go.Abs
variable [Flag]
open Go.RowKit

structure St where
 n : Nat
 tm : List (Nat × AV)
 hp : List (Nat × Option Ob)
 nxt : Nat

def St.get (s : St) (t : Nat) : AV := (find s.tm t).getD .any
def St.obj (s : St) (id : Nat) : Option Ob := (find s.hp id).getD none

def zdi (hp : List (Nat × Option Ob)) : List (Nat × Option Ob) -> List (Nat × Option Ob)
 | [] => hp
 | x :: r => zdi (x :: hp) r

def St.put (s : St) (dst : Option Tmp) (v : AV) : St := match dst with | some d => { s with tm := (d, v) :: s.tm } | none => s
def St.app (s : St) (dst : Option Tmp) (e : Eff) : St := { s.put dst e.val with hp := zdi s.hp e.wr }

theorem zpq : ∀ (wr hp : List (Nat × Option Ob)) (id : Nat), (find (zdi hp wr) id).getD none = zcm (fun x => (find hp x).getD none) wr id
 | [], hp, id => rfl
 | (i, o) :: r, hp, id => by
  simp only [zdi, zcm];rw [zpq r]
  congr 1
  funext x
  simp only [find, zbj];by_cases e : i = x
  ·subst e; simp
  ·simp [e, Ne.symm e]

def cav : Value -> AV
 | .agg cs => if cs.toList.all Value.oneCell' then mkAgg (cs.toList.map zav) else .any
 | .nilFunc => .any
 | v => zav v

theorem cav_rep (g : G) (w : World) (v : Value) : zi g w (cav v) v := by
 unfold cav;split
 ·rename_i cs;split
  ·rename_i h;have := zi.mkAgg (g := g) (w := w) (vs := cs.toList) (fun v hv => List.all_eq_true.1 h v hv) (zk.of_get (ds := cs.toList.map zav) (by simp) fun j d hj => by
    rw [List.getElem?_map] at hj;cases hv : cs.toList[j]? with
    | none => rw [hv] at hj; cases hj
    | some v => rw [hv] at hj; cases hj; exact ⟨v, rfl, zav_rep g w v⟩)
   simpa using this
  ·simp [zi]
 ·simp [zi]
 ·exact zav_rep g w _

def St.eval (s : St) : Operand -> AV
 | .tmp t => s.get t
 | .const v => cav v
 | .global _ => .any
 | .func f => .d (.fn (.func f) [])

theorem zec {U : Nat -> Prop} {g : G} {get : Nat -> AV} {obj : Nat -> Option Ob} {n : Nat} {a : Act} {w : World} (h : Rel U g get obj n a w) {s : St} (hs : ∀ t, s.get t = get t) (x : Operand) : zi g w (s.eval x) (a.eval x) := by
 cases x with
 | tmp t => simp only [St.eval, hs]; exact h.tmp t
 | const v => exact cav_rep g w v
 | global i => simp [St.eval, zi]
 | func f => simp only [St.eval, zi, zv, Act.eval]; exact ⟨[], rfl, by simp [zt]⟩

def zcn (s : St) (g : G) (a : Act) (w : World) : Prop := Rel (· < s.nxt) g s.get s.obj s.n a w

def zhj (get : Nat -> AV) (dst : Option Tmp) (v : AV) : Nat -> AV := fun t => if dst = some t then v else get t

theorem St.get_put (s : St) (dst : Option Tmp) (v : AV) (t : Nat) : (s.put dst v).get t = zhj s.get dst v t := by
 unfold St.put zhj;cases dst with
 | none => simp
 | some d =>
  simp only [St.get, find, Option.some.injEq];by_cases e : d = t <;> simp [e]

theorem zcb {U U' : Nat -> Prop} {g g' : G} {get : Nat -> AV} {obj obj' : Nat -> Option Ob} {n : Nat} {a : Act} {w w' : World} {dst : Option Tmp} {v : AV} {u : Value} (h : Rel U g get obj n a w) (hH : zah g' obj' w') (hl : zbt g w g' w') (hu : ∀ k, g'.used k -> U' k) (hv : zi g' w' v u)
  (hd : ∀ d, dst = some d -> d < n) : Rel U' g' (zhj get dst v) obj' n (a.put dst u) w' where
 defers := by cases dst <;> exact h.defers
 size := by cases dst <;> simp [Act.put, h.size]
 tmp t := by
  cases dst with
  | none => simp only [zhj, Act.put, reduceCtorEq, if_false]; exact zi.later hl _ _ (h.tmp t)
  | some d =>
   simp only [zhj, Act.put, Option.some.injEq];by_cases e : d = t
   ·subst e;have : d < a.tmps.size := by rw [h.size]; exact hd d rfl
    simp [this];exact hv
   ·rw [if_neg e];have : (a.tmps.setIfInBounds d u).getD t undef = a.tmps.getD t undef := by simp [Array.getElem?_setIfInBounds_ne e]
    rw [this];exact zi.later hl _ _ (h.tmp t)
 used := hu
 heap := hH

theorem zge {P : Program} {ty : TypeId -> Option TI} (hc : Ctx P ty) {U : Nat -> Prop} {g : G} {get : Nat -> AV} {obj : Nat -> Option Ob} {n nid : Nat} {a : Act} {w : World} {o : Oper} {e : Eff} {orc : Option Res} {args : List AV} (h : Rel U g get obj n a w) (hid : ¬ U nid)
  (hargs : zk g w args (o.op.operands.toList.map a.eval)) (he : eff ty P orc o.op obj nid args = some e) (hob : e.ob) (hd : ∀ d, o.dst = some d -> d < n) {K : Act -> World -> Prop} {Q : Exit -> Act -> World -> Prop}
  (hK : ∀ g' a' w', Rel (fun k => U k \/ k = nid) g' (zhj get o.dst e.val) (zcm obj e.wr) n a' w' -> zam g w g' w' -> K a' w') : o.wp P a w K Q := by
 refine eff_sound hc h.heap (fun hu => hid (h.used _ hu)) hargs he hob K Q fun v w' hA => ?_;obtain ⟨g', h1, h2, h3, h4, h5⟩ := hA;exact hK g' _ w' (zcb h h1 h3 (fun k hk => (h4 k hk).imp (h.used k) fun x => x) h5 hd) h2

def St.guard (s : St) (gs : List (Option Tmp)) (j : Nat) (want : Bool) : Option Bool :=
 match gs[j]? with
 | some (some t) => match s.get t with
  | .d (.bool b) => some (b == want)
  | .opt g (.d (.bool b)) => some (g && (b == want))
  | _ => none
 | _ => none

def zbh : List AV -> Prop
 | [] => True
 | .opt g _ :: r => g = true /\ zbh r
 | _ :: r => zbh r

def zbp (op : Op) (l : List AV) : List AV := match op, l with
 | .pick _ _ _, c :: r => zcw c :: r
 | _, l => l.map zcw
def zar (op : Op) (l : List AV) : Prop := match op, l with
 | .pick _ _ _, c :: _ => zbh [c]
 | _, l => zbh l

theorem sg_move {x} {l : List AV} : zbp (.move x) l = l.map zcw := rfl
theorem so_move {x} {l : List AV} : zar (.move x) l = zbh l := rfl
theorem sg_assign {x} {l : List AV} : zbp (.assign x) l = l.map zcw := rfl
theorem so_assign {x} {l : List AV} : zar (.assign x) l = zbh l := rfl
theorem sg_alloc {x} {l : List AV} : zbp (.alloc x) l = l.map zcw := rfl
theorem so_alloc {x} {l : List AV} : zar (.alloc x) l = zbh l := rfl
theorem sg_box {x y} {l : List AV} : zbp (.box x y) l = l.map zcw := rfl
theorem so_box {x y} {l : List AV} : zar (.box x y) l = zbh l := rfl
theorem sg_build {x y} {l : List AV} : zbp (.build x y) l = l.map zcw := rfl
theorem so_build {x y} {l : List AV} : zar (.build x y) l = zbh l := rfl
theorem sg_buildSlice {x y z} {l : List AV} : zbp (.buildSlice x y z) l = l.map zcw := rfl
theorem so_buildSlice {x y z} {l : List AV} : zar (.buildSlice x y z) l = zbh l := rfl
theorem sg_load {x y} {l : List AV} : zbp (.load x y) l = l.map zcw := rfl
theorem so_load {x y} {l : List AV} : zar (.load x y) l = zbh l := rfl
theorem sg_store {x y z} {l : List AV} : zbp (.store x y z) l = l.map zcw := rfl
theorem so_store {x y z} {l : List AV} : zar (.store x y z) l = zbh l := rfl
theorem sg_nilCheck {x} {l : List AV} : zbp (.nilCheck x) l = l.map zcw := rfl
theorem so_nilCheck {x} {l : List AV} : zar (.nilCheck x) l = zbh l := rfl
theorem sg_binOp {a x y z b} {l : List AV} : zbp (.binOp a x y z b) l = l.map zcw := rfl
theorem so_binOp {a x y z b} {l : List AV} : zar (.binOp a x y z b) l = zbh l := rfl
theorem sg_unOp {x y z} {l : List AV} : zbp (.unOp x y z) l = l.map zcw := rfl
theorem so_unOp {x y z} {l : List AV} : zar (.unOp x y z) l = zbh l := rfl
theorem sg_convert {x y z} {l : List AV} : zbp (.convert x y z) l = l.map zcw := rfl
theorem so_convert {x y z} {l : List AV} : zar (.convert x y z) l = zbh l := rfl
theorem sg_makeFunc {x y z} {l : List AV} : zbp (.makeFunc x y z) l = l.map zcw := rfl
theorem so_makeFunc {x y z} {l : List AV} : zar (.makeFunc x y z) l = zbh l := rfl
theorem sg_makeSlice {x y z} {l : List AV} : zbp (.makeSlice x y z) l = l.map zcw := rfl
theorem so_makeSlice {x y z} {l : List AV} : zar (.makeSlice x y z) l = zbh l := rfl
theorem sg_slice {a x y z b} {l : List AV} : zbp (.slice a x y z b) l = l.map zcw := rfl
theorem so_slice {a x y z b} {l : List AV} : zar (.slice a x y z b) l = zbh l := rfl
theorem sg_fieldAddr {x y z} {l : List AV} : zbp (.fieldAddr x y z) l = l.map zcw := rfl
theorem so_fieldAddr {x y z} {l : List AV} : zar (.fieldAddr x y z) l = zbh l := rfl
theorem sg_field {x y z} {l : List AV} : zbp (.field x y z) l = l.map zcw := rfl
theorem so_field {x y z} {l : List AV} : zar (.field x y z) l = zbh l := rfl
theorem sg_indexAddr {x y z} {l : List AV} : zbp (.indexAddr x y z) l = l.map zcw := rfl
theorem so_indexAddr {x y z} {l : List AV} : zar (.indexAddr x y z) l = zbh l := rfl
theorem sg_index {x y z} {l : List AV} : zbp (.index x y z) l = l.map zcw := rfl
theorem so_index {x y z} {l : List AV} : zar (.index x y z) l = zbh l := rfl
theorem sg_extract {x y} {l : List AV} : zbp (.extract x y) l = l.map zcw := rfl
theorem so_extract {x y} {l : List AV} : zar (.extract x y) l = zbh l := rfl
theorem sg_call {x} {l : List AV} : zbp (.call x) l = l.map zcw := rfl
theorem so_call {x} {l : List AV} : zar (.call x) l = zbh l := rfl
theorem sg_lookup {a x y z} {l : List AV} : zbp (.lookup a x y z) l = l.map zcw := rfl
theorem so_lookup {a x y z} {l : List AV} : zar (.lookup a x y z) l = zbh l := rfl
theorem sg_mapUpdate {a x y z} {l : List AV} : zbp (.mapUpdate a x y z) l = l.map zcw := rfl
theorem so_mapUpdate {a x y z} {l : List AV} : zar (.mapUpdate a x y z) l = zbh l := rfl
theorem sg_makeInterface {x y} {l : List AV} : zbp (.makeInterface x y) l = l.map zcw := rfl
theorem so_makeInterface {x y} {l : List AV} : zar (.makeInterface x y) l = zbh l := rfl
theorem sg_makeMap {x y} {l : List AV} : zbp (.makeMap x y) l = l.map zcw := rfl
theorem so_makeMap {x y} {l : List AV} : zar (.makeMap x y) l = zbh l := rfl
theorem sg_pick {x y z} {c : AV} {l : List AV} : zbp (.pick x y z) (c :: l) = zcw c :: l := rfl
theorem so_pick {x y z} {c : AV} {l : List AV} : zar (.pick x y z) (c :: l) = zbh [c] := rfl

section
variable (ty : TypeId -> Option TI) (P : Program) (orc : List (Nat × Res)) (gs : List (Option Tmp)) (base : Nat)

def doOp (i : Nat) (o : Oper) (s : St) (K : St -> Prop) : Prop :=
 match eff ty P (find orc i) o.op s.obj (base + i) (o.op.operands.toList.map s.eval) with
 | some e => e.ob /\ (match o.dst with | some d => d < s.n | none => True) /\ K (s.app o.dst e)
 | none => False

def wpT : Nat -> List Oper -> St -> (St -> Prop) -> Prop
 | _, [], s, Q => Q s
 | i, o :: rest, s, Q =>
  match o.guard with
  | none => doOp ty P orc base i o s fun s' => wpT (i + 1) rest s' Q
  | some (j, want) =>
   match s.guard gs j want with
   | some x =>
    (match o.dst with | some d => d < s.n | none => True) /\
    (match eff ty P (find orc i) o.op s.obj (base + i) (zbp o.op (o.op.operands.toList.map s.eval)) with
    | some e => (match e.wr with
     | [] => (x = true -> zar o.op (o.op.operands.toList.map s.eval) /\ e.ob) /\ wpT (i + 1) rest (s.put o.dst (.opt x e.val)) Q
     | _ => x = true /\ zar o.op (o.op.operands.toList.map s.eval) /\ e.ob /\ wpT (i + 1) rest (s.app o.dst e) Q)
    | none => x = false /\ wpT (i + 1) rest (s.put o.dst (.opt false (.d (.bool false)))) Q)
   | none => False
end

def AWp (P : Program) (c : Code) (Q : Exit -> St -> Prop) (s : St) : Prop :=
 ∀ g a w, zcn s g a w -> c.wp P (fun e a' w' => ∃ s' g', zcn s' g' a' w' /\ zam g w g' w' /\ Q e s') a w

theorem Rel.congr {U : Nat -> Prop} {g : G} {get get' : Nat -> AV} {obj obj' : Nat -> Option Ob} {n : Nat} {a : Act} {w : World} (h : Rel U g get obj n a w) (h1 : ∀ t, get' t = get t) (h2 : ∀ t, obj' t = obj t) : Rel U g get' obj' n a w := by
 have e1 : get' = get := funext h1;have e2 : obj' = obj := funext h2;rw [e1, e2]; exact h

theorem zku (s : St) (dst : Option Tmp) (e : Eff) (t : Nat) : (s.app dst e).get t = zhj s.get dst e.val t := by
 rw [<- St.get_put];cases dst <;> rfl

theorem zkt (s : St) (dst : Option Tmp) (e : Eff) (id : Nat) : (s.app dst e).obj id = zcm s.obj e.wr id := by
 unfold St.app St.obj;cases dst <;> exact zpq e.wr s.hp id

theorem zme (s : St) (dst : Option Tmp) (v : AV) (id : Nat) : (s.put dst v).obj id = s.obj id := by cases dst <;> rfl

theorem zoq {g : G} {w : World} : ∀ {l : List AV} {vs : List Value}, zk g w l vs -> zbh l -> zk g w (l.map zcw) vs
 | [], vs, h, _ => by simpa [zk] using h
 | x :: l, vs, h, ho => by
  simp only [zk] at h;obtain ⟨v, vs', rfl, h1, h2⟩ := h;simp only [List.map_cons, zk];cases x with
  | opt b y =>
   simp only [zbh] at ho;simp only [zi] at h1;exact ⟨v, vs', rfl, h1.1 ho.1, zoq h2 ho.2⟩
  | _ => exact ⟨v, vs', rfl, h1, zoq h2 ho⟩

theorem zdy {op : Op} {g : G} {w : World} {l : List AV} {vs : List Value} (h : zk g w l vs) (ho : zar op l) : zk g w (zbp op l) vs := by
 cases op
 case pick =>
  cases l with
  | nil => simpa [zbp] using h
  | cons c r =>
   simp only [zbp, zar, zk] at h ho ⊢;obtain ⟨v, vs', rfl, h1, h2⟩ := h;refine ⟨v, vs', rfl, ?_, h2⟩;have := zoq (l := [c]) (vs := [v]) (by simp only [zk]; exact ⟨v, [], rfl, h1, rfl⟩) ho;simp only [List.map_cons, List.map_nil, zk] at this;obtain ⟨u, us, heq, hu, _⟩ := this;cases heq;exact hu
 all_goals exact zoq h ho

theorem Rel.opt {U : Nat -> Prop} {g : G} {get : Nat -> AV} {obj : Nat -> Option Ob} {n : Nat} {a : Act} {w : World} {dst : Option Tmp} {v : AV} (h : Rel U g (zhj get dst v) obj n a w) : Rel U g (zhj get dst (.opt true v)) obj n a w := by
 refine ⟨h.defers, h.size, fun t => ?_, h.used, h.heap⟩;have := h.tmp t;unfold zhj at this ⊢;split
 ·rename_i e;rw [if_pos e] at this;simp only [zi];exact ⟨fun _ => this, fun hb => by cases hb⟩
 ·rename_i e;rw [if_neg e] at this;exact this

theorem zkn {g : G} {w : World} {a : Act} {s : St} {ops : Array Oper} {gs : List (Option Tmp)} (hgs : ∀ j : Nat, gs[j]? = (ops[j]?).map fun o : Oper => o.dst) (htmp : ∀ t, zi g w (s.get t) (a.tmps.getD t undef)) {o : Oper} {j : Nat} {want x : Bool} (hg : o.guard = some (j, want)) (hx : s.guard gs j want = some x) :
  Region.wanted o (yielded ops a.tmps) = x := by
 unfold St.guard at hx;split at hx
 ·rename_i t ht;have hdst : (ops[j]?).bind (fun o => o.dst) = some t := by
   rw [hgs j] at ht;cases ho : ops[j]? with
   | none => rw [ho] at ht; cases ht
   | some oj => rw [ho] at ht; simpa using ht
  have isb : ∀ b, a.tmps.getD t undef = .bool b -> yielded ops a.tmps j = some b := by
   intro b hb;have hlt : t < a.tmps.size := by
    rcases Nat.lt_or_ge t a.tmps.size with hlt | hge
    ·exact hlt
    ·simp [Array.getElem?_eq_none hge, undef] at hb
   have : a.tmps[t]? = some (.bool b) := by
    simp [hlt] at hb;simp [hlt, hb]
   simp [yielded, hdst, this]
  have isu : a.tmps.getD t undef = undef -> yielded ops a.tmps j = none := by
   intro hb;rcases Nat.lt_or_ge t a.tmps.size with hlt | hge
   ·have : a.tmps[t]? = some undef := by
     simp [hlt] at hb;simp [hlt, hb]
    simp [yielded, hdst, this, undef]
   ·simp [yielded, hdst, Array.getElem?_eq_none hge]
  have hv := htmp t;split at hx
  ·rename_i b hb;cases hx;rw [hb] at hv;simp only [zi, zv] at hv;simp only [Region.wanted, hg, isb b hv];cases b <;> cases want <;> rfl
  ·rename_i q b hb;cases hx;rw [hb] at hv;simp only [zi, zv] at hv;cases q with
   | true =>
    simp only [Region.wanted, hg, isb b (hv.1 rfl)];cases b <;> cases want <;> rfl
   | false =>
    simp only [Region.wanted, hg, isu (hv.2 rfl)];cases want <;> rfl
  ·cases hx
 ·cases hx

theorem zfo {P : Program} {ty : TypeId -> Option TI} (hc : Ctx P ty) {orc : List (Nat × Res)} {gs : List (Option Tmp)} {ops : Array Oper} (hgs : ∀ j : Nat, gs[j]? = (ops[j]?).map fun o : Oper => o.dst) {base nxt : Nat} {Q : Exit -> Act -> World -> Prop} {K : St -> Prop} {g0 : G} {w0 : World}
  (hQ : ∀ s g a w, zcn s g a w -> zam g0 w0 g w -> K s -> Q .normal a w) :
  ∀ (l : List Oper) (i : Nat) (s : St) (g : G) (a : Act) (w : World), base + i + l.length <= nxt -> s.nxt = nxt -> Rel (· < base + i) g s.get s.obj s.n a w -> zam g0 w0 g w -> wpT ty P orc gs base i l s K -> wpList P ops Q l a w
 | [], i, s, g, a, w, hle, hnx, h, hs, hk => hQ s g a w ⟨h.defers, h.size, h.tmp, fun id hu => by have := h.used id hu; simp at hle; show id < s.nxt; omega, h.heap⟩ hs hk
 | o :: rest, i, s, g, a, w, hle, hnx, h, hs, hk => by
  simp only [List.length_cons] at hle;have hargs : zk g w (o.op.operands.toList.map s.eval) (o.op.operands.toList.map a.eval) := by
   refine zk.of_get (by simp) fun j av hj => ?_;rw [List.getElem?_map] at hj ⊢;cases hx : o.op.operands.toList[j]? with
   | none => rw [hx] at hj; cases hj
   | some x => rw [hx] at hj; cases hj; exact ⟨a.eval x, rfl, zec h (fun _ => rfl) x⟩
  have relapp : ∀ (e : Eff) (g' : G) (a' : Act) (w' : World), Rel (fun k => k < base + i \/ k = base + i) g' (zhj s.get o.dst e.val) (zcm s.obj e.wr) s.n a' w' -> Rel (· < base + (i + 1)) g' (s.app o.dst e).get (s.app o.dst e).obj (s.app o.dst e).n a' w' := by
   intro e g' a' w' hr;have hn : (s.app o.dst e).n = s.n := by unfold St.app St.put; cases o.dst <;> rfl
   rw [hn];exact ⟨hr.defers, hr.size, fun t => by rw [zku]; exact hr.tmp t, fun id hu => by
    have := hr.used id hu
    show id < base + (i + 1)
    rcases this with hh | hh <;> omega, by
    have : (s.app o.dst e).obj = zcm s.obj e.wr := funext (zkt s o.dst e);rw [this]; exact hr.heap⟩
  have hnapp : ∀ e, (s.app o.dst e).nxt = nxt := fun e => by rw [<- hnx]; unfold St.app St.put; cases o.dst <;> rfl
  have hnput : ∀ v, (s.put o.dst v).nxt = nxt := fun v => by rw [<- hnx]; unfold St.put; cases o.dst <;> rfl
  have hnn : ∀ v, (s.put o.dst v).n = s.n := fun v => by unfold St.put; cases o.dst <;> rfl
  have relput : ∀ (v : AV) (g' : G) (a' : Act) (w' : World) (U : Nat -> Prop), (∀ k, U k -> k < base + (i + 1)) -> Rel U g' (zhj s.get o.dst v) s.obj s.n a' w' -> Rel (· < base + (i + 1)) g' (s.put o.dst v).get (s.put o.dst v).obj (s.put o.dst v).n a' w' := by
   intro v g' a' w' U hU hr;rw [hnn];have := hr.congr (get' := (s.put o.dst v).get) (obj' := (s.put o.dst v).obj) (fun t => St.get_put s o.dst v t) (fun id => zme s o.dst v id);exact ⟨this.defers, this.size, this.tmp, fun k hk => hU k (this.used k hk), this.heap⟩
  have skipped : ∀ v, (∀ d, o.dst = some d -> d < s.n) -> zi g w v undef -> wpT ty P orc gs base (i + 1) rest (s.put o.dst v) K -> wpList P ops Q rest (a.put o.dst undef) w := by
   intro v hd hv hrest;have hr := zcb (U' := (· < base + i)) (dst := o.dst) (v := v) (u := undef) h h.heap ⟨fun b hb => ⟨hb, rfl⟩, fun _ hx => hx, fun _ _ => .inl rfl⟩ (fun k hk => h.used k hk) hv hd;exact zfo (nxt := nxt) hc hgs hQ rest (i + 1) _ g _ w (by omega) (hnput v) (relput v g _ w _ (fun k hk => by omega) hr) hs hrest
  simp only [wpList];unfold wpT at hk;split at hk
  ·rename_i hg;have hw : Region.wanted o (yielded ops a.tmps) = true := by simp [Region.wanted, hg]
   rw [if_pos hw];left
   unfold doOp at hk;split at hk
   ·rename_i e he;obtain ⟨hob, hd, hrest⟩ := hk;exact zge hc (nid := base + i) h (by simp) hargs he hob (fun d hd' => by rw [hd'] at hd; exact hd) fun g' a' w' hr hst =>
     zfo (nxt := nxt) hc hgs hQ rest (i + 1) (s.app o.dst e) g' a' w' (by omega) (hnapp e) (relapp e g' a' w' hr) (hs.trans hst) hrest
   ·exact hk.elim
  ·rename_i j want hg;split at hk
   ·rename_i x hgv;have hw := zkn (a := a) hgs h.tmp hg hgv;rw [hw];obtain ⟨hd, hk⟩ := hk;have hd' : ∀ d, o.dst = some d -> d < s.n := fun d hd' => by rw [hd'] at hd; exact hd
    split at hk
    ·rename_i e he;split at hk
     ·rename_i hwr;obtain ⟨hexec, hrest⟩ := hk;cases x with
      | true =>
       rw [if_pos rfl];left
       obtain ⟨hso, hob⟩ := hexec rfl;refine zge hc (nid := base + i) h (by simp) (zdy hargs hso) he hob hd' fun g' a' w' hr hst => ?_;rw [hwr] at hr;exact zfo (nxt := nxt) hc hgs hQ rest (i + 1) _ g' a' w' (by omega) (hnput _) (relput _ g' a' w' _ (fun k hk => by rcases hk with hh | hh <;> omega) hr.opt) (hs.trans hst) hrest
      | false =>
       rw [if_neg (by simp)];exact skipped _ hd' (by simp [zi]) hrest
     ·obtain ⟨rfl, hso, hob, hrest⟩ := hk;rw [if_pos rfl];left
      exact zge hc (nid := base + i) h (by simp) (zdy hargs hso) he hob hd' fun g' a' w' hr hst =>
       zfo (nxt := nxt) hc hgs hQ rest (i + 1) (s.app o.dst e) g' a' w' (by omega) (hnapp e) (relapp e g' a' w' hr) (hs.trans hst) hrest
    ·obtain ⟨rfl, hrest⟩ := hk;rw [if_neg (by simp)];exact skipped _ hd' (by simp [zi]) hrest
   ·exact hk.elim

theorem zd {P : Program} {ty : TypeId -> Option TI} (hc : Ctx P ty) (orc : List (Nat × Res)) {id : Nat} {l : List Oper} {Q : Exit -> St -> Prop} {s : St}
  (h : ∀ K : St -> Prop, (∀ s', Q .normal s' -> K s') -> wpT ty P orc (l.map (·.dst)) s.nxt 0 l { s with nxt := s.nxt + l.length } K) : AWp P (.region id l.toArray false) Q s := by
 intro g a w hr;refine wp_region ?_;have hw := zfo (P := P) hc (orc := orc) (gs := l.map (·.dst)) (ops := l.toArray) (by intro j; simp) (base := s.nxt) (nxt := s.nxt + l.length)
  (Q := fun e a' w' => ∃ s' g', zcn s' g' a' w' /\ zam g w g' w' /\ Q e s') (K := fun s' => Q .normal s') (g0 := g) (w0 := w)
  (fun s' g' a' w' h1 h2 h3 => ⟨s', g', h1, h2, h3⟩) l 0 { s with nxt := s.nxt + l.length } g a w (by simp) rfl ⟨hr.defers, hr.size, hr.tmp, fun id hu => by have := hr.used id hu; simpa using this, hr.heap⟩ (zam.refl g w) (h _ fun _ hq => hq)
 have := wpOps_eq_wpList (P := P) (ops := l.toArray) (Q := fun e a' w' => ∃ s' g', zcn s' g' a' w' /\ zam g w g' w' /\ Q e s') l 0 (by intro j; simp);rw [show List.range l.toArray.size = List.range' 0 l.length by simp [List.range_eq_range'], this];exact hw

section
variable {P : Program} {Q : Exit -> St -> Prop} {s : St}

def seqQ (K : St -> Prop) (Q : Exit -> St -> Prop) : Exit -> St -> Prop
 | .normal, s => K s
 | e, s => Q e s

theorem awp_seq {x y : Code} (h : AWp P x (seqQ (fun s' => AWp P y Q s') Q) s) : AWp P (.seq x y) Q s := by
 intro g a w hr;refine wp_seq (wp_mono (h g a w hr) fun e a' w' ⟨s', g', h1, h2, h3⟩ => ?_);cases e with
 | normal => exact wp_mono (h3 g' a' w' h1) fun e2 a2 w2 ⟨s2, g2, k1, k2, k3⟩ => ⟨s2, g2, k1, h2.trans k2, k3⟩
 | _ => exact ⟨s', g', h1, h2, h3⟩

theorem awp_skip (h : Q .normal s) : AWp P .skip Q s := fun g a w hr => wp_skip ⟨s, g, hr, zam.refl g w, h⟩
theorem awp_exit {id : Nat} (h : Q (.exit id) s) : AWp P (.exit id) Q s := fun g a w hr => wp_exit ⟨s, g, hr, zam.refl g w, h⟩
theorem awp_ret (h : Q .ret s) : AWp P .ret Q s := fun g a w hr => wp_ret ⟨s, g, hr, zam.refl g w, h⟩

theorem ze {c : Operand} {x y : Code} {b : Bool} (hc : s.eval c = .d (.bool b)) (ht : b = true -> AWp P x Q s) (hf : b = false -> AWp P y Q s) : AWp P (.cond c x y) Q s := by
 intro g a w hr;have h1 := zec hr (fun _ => rfl) c;rw [hc] at h1;simp only [zi, zv] at h1;exact wp_cond_split h1 (fun hb => ht hb g a w hr) (fun hb => hf hb g a w hr)

def zhw (id : Nat) (Q : Exit -> St -> Prop) : Exit -> St -> Prop
 | .exit id', s => if id' = id then Q .normal s else Q (.exit id') s
 | e, s => Q e s

theorem awp_block {id : Nat} {c : Code} (h : AWp P c (zhw id Q) s) : AWp P (.block id c) Q s := by
 intro g a w hr;refine wp_block (wp_mono (h g a w hr) fun e a' w' ⟨s', g', h1, h2, h3⟩ => ?_);cases e with
 | exit id' =>
  simp only [zhw] at h3;simp only [Exit.inBlock];split at h3
  ·rename_i he; rw [if_pos he]; exact ⟨s', g', h1, h2, h3⟩
  ·rename_i he; rw [if_neg he]; exact ⟨s', g', h1, h2, h3⟩
 | _ => exact ⟨s', g', h1, h2, h3⟩

def zqx (Q : Exit -> St -> Prop) : Exit -> St -> Prop
 | .goto _, _ => False
 | e, s => Q e s

theorem awp_scope {c : Code} (h : AWp P c (zqx Q) s) : AWp P (.scope c) Q s := by
 intro g a w hr;refine wp_scope_straight (wp_mono (h g a w hr) fun e a' w' ⟨s', g', h1, h2, h3⟩ => ?_);cases e with
 | goto l => exact h3.elim
 | _ => exact ⟨s', g', h1, h2, h3⟩

def zei (s s' : St) : Prop := ∀ g a w, zcn s g a w -> ∃ g', zcn s' g' a w /\ zam g w g' w

theorem zei.refl (s : St) : zei s s := fun g a w hr => ⟨g, hr, zam.refl g w⟩

theorem zbf {c : Code} {s' : St} (hw : zei s s') (h : AWp P c Q s') : AWp P c Q s := by
 intro g a w hr;obtain ⟨g', hr', hs⟩ := hw g a w hr;exact wp_mono (h g' a w hr') fun e a' w' ⟨s2, g2, h1, h2, h3⟩ => ⟨s2, g2, h1, hs.trans h2, h3⟩

theorem zqp {c : Code} {Q : Exit -> Act -> World -> Prop} (R : Nat -> Act -> World -> Prop) (round : ∀ n a w, R n a w -> c.wp P (Exit.then (fun a' w' => ∃ m, m < n /\ R m a' w') Q) a w) {n : Nat} {a : Act} {w : World} (h : R n a w) : (Code.loop c).wp P Q a w := by
 intro b k cs;have key : ∀ n a w, R n a w -> ∃ e a' w', Q e a' w' /\ Arrives P (lone (b.at a (.code c :: .inLoop c :: k)) cs w) b k cs e a' w' := by
  intro n;induction n using Nat.strongRecOn with
  | _ n ih =>
   intro a w hR;obtain ⟨e, a₁, w₁, hq, harr⟩ := round n a w hR b (.inLoop c :: k) cs;cases e with
   | normal =>
    obtain ⟨m, hlt, hR₁⟩ := hq;obtain ⟨e₂, a₂, w₂, hq₂, harr₂⟩ := ih m hlt a₁ w₁ hR₁;exact ⟨e₂, a₂, w₂, hq₂, .of_steps (Steps.trans harr (.one step_inLoop)) harr₂⟩
   | exit id => exact ⟨_, a₁, w₁, hq, .pass (x := .inLoop c) rfl (fun _ _ => .inl (by simp)) harr⟩
   | goto l => exact ⟨_, a₁, w₁, hq, .pass (x := .inLoop c) rfl (fun _ _ => .inl (by simp)) harr⟩
   | ret => exact ⟨_, a₁, w₁, hq, .pass (x := .inLoop c) rfl (fun _ _ => .inl (by simp)) harr⟩
   | panic ch => exact ⟨_, a₁, w₁, hq, .pass (x := .inLoop c) rfl (fun _ _ => .inl (by simp)) harr⟩
   | outgrown => exact ⟨_, a₁, w₁, hq, .pass (x := .inLoop c) rfl (fun _ _ => .inl (by simp)) harr⟩
 obtain ⟨e, a', w', hq, harr⟩ := key n a w h;exact ⟨e, a', w', hq, .of_steps (.one step_loop) harr⟩

theorem zu {c : Code} {β : Type} (I : β -> St) (inv : β -> Prop) (meas : β -> Nat) (b0 : β) (h0 : zei s (I b0)) (hi : inv b0)
  (round : ∀ b, inv b -> AWp P c (seqQ (fun s' => ∃ b', inv b' /\ meas b' < meas b /\ zei s' (I b')) Q) (I b)) : AWp P (.loop c) Q s := by
 refine zbf h0 ?_;intro g a w hr;refine zqp (fun n a' w' => ∃ b g', inv b /\ meas b = n /\ zcn (I b) g' a' w' /\ zam g w g' w') ?_ (n := meas b0) ⟨b0, g, hi, rfl, hr, zam.refl g w⟩;rintro n a1 w1 ⟨b, g1, hb, rfl, hr1, hs1⟩;refine wp_mono (round b hb g1 a1 w1 hr1) fun e a2 w2 ⟨s2, g2, h1, h2, h3⟩ => ?_;cases e with
 | normal =>
  obtain ⟨b', k1, k2, k3⟩ := h3;obtain ⟨g3, h4, h5⟩ := k3 g2 a2 w2 h1;exact ⟨meas b', k2, b', g3, k1, rfl, h4, hs1.trans (h2.trans h5)⟩
 | _ => exact ⟨s2, g2, h1, hs1.trans h2, h3⟩

end
end Go.Abs

namespace Go.Abs
variable [Flag]
open Go.RowKit

def zkz : Nat -> List D -> List (Nat × AV) -> List (Nat × AV)
 | _, [], acc => acc
 | i, d :: ds, acc => zkz (i + 1) ds ((i, .d d) :: acc)

def start (n : Nat) (ds : List D) : St := ⟨n, zkz 0 ds [], [], 0⟩

theorem zrv : ∀ (i : Nat) (ds : List D) (acc : List (Nat × AV)) (t : Nat), find (zkz i ds acc) t = if i <= t /\ t < i + ds.length then (ds[t - i]?).map AV.d else find acc t
 | i, [], acc, t => by simp only [zkz, List.length_nil, Nat.add_zero]; rw [if_neg (by omega)]
 | i, d :: ds, acc, t => by
  simp only [zkz, List.length_cons];rw [zrv (i + 1) ds];by_cases e : i = t
  ·subst e;rw [if_neg (by omega), if_pos (by omega)];simp [find]
  ·by_cases e2 : i + 1 <= t /\ t < i + 1 + ds.length
   ·rw [if_pos e2, if_pos (by omega), show t - i = (t - (i + 1)) + 1 by omega, List.getElem?_cons_succ]
   ·rw [if_neg e2, if_neg (by omega)];simp [find, e]

theorem start_rel {n : Nat} {ds : List D} {vs : List Value} {ro : Nat -> Prop} {w : World} (hro : ∀ b, ro b -> b < w.heap.size) (hd : zt ro w ds vs) (hn : ds.length <= n) :
  zcn (start n ds) ⟨ro, fun _ => none, fun _ => False⟩ { tmps := vs.toArray ++ Array.replicate (n - vs.toArray.size) undef, defers := [] } w := by
 have hl := hd.length;refine ⟨rfl, by simp only [Array.size_append, List.size_toArray, Array.size_replicate, start]; omega, fun t => ?_, fun _ h => h.elim, ⟨fun id o h => by simp [St.obj, start, find] at h, fun _ _ => rfl, fun _ _ h => by simp at h, fun _ _ _ _ h => by simp at h, hro⟩⟩;simp only [St.get, start, zrv];by_cases e : 0 <= t /\ t < 0 + ds.length
 ·rw [if_pos e];obtain ⟨d, hdt⟩ : ∃ d, ds[t]? = some d := ⟨ds[t]'(by omega), List.getElem?_eq_getElem _⟩
  obtain ⟨v, hv, hr⟩ := hd.get t d hdt;simp only [Nat.sub_zero, hdt, Option.map_some, Option.getD_some, zi];have hlt : t < vs.length := (List.getElem?_eq_some_iff.1 hv).1;have : (vs.toArray ++ Array.replicate (n - vs.toArray.size) undef)[t]? = some v := by
   rw [Array.getElem?_append_left (by simpa using hlt)];simpa using hv
  simp only [Array.getD_eq_getD_getElem?, this, Option.getD_some];exact hr
 ·rw [if_neg e];simp [find, zi]

def zgl (ty : TypeId -> Option TI) (s : St) : List ResultVar -> Option (List AV)
 | [] => some []
 | .tmp t :: r => (zgl ty s r).map (s.get t :: ·)
 | .cell a t :: r => (zmk ty t s.obj [s.get a]).bind fun e => (zgl ty s r).map (e.val :: ·)

def zhp : List AV -> AV
 | [x] => x
 | l => .tup l

def zng (s : St) (x : AV) : Res -> Prop
 | .p d => match zhz s.obj x with | some y => y.1 = d /\ y.2.1 | none => False
 | .o e m rows => match x with
  | .nl => rows = [] /\ 0 < m
  | .hs id 0 len => match s.obj id with
   | some o => o.elem = e /\ o.m = m /\ (match zdm o.rows with | some R => R.take len = rows /\ len <= R.length | none => False)
   | none => False
  | _ => False
 | .x _ => False
 | .skip => False
 | .ub _ => False
 | .f d => match zia s.obj x with | some y => y.1 = d /\ y.2 | none => False

theorem resOk_p {s : St} {x : AV} {d : D} (h : zng s x (.p d)) : ∃ p b, zhz s.obj x = some (d, p, b) /\ p := by
 simp only [zng] at h;split at h
 ·rename_i y hy; obtain ⟨d', p, b⟩ := y; obtain ⟨rfl, hp⟩ := h; exact ⟨p, b, hy, hp⟩
 ·exact h.elim

theorem resOk_o {s : St} {x : AV} {e : TypeId} {m : Nat} {rows : List (List D)} (h : zng s x (.o e m rows)) :
  (x = .nl /\ rows = [] /\ 0 < m) \/ ∃ id len o R, x = .hs id 0 len /\ s.obj id = some o /\ o.elem = e /\ o.m = m /\ zdm o.rows = some R /\ rows = R.take len /\ len <= R.length := by
 simp only [zng] at h;split at h
 ·exact .inl ⟨rfl, h⟩
 ·rename_i id len;split at h
  ·rename_i o ho;obtain ⟨h1, h2, h3⟩ := h;split at h3
   ·rename_i R hR; exact .inr ⟨id, len, o, R, rfl, ho, h1, h2, hR, h3.1.symm, h3.2⟩
   ·exact h3.elim
  ·exact h.elim
 ·exact h.elim

def retQ (ty : TypeId -> Option TI) (rs : List ResultVar) (r : Res) : Exit -> St -> Prop
 | .normal, s | .ret, s => match zgl ty s rs with | some l => zng s (zhp l) r | none => False
 | _, _ => False

theorem zsr {ty : TypeId -> Option TI} {rs : List ResultVar} {r : Res} {s : St} (h : match zgl ty s rs with | some l => zng s (zhp l) r | none => False) : ∃ l, zgl ty s rs = some l /\ zng s (zhp l) r := by
 split at h
 ·rename_i l hl; exact ⟨l, hl, h⟩
 ·exact h.elim

def resOne (tmps : Array Value) : ResultVar -> Sem Value
 | .tmp t => pure (tmps.getD t undef)
 | .cell a t => do loadVar t (<- asAddr (tmps.getD a undef))

theorem run_asAddr_ptr (P : Program) (w : World) (ad : Addr) : (asAddr (.pointer (some ad))).run P w = .ok ad w := rfl

theorem resAs_run {P : Program} {ty : TypeId -> Option TI} (hc : Ctx P ty) {s : St} {g : G} {a : Act} {w : World} (h : zcn s g a w) : ∀ (rs : List ResultVar) (l : List AV), zgl ty s rs = some l ->
  ∃ vs : List Value, (rs.mapM (resOne a.tmps)).run P w = .ok vs w /\ zk g w l vs
 | [], l, hl => by simp [zgl] at hl; subst hl; exact ⟨[], by simp, by simp [zk]⟩
 | .tmp t :: r, l, hl => by
  simp only [zgl, Option.map_eq_some_iff] at hl;obtain ⟨l', hl', rfl⟩ := hl;obtain ⟨vs, h1, h2⟩ := resAs_run hc h r l' hl';refine ⟨a.tmps.getD t undef :: vs, ?_, by simp only [zk]; exact ⟨_, _, rfl, h.tmp t, h2⟩⟩;simp only [List.mapM_cons, resOne, Sem.run_bind, Sem.run_pure, Result.andThen_ok, h1]
 | .cell c t :: r, l, hl => by
  simp only [zgl] at hl;cases he : zmk ty t s.obj [s.get c] with
  | none => rw [he] at hl; cases hl
  | some e =>
   rw [he] at hl;simp only [Option.bind_some, Option.map_eq_some_iff] at hl;obtain ⟨l', hl', rfl⟩ := hl;obtain ⟨vs, h1, h2⟩ := resAs_run hc h r l' hl';have hd := ztp (P := P) (o := { dst := none, op := .load t (.tmp c), type := 0, pos := "", after := #[], guard := none }) (nid := 0) (a := a) hc h.heap rfl (args := [s.get c]) (by
    simp only [zk]; exact ⟨_, [], rfl, h.tmp c, rfl⟩) he
   have hload : ∃ v, (Instr.loadAt t (a.tmps.getD c undef)).run P w = .ok v w /\ zi g w e.val v := by
    unfold zmk at he;have hx := h.tmp c;split at he
    ·rename_i id i j heq;simp only [List.cons.injEq, and_true] at heq;rw [heq] at hx;cases ht : ty t with
     | none => rw [ht] at he; cases he
     | some ti =>
      cases hob : s.obj id with
      | none => rw [ht, hob] at he; cases he
      | some ob =>
       rw [ht, hob] at he;simp only [Option.bind_some] at he;cases hrow : ob.rows[i]? with
       | none => rw [hrow] at he; cases he
       | some row =>
        rw [hrow] at he;simp only [Option.bind_some, Option.map_eq_some_iff] at he;obtain ⟨y, hy, rfl⟩ := he;obtain ⟨L, hL, hok⟩ := h.heap.own id ob hob;simp only [zi] at hx;obtain ⟨hv, hp⟩ := hx.2 L hL;obtain ⟨us, hul, hur, huc⟩ := hok.row hv hrow;rw [hp];exact zpf (hc.ok t ti ht) (huc.drop j) (hur.drop j) hy
    ·rename_i cs heq;simp only [List.cons.injEq, and_true] at heq;rw [heq] at hx;cases ht : ty t with
     | none => rw [ht] at he; cases he
     | some ti =>
      rw [ht] at he;simp only [Option.bind_some, Option.map_eq_some_iff] at he;obtain ⟨y, hy, rfl⟩ := he;simp only [zi, zv] at hx;obtain ⟨b, off, us, hp, hb, hr, hcell⟩ := hx;rw [hp];exact zpf (hc.ok t ti ht) hcell (zk.of_ds hr) hy
    ·cases he
   obtain ⟨v, hv, hrep⟩ := hload;refine ⟨v :: vs, ?_, by simp only [zk]; exact ⟨_, _, rfl, hrep, h2⟩⟩;have hv' : ∃ ad, a.tmps.getD c undef = .pointer (some ad) /\ (loadVar t ad).run P w = .ok v w := by
    cases hval : a.tmps.getD c undef <;> rw [hval] at hv <;> simp [Instr.loadAt, Instr.sureAddr] at hv
    case pointer p =>
     cases p with
     | none => simp at hv
     | some ad => exact ⟨ad, rfl, by simpa using hv⟩
   obtain ⟨ad, had, hlv⟩ := hv';simp only [List.mapM_cons, resOne, Sem.run_bind, had, run_asAddr_ptr, Sem.run_pure, Result.andThen_ok, hlv, h1]

theorem zmd {P : Program} {ty : TypeId -> Option TI} (hc : Ctx P ty) {s : St} {g : G} {a : Act} {w : World} (h : zcn s g a w) {fn : Func} {l : List AV} (hl : zgl ty s fn.results.toList = some l) :
  ∃ v, (results fn a.tmps).run P w = .ok v w /\ zi g w (zhp l) v := by
 obtain ⟨vs, h1, h2⟩ := resAs_run hc h _ l hl;refine ⟨if h : vs.toArray.size = 1 then vs.toArray[0] else .tuple vs.toArray, ?_, ?_⟩
 ·have hres : results fn a.tmps = (do
    let vs <- fn.results.mapM (resOne a.tmps)
    pure (if h : vs.size = 1 then vs[0] else .tuple vs)) := by
   unfold results
   congr 2
  rw [hres, Array.mapM_eq_mapM_toList];simp only [Sem.run_bind, Sem.run_map, h1, Result.andThen_ok, Sem.run_pure]
 ·have hlen := h2.length;unfold zhp;split
  ·rename_i x
   match vs, hlen, h2 with
   | [v], _, h2 => simpa using zcr h2
  ·rename_i hne;have hsz : vs.toArray.size ≠ 1 := by
    intro hs;simp at hs
    match l, hlen, hne with
    | [x], _, hne => exact hne x rfl
    | [], hlen, _ => simp at hlen; subst hlen; simp at hs
    | _ :: _ :: _, hlen, _ => rw [hs] at hlen; simp at hlen
   rw [dif_neg hsz];simp only [zi];exact ⟨vs, rfl, h2⟩

theorem zn {P : Program} {ty : TypeId -> Option TI} (hc : Ctx P ty) {f : FuncId} {fn : Func} {c : Code} {ds : List D} {r : Res} (hf : P.funcs[f]? = some fn) (hb : fn.body = some c) (hname : (fn.name == "runtime.NumGoroutine") = false) (hn : ds.length <= fn.ntmps)
  (h : AWp P c (retQ ty fn.results.toList r) (start fn.ntmps ds)) : PC P f ds r := by
 refine ⟨⟨fn, hf, hname, by rw [hb]; rfl⟩, fun ro w vs hro hd => ?_⟩;refine calls_of_wp hf hb (wp_mono (h _ _ w (start_rel hro hd hn)) fun e a' w' ⟨s', g', h1, h2, h3⟩ => ?_);have done : (∃ l, zgl ty s' fn.results.toList = some l /\ zng s' (zhp l) r) -> a'.defers = [] /\ ∃ v, (results fn a'.tmps).run P w' = .ok v w' /\ ∃ v', Ending.returned v = .returned v' /\ Below w.heap.size w w' /\ zdu ro w.heap.size w' r v' := by
  rintro ⟨l, hl, hok⟩;obtain ⟨v, hv, hrep⟩ := zmd hc h1 hl;refine ⟨h1.defers, v, hv, v, rfl, ⟨h2.os, h2.tape, h2.output, h2.size, fun k hk => h2.block k hk (by rintro ⟨_, _, h, _⟩; cases h)⟩, ?_⟩;have hro' : ∀ b, g'.ro b -> ro b \/ (w.heap.size <= b /\ b < w'.heap.size) := fun b hb => by
   rcases h2.ro' b hb with hh | hh | ⟨_, _, hh, _⟩
   ·exact .inl hh
   ·exact .inr ⟨hh, h1.heap.ro b hb⟩
   ·cases hh
  have hown' : ∀ b, g'.owns b -> w.heap.size <= b /\ b < w'.heap.size := fun b hb => by
   refine ⟨?_, ?_⟩
   ·rcases h2.own b hb with hh | ⟨_, _, hh, _⟩
    ·exact hh
    ·cases hh
   ·obtain ⟨x, L, hx, hvx, rfl⟩ := hb;exact ((h1.heap.live x L hx).2 hvx).1
  cases r with
  | x c => exact (show False from hok).elim
  | skip => exact (show False from hok).elim
  | ub b => exact (show False from hok).elim
  | f d =>
   simp only [zng] at hok;split at hok
   ·rename_i y hy;obtain ⟨d', p⟩ := y;obtain ⟨rfl, hp⟩ := hok;simp only [zdu];exact zv.mono (fun b hb => ⟨hown' b hb, rfl⟩) d' v (zqw h1.heap _ _ _ _ hy hp hrep)
   ·exact hok.elim
  | p d =>
   obtain ⟨p, b, hs, hp⟩ := resOk_p hok;obtain ⟨k1, _⟩ := zov h1.heap _ _ _ _ _ hs hp hrep;simp only [zdu];exact zv.mono (fun b hb => ⟨hb.elim (hro' b) fun ho => .inr (hown' b ho), rfl⟩) d v k1
  | o e m rows =>
   simp only [zdu, OwnRes];rcases resOk_o hok with ⟨hx, rfl, hm⟩ | ⟨id, len, o, R, hx, hob, rfl, rfl, hR, rfl, hlen⟩
   ·rw [hx] at hrep;simp only [zi] at hrep;exact ⟨hm, .inl ⟨rfl, none, hrep⟩⟩
   ·rw [hx] at hrep;obtain ⟨L, hL, hok⟩ := h1.heap.own id o hob;refine ⟨by rw [<- hok.m]; exact hok.pos, ?_⟩;simp only [zi] at hrep;rcases hrep.2 L hL with ⟨_, _, rfl, hv'⟩ | ⟨hvirt, hle, hv'⟩
    ·exact .inl ⟨by simp, hv'⟩
    ·obtain ⟨cur, c1, c2, c3, c5⟩ := hok.cells hvirt;have hlenR : (R.take len).length = len := by simp; omega
     refine .inr ⟨L.blk, L.cap, cur, (hown' _ ⟨id, L, hL, hvirt.1, rfl⟩).1, by rw [hv', hlenR]; simp, c1, by rw [hlenR]; omega, c3, by rw [c2, hok.m], fun i row hi => ?_⟩;rw [List.getElem?_take] at hi;split at hi
     ·obtain ⟨arow, harow, had⟩ := zhe hR i row hi;obtain ⟨d1, d2⟩ := c5 i arow harow;obtain ⟨us, hul, hur, huc⟩ := hok.row hvirt harow;have hds := zk.allD had hur;refine ⟨by rw [<- hds.length, hul, hok.m], fun j d hj => ?_⟩;obtain ⟨u, hu, hru⟩ := hds.get j d hj;obtain ⟨hcell, hone⟩ := huc j u hu;have hcu : cur[i * o.m + j]? = some u := by
       rw [<- hok.m];rw [c1.cell] at hcell;simpa using hcell
      refine ⟨u, hcu, hone, zv.mono (fun b hb => ⟨?_, rfl⟩) d u hru⟩;rcases hro' b hb with hh | hh
      ·exact .inl hh
      ·exact .inr ⟨hh.1, hh.2, fun e' => ((h1.heap.live id L hL).2 hvirt.1).2 (e' ▸ hb)⟩
     ·cases hi
 cases e with
 | normal => exact done (zsr h3)
 | ret => exact done (zsr h3)
 | _ => exact h3.elim

def zsi : Nat -> List AV -> List (Nat × AV) -> List (Nat × AV)
 | _, [], acc => acc
 | i, d :: ds, acc => zsi (i + 1) ds ((i, d) :: acc)
def zto (n : Nat) (Ls : Nat -> Loc) : List (Nat × Nat) -> List (Nat × AV)
 | [] => []
 | (i, _) :: r => (n + i, .pin i (Ls i)) :: zto n Ls r
def obs : List (Nat × Ob) -> List (Nat × Option Ob)
 | [] => []
 | (i, o) :: r => (i, some o) :: obs r
def zhm (n : Nat) (as : List AV) (pin : List (Nat × Nat)) (Ls : Nat -> Loc) (hp : List (Nat × Ob)) (nxt : Nat) : St := ⟨n, zsi 0 as (zto n Ls pin), obs hp, nxt⟩

theorem zvn (id : Nat) : ∀ hp : List (Nat × Ob), find (obs hp) id = (find hp id).map some
 | [] => rfl
 | (i, o) :: r => by
  simp only [obs, find, zvn id r];split <;> rfl

theorem zrw : ∀ (i : Nat) (ds : List AV) (acc : List (Nat × AV)) (t : Nat), find (zsi i ds acc) t = if i <= t /\ t < i + ds.length then ds[t - i]? else find acc t
 | i, [], acc, t => by simp only [zsi, List.length_nil, Nat.add_zero]; rw [if_neg (by omega)]
 | i, d :: ds, acc, t => by
  simp only [zsi, List.length_cons];rw [zrw (i + 1) ds];by_cases e : i = t
  ·subst e;rw [if_neg (by omega), if_pos (by omega)];simp [find]
  ·by_cases e2 : i + 1 <= t /\ t < i + 1 + ds.length
   ·rw [if_pos e2, if_pos (by omega), show t - i = (t - (i + 1)) + 1 by omega, List.getElem?_cons_succ]
   ·rw [if_neg e2, if_neg (by omega)];simp [find, e]

theorem zuh {n : Nat} {Ls : Nat -> Loc} {t : Nat} {v : AV} : ∀ {pin : List (Nat × Nat)}, find (zto n Ls pin) t = some v -> ∃ i j, (i, j) ∈ pin /\ v = .pin i (Ls i)
 | [], h => by simp [zto, find] at h
 | (i, j) :: r, h => by
  simp only [zto, find] at h;split at h
  ·cases h; exact ⟨i, j, List.mem_cons_self, rfl⟩
  ·obtain ⟨i', j', h1, h2⟩ := zuh h;exact ⟨i', j', List.mem_cons_of_mem _ h1, h2⟩

def zjz (s : St) (ρ : List (Nat × Nat)) (n : Nat) (Ls : Nat -> Loc) : List (Nat × Nat) -> Prop
 | [] => True
 | (i, j) :: r => (match find ρ j with | some y => s.get (n + i) = .pin y (Ls i) /\ (s.obj y).isSome = true | none => False) /\ zjz s ρ n Ls r

def retX (ty : TypeId -> Option TI) (rs : List ResultVar) (n : Nat) (pin : List (Nat × Nat)) (hp' : List (Nat × Ob)) (r : AV) (Ls : Nat -> Loc) : Exit -> St -> Prop
 | .normal, s | .ret, s => ∃ ρ : List (Nat × Nat), match zgl ty s rs with
  | some l => zen ρ [r] [zhp l] /\ zka s.obj ρ hp' /\ zdg (ρ.map (·.2)) = true /\ ρ.map (·.1) = hp'.map (·.1) /\ zjz s ρ n Ls pin
  | none => False
 | _, _ => False

theorem zsq {ty : TypeId -> Option TI} {rs : List ResultVar} {n : Nat} {pin : List (Nat × Nat)} {hp' : List (Nat × Ob)} {r : AV} {Ls : Nat -> Loc} {s : St}
  (h : ∃ ρ : List (Nat × Nat), match zgl ty s rs with
   | some l => zen ρ [r] [zhp l] /\ zka s.obj ρ hp' /\ zdg (ρ.map (·.2)) = true /\ ρ.map (·.1) = hp'.map (·.1) /\ zjz s ρ n Ls pin
   | none => False) : ∃ ρ l, zgl ty s rs = some l /\ zen ρ [r] [zhp l] /\ zka s.obj ρ hp' /\ zdg (ρ.map (·.2)) = true /\ ρ.map (·.1) = hp'.map (·.1) /\ zjz s ρ n Ls pin := by
 obtain ⟨ρ, h⟩ := h;split at h
 ·rename_i l hl; exact ⟨ρ, l, hl, h⟩
 ·exact h.elim

theorem ztx {s : St} {ρ : List (Nat × Nat)} {n : Nat} {Ls : Nat -> Loc} : ∀ {pin : List (Nat × Nat)}, zjz s ρ n Ls pin -> ∀ i j, (i, j) ∈ pin -> ∃ y, find ρ j = some y /\ s.get (n + i) = .pin y (Ls i) /\ (s.obj y).isSome = true
 | (a, b) :: r, h, i, j, hm => by
  simp only [zjz] at h;rcases List.mem_cons.1 hm with e | hm
  ·cases e;have h1 := h.1;split at h1
   ·rename_i y hy; exact ⟨y, hy, h1.1, h1.2⟩
   ·exact h1.elim
  ·exact ztx h.2 i j hm

theorem zeo {P : Program} {ty : TypeId -> Option TI} (hc : Ctx P ty) {f : FuncId} {fn : Func} {c : Code} {as : List AV} {hp : List (Nat × Ob)} {pin : List (Nat × Nat)} {hp' : List (Nat × Ob)} {r : AV} (nxt : Nat)
  (hf : P.funcs[f]? = some fn) (hb : fn.body = some c) (hname : (fn.name == "runtime.NumGoroutine") = false) (hn : as.length <= fn.ntmps)
  (hids : (hp.all fun x => Nat.blt x.1 nxt) = true) (hpin : (pin.all fun x => (find hp x.1).isSome) = true)
  (h : ∀ Ls : Nat -> Loc, AWp P c (retX ty fn.results.toList fn.ntmps pin hp' r Ls) (zhm fn.ntmps as pin Ls hp nxt)) : PX P f as hp pin hp' r := by
 refine ⟨⟨fn, hf, hname, by rw [hb]; rfl⟩, fun g w vs hH hu hd => ?_⟩;have hl := hd.length
 let Ls : Nat -> Loc := fun i => (g.loc i).getD ⟨0, 0, 0, false, false⟩
 have hpin' : ∀ i j, (i, j) ∈ pin -> g.used i /\ g.loc i = some (Ls i) := fun i j hij => by
  have := List.all_eq_true.1 hpin (i, j) hij;obtain ⟨o, ho⟩ := Option.isSome_iff_exists.1 this;obtain ⟨L, hL, _⟩ := hH.own i o ho;exact ⟨(hH.live i L hL).1, by simp [Ls, hL]⟩
 have hrel : zcn (zhm fn.ntmps as pin Ls hp nxt) g { tmps := vs.toArray ++ Array.replicate (fn.ntmps - vs.toArray.size) undef, defers := [] } w := by
  refine ⟨rfl, by simp only [Array.size_append, List.size_toArray, Array.size_replicate, zhm]; omega, fun t => ?_, fun id hid => ?_, ?_⟩
  ·simp only [St.get, zhm, zrw];by_cases e : 0 <= t /\ t < 0 + as.length
   ·rw [if_pos e];obtain ⟨d, hdt⟩ : ∃ d, as[t]? = some d := ⟨as[t]'(by omega), List.getElem?_eq_getElem _⟩
    obtain ⟨v, hv, hr⟩ := hd.get t d hdt;simp only [Nat.sub_zero, hdt, Option.getD_some];have hlt : t < vs.length := (List.getElem?_eq_some_iff.1 hv).1;have : (vs.toArray ++ Array.replicate (fn.ntmps - vs.toArray.size) undef)[t]? = some v := by
     rw [Array.getElem?_append_left (by simpa using hlt)];simpa using hv
    simp only [Array.getD_eq_getD_getElem?, this, Option.getD_some];exact hr
   ·rw [if_neg e];cases hf' : find (zto fn.ntmps Ls pin) t with
    | none => simp [zi]
    | some v =>
     obtain ⟨i, j, hij, rfl⟩ := zuh hf';simp only [Option.getD_some, zi];obtain ⟨h1, h2⟩ := hpin' i j hij;exact ⟨h1, fun M hM => by rw [h2] at hM; exact (Option.some.inj hM).symm⟩
  ·have h1 := hu id hid;obtain ⟨o, ho⟩ := Option.isSome_iff_exists.1 h1;have hk := zhs ho;obtain ⟨x, hx, rfl⟩ := List.mem_map.1 hk;exact Nat.le_of_ble_eq_true (List.all_eq_true.1 hids x hx)
  ·have : (zhm fn.ntmps as pin Ls hp nxt).obj = zfy hp := by
    funext id
    simp only [St.obj, zhm, zvn, zfy];cases find hp id <;> rfl
   rw [this];exact hH
 refine calls_of_wp hf hb (wp_mono (h Ls _ _ w hrel) fun e a' w' ⟨s', g', h1, h2, h3⟩ => ?_);have done : (∃ ρ l, zgl ty s' fn.results.toList = some l /\ zen ρ [r] [zhp l] /\ zka s'.obj ρ hp' /\ zdg (ρ.map (·.2)) = true /\ ρ.map (·.1) = hp'.map (·.1) /\ zjz s' ρ fn.ntmps Ls pin) ->
   a'.defers = [] /\ ∃ v, (results fn a'.tmps).run P w' = .ok v w' /\ ∃ v' g2, Ending.returned v = .returned v' /\ zah g2 (zfy hp') w' /\ zi g2 w' r v' /\ zam g w g2 w' /\ ∀ i j, (i, j) ∈ pin -> g2.loc j = g.loc i := by
  rintro ⟨ρ, l, hl, hr, hhp, hρ, hdom, hpo⟩;obtain ⟨v, hv, hrep⟩ := zmd hc h1 hl;have hsame : ∀ b, (via g' ρ hp').owns b -> g'.owns b := fun b ⟨i, L, hL, hvv, hb⟩ => by
   obtain ⟨x, _, q⟩ := zjd hL;exact ⟨x, L, q, hvv, hb⟩
  refine ⟨h1.defers, v, hv, v, via g' ρ hp', rfl, zsk h1.heap hhp (zes hρ) hdom, ?_, ⟨h2.os, h2.tape, h2.output, h2.size, h2.block, fun b hb => h2.own b (hsame b hb), h2.ro, h2.ro'⟩, fun i j hij => ?_⟩
  ·have := zii (g := g') (g' := via g' ρ hp') (w := w') (fun i x hi => zlb hdom hi) (fun i x hi => zhk hi) (fun _ hb => hb) hr (vs := [v]) (by simp only [zk]; exact ⟨v, [], rfl, hrep, rfl⟩);exact zcr this
  ·obtain ⟨y, q1, q2, q3⟩ := ztx hpo i j hij;have hty := h1.tmp (fn.ntmps + i);rw [q2] at hty;simp only [zi] at hty;obtain ⟨o, ho⟩ := Option.isSome_iff_exists.1 q3;obtain ⟨M, hM, _⟩ := h1.heap.own y o ho;rw [zhk q1, hM, hty.2 M hM, (hpin' i j hij).2]
 cases e with
 | normal => exact done (zsq h3)
 | ret => exact done (zsq h3)
 | _ => exact h3.elim

section
variable {ty : TypeId -> Option TI} {rs : List ResultVar} {n : Nat} {pin : List (Nat × Nat)} {hp' : List (Nat × Ob)} {r : AV} {Ls : Nat -> Loc} {s : St} (ρ : List (Nat × Nat))
 (h : match zgl ty s rs with
  | some l => zen ρ [r] [zhp l] /\ zka s.obj ρ hp' /\ zdg (ρ.map (·.2)) = true /\ ρ.map (·.1) = hp'.map (·.1) /\ zjz s ρ n Ls pin
  | none => False)
include h
theorem rx_r : retX ty rs n pin hp' r Ls .ret s := ⟨ρ, h⟩
theorem rx_n : retX ty rs n pin hp' r Ls .normal s := ⟨ρ, h⟩
end

mutual
def up (σ : List (Nat × Option Nat)) : AV -> Option AV
 | .any => none
 | .nl => some .nl
 | .d x => some (.d x)
 | .hs id off len => match find σ id with
  | some (some old) => some (.hs old off len)
  | some none => if off = 0 /\ len = 0 then some .nl else none
  | none => none
 | .ptr id i j => match find σ id with
  | some (some old) => some (.ptr old i j)
  | _ => none
 | .agg l => (upL σ l).map .agg
 | .clo f l => (upL σ l).map (.clo f)
 | .tup l => (upL σ l).map .tup
 | .opt _ _ => none
 | .ub _ _ => none
 | .lit v => some (.lit v)
 | .pin id L => match find σ id with
  | some (some old) => some (.pin old L)
  | _ => none
 | .hm id => match find σ id with
  | some (some old) => some (.hm old)
  | _ => none
def upL (σ : List (Nat × Option Nat)) : List AV -> Option (List AV)
 | [] => some []
 | a :: as => match up σ a, upL σ as with | some x, some y => some (x :: y) | _, _ => none
end

def upR (σ : List (Nat × Option Nat)) : List (List AV) -> Option (List (List AV))
 | [] => some []
 | a :: as => match upL σ a, upR σ as with | some x, some y => some (x :: y) | _, _ => none

theorem upL_map (σ : List (Nat × Option Nat)) (l : List D) : upL σ (l.map AV.d) = some (l.map AV.d) := by
 induction l with
 | nil => rfl
 | cons x l ih => simp [upL, up, ih]

theorem upR_dr (σ : List (Nat × Option Nat)) (l : List (List D)) : upR σ (dr l) = some (dr l) := by
 induction l with
 | nil => rfl
 | cons x l ih =>
  show upR σ (x.map AV.d :: dr l) = some (x.map AV.d :: dr l)
  simp [upR, upL_map, ih]

def upT (σ : List (Nat × Option Nat)) (s : St) : List (Nat × AV) -> Prop
 | [] => True
 | (t, v) :: r => (match v with | .any => True | v => up σ v = some (s.get t)) /\ upT σ s r

def upH (σ : List (Nat × Option Nat)) (s : St) : List (Nat × Option Ob) -> Prop
 | [] => True
 | (id, some o') :: r => (match find σ id with
   | some (some old) => ∃ o, s.obj old = some o /\ o.elem = o'.elem /\ o.m = o'.m /\ upR σ o'.rows = some o.rows
   | some none => o'.rows = [] /\ 0 < o'.m
   | none => False) /\ upH σ s r
 | (_, none) :: r => upH σ s r

def zq : List (Nat × Option Nat) -> List Nat
 | [] => []
 | (_, some o) :: r => o :: zq r
 | (_, none) :: r => zq r

def zg (s' : St) : List (Nat × Option Nat) -> Prop
 | [] => True
 | (id, _) :: r => (s'.obj id).isSome = true /\ id < s'.nxt /\ zg s' r

def zfs (σ : List (Nat × Option Nat)) (s' : St) (g : G) : G :=
 ⟨g.ro, fun id => match find σ id, s'.obj id with | some (some old), some _ => g.loc old | some none, some o => some ⟨0, o.m, 0, true, false⟩ | _, _ => none, fun id => (find σ id).isSome = true⟩

theorem zgf {s' : St} : ∀ {σ : List (Nat × Option Nat)}, zg s' σ -> ∀ id, (find σ id).isSome = true -> (s'.obj id).isSome = true /\ id < s'.nxt
 | [], _, id, h => by simp [find] at h
 | (k, v) :: r, hn, id, h => by
  simp only [zg] at hn;simp only [find] at h;split at h
  ·rename_i e; subst e; exact ⟨hn.1, hn.2.1⟩
  ·exact zgf hn.2.2 id h

theorem znw : ∀ {σ : List (Nat × Option Nat)} {id old : Nat}, find σ id = some (some old) -> old ∈ zq σ
 | [], id, old, h => by simp [find] at h
 | (k, v) :: r, id, old, h => by
  simp only [find] at h;split at h
  ·cases h; simp [zq]
  ·cases v <;> simp only [zq]
   ·exact znw h
   ·exact List.mem_cons_of_mem _ (znw h)

theorem find_inj : ∀ {σ : List (Nat × Option Nat)} {a b old : Nat}, (zq σ).Nodup -> find σ a = some (some old) -> find σ b = some (some old) -> a = b
 | [], a, b, old, _, h, _ => by simp [find] at h
 | (k, v) :: r, a, b, old, hn, h1, h2 => by
  simp only [find] at h1 h2;cases v with
  | none =>
   simp only [zq] at hn;split at h1
   ·cases h1
   ·split at h2
    ·cases h2
    ·exact find_inj hn h1 h2
  | some o =>
   simp only [zq, List.nodup_cons] at hn;split at h1
   ·rename_i e1;cases h1;split at h2
    ·rename_i e2; rw [<- e1, <- e2]
    ·exact absurd (znw h2) hn.1
   ·split at h2
    ·cases h2;exact absurd (znw h1) hn.1
    ·exact find_inj hn.2 h1 h2

mutual
theorem up_rep {σ : List (Nat × Option Nat)} {s' : St} {g : G} {w : World} (hn : zg s' σ) : ∀ (x y : AV) (v : Value), up σ x = some y -> zi g w y v -> zi (zfs σ s' g) w x v
 | .any, y, v, hx, _ => by simp [up] at hx
 | .opt _ _, y, v, hx, _ => by simp [up] at hx
 | .ub _ _, y, v, hx, _ => by simp [up] at hx
 | .lit u, y, v, hx, h => by simp [up] at hx; subst hx; simpa [zi] using h
 | .pin id L0, y, v, hx, h => by
  simp only [up] at hx;cases hf : find σ id with
  | none => rw [hf] at hx; cases hx
  | some q =>
   obtain ⟨o', ho'⟩ := Option.isSome_iff_exists.1 (zgf hn id (by rw [hf]; rfl)).1;cases q with
   | some old =>
    rw [hf] at hx;cases hx;simp only [zi] at h ⊢;refine ⟨by simp [zfs, hf], fun L hL => h.2 L ?_⟩;simpa [zfs, hf, ho'] using hL
   | none => rw [hf] at hx; cases hx
 | .nl, y, v, hx, h => by simp [up] at hx; subst hx; simpa [zi] using h
 | .d x, y, v, hx, h => by simp [up] at hx; subst hx; simpa [zi, zfs] using h
 | .hs id off len, y, v, hx, h => by
  simp only [up] at hx;cases hf : find σ id with
  | none => rw [hf] at hx; cases hx
  | some q =>
   obtain ⟨o', ho'⟩ := Option.isSome_iff_exists.1 (zgf hn id (by rw [hf]; rfl)).1;cases q with
   | some old =>
    rw [hf] at hx;cases hx;simp only [zi] at h ⊢;refine ⟨⟨by simp [zfs, hf], h.1.2⟩, fun L hL => h.2 L ?_⟩;simpa [zfs, hf, ho'] using hL
   | none =>
    rw [hf] at hx;simp only at hx;split at hx
    ·rename_i e;cases hx;obtain ⟨rfl, rfl⟩ := e;simp only [zi] at h ⊢;subst h;refine ⟨⟨by simp [zfs, hf], rfl⟩, fun L hL => ?_⟩;simp only [zfs, hf, ho', Option.some.injEq] at hL;subst hL;exact .inl ⟨by trivial, by trivial, by trivial, none, rfl⟩
    ·cases hx
 | .ptr id i j, y, v, hx, h => by
  simp only [up] at hx;cases hf : find σ id with
  | none => rw [hf] at hx; cases hx
  | some q =>
   obtain ⟨o', ho'⟩ := Option.isSome_iff_exists.1 (zgf hn id (by rw [hf]; rfl)).1;cases q with
   | some old =>
    rw [hf] at hx;cases hx;simp only [zi] at h ⊢;refine ⟨⟨by simp [zfs, hf], h.1.2⟩, fun L hL => h.2 L ?_⟩;simpa [zfs, hf, ho'] using hL
   | none => rw [hf] at hx; cases hx
 | .hm id, y, v, hx, h => by
  simp only [up] at hx;cases hf : find σ id with
  | none => rw [hf] at hx; cases hx
  | some q =>
   obtain ⟨o', ho'⟩ := Option.isSome_iff_exists.1 (zgf hn id (by rw [hf]; rfl)).1;cases q with
   | some old =>
    rw [hf] at hx;cases hx;simp only [zi] at h ⊢;refine ⟨⟨by simp [zfs, hf], h.1.2⟩, fun L hL => h.2 L ?_⟩;simpa [zfs, hf, ho'] using hL
   | none => rw [hf] at hx; cases hx
 | .agg l, y, v, hx, h => by
  simp only [up, Option.map_eq_some_iff] at hx;obtain ⟨l', hl', rfl⟩ := hx;simp only [zi] at h ⊢;obtain ⟨vs, hv, ho, hr⟩ := h;exact ⟨vs, hv, ho, zut hn l l' vs hl' hr⟩
 | .clo f l, y, v, hx, h => by
  simp only [up, Option.map_eq_some_iff] at hx;obtain ⟨l', hl', rfl⟩ := hx;simp only [zi] at h ⊢;obtain ⟨vs, hv, hr⟩ := h;exact ⟨vs, hv, zut hn l l' vs hl' hr⟩
 | .tup l, y, v, hx, h => by
  simp only [up, Option.map_eq_some_iff] at hx;obtain ⟨l', hl', rfl⟩ := hx;simp only [zi] at h ⊢;obtain ⟨vs, hv, hr⟩ := h;exact ⟨vs, hv, zut hn l l' vs hl' hr⟩
theorem zut {σ : List (Nat × Option Nat)} {s' : St} {g : G} {w : World} (hn : zg s' σ) : ∀ (x y : List AV) (v : List Value), upL σ x = some y -> zk g w y v -> zk (zfs σ s' g) w x v
 | [], y, v, hx, h => by simp [upL] at hx; subst hx; simpa [zk] using h
 | a :: as, y, v, hx, h => by
  simp only [upL] at hx;cases h1 : up σ a with
  | none => rw [h1] at hx; cases hx
  | some b =>
   cases h2 : upL σ as with
   | none => rw [h1, h2] at hx; cases hx
   | some bs =>
    rw [h1, h2] at hx;cases hx;simp only [zk] at h ⊢;obtain ⟨u, us, rfl, k1, k2⟩ := h;exact ⟨u, us, rfl, up_rep hn a b u h1 k1, zut hn as bs us h2 k2⟩
end

theorem upR_get {σ : List (Nat × Option Nat)} : ∀ {x y : List (List AV)}, upR σ x = some y -> x.length = y.length /\ ∀ (i : Nat) (r : List AV), x[i]? = some r -> ∃ r', y[i]? = some r' /\ upL σ r = some r'
 | [], y, h => by simp [upR] at h; subst h; exact ⟨rfl, fun i r hi => by simp at hi⟩
 | a :: as, y, h => by
  simp only [upR] at h;cases h1 : upL σ a with
  | none => rw [h1] at h; cases h
  | some b =>
   cases h2 : upR σ as with
   | none => rw [h1, h2] at h; cases h
   | some bs =>
    rw [h1, h2] at h;cases h;obtain ⟨k1, k2⟩ := upR_get h2;refine ⟨by simp [k1], fun i r hi => ?_⟩;cases i with
    | zero => simp at hi; subst hi; exact ⟨b, by simp, h1⟩
    | succ i => simp at hi; obtain ⟨r', hr', hu⟩ := k2 i r hi; exact ⟨r', by simpa using hr', hu⟩

theorem upL_length {σ : List (Nat × Option Nat)} : ∀ {x y : List AV}, upL σ x = some y -> x.length = y.length
 | [], y, h => by simp [upL] at h; subst h; rfl
 | a :: as, y, h => by
  simp only [upL] at h;cases h1 : up σ a with
  | none => rw [h1] at h; cases h
  | some b =>
   cases h2 : upL σ as with
   | none => rw [h1, h2] at h; cases h
   | some bs => rw [h1, h2] at h; cases h; simp [upL_length h2]

theorem upL_get {σ : List (Nat × Option Nat)} : ∀ {x y : List AV}, upL σ x = some y -> ∀ (i : Nat) (r : AV), x[i]? = some r -> ∃ r', y[i]? = some r' /\ up σ r = some r'
 | [], y, h => fun i r hi => by simp at hi
 | a :: as, y, h => by
  simp only [upL] at h;cases h1 : up σ a with
  | none => rw [h1] at h; cases h
  | some b =>
   cases h2 : upL σ as with
   | none => rw [h1, h2] at h; cases h
   | some bs =>
    rw [h1, h2] at h;cases h;intro i r hi;cases i with
    | zero => simp at hi; subst hi; exact ⟨b, by simp, h1⟩
    | succ i => simp at hi; obtain ⟨r', hr', hu⟩ := upL_get h2 i r hi; exact ⟨r', by simpa using hr', hu⟩

theorem upR_ents {σ : List (Nat × Option Nat)} {s' : St} {g : G} {w : World} (hn : zg s' σ) : ∀ (x y : List (List AV)) (es : List MapEntry), upR σ x = some y -> zad g w y es -> zad (zfs σ s' g) w x es
 | [], y, es, h, he => by simp [upR] at h; subst h; simpa [zad] using he
 | a :: as, y, es, h, he => by
  simp only [upR] at h;split at h
  ·rename_i x1 y1 hx1 hy1;cases h;simp only [zad] at he ⊢;obtain ⟨e, es', rfl, h1, h2⟩ := he;exact ⟨e, es', rfl, zut hn a x1 _ hx1 h1, upR_ents hn as y1 es' hy1 h2⟩
  ·cases h

theorem upT_find {σ : List (Nat × Option Nat)} {s : St} : ∀ {tm : List (Nat × AV)}, upT σ s tm -> ∀ t v, find tm t = some v -> v = .any \/ up σ v = some (s.get t)
 | [], _, t, v, h => by simp [find] at h
 | (k, x) :: r, hu, t, v, h => by
  simp only [upT] at hu;simp only [find] at h;split at h
  ·rename_i e;subst e;cases h;cases x
   case any => exact .inl rfl
   all_goals exact .inr hu.1
  ·exact upT_find hu.2 t v h

theorem upH_find {σ : List (Nat × Option Nat)} {s : St} : ∀ {hp : List (Nat × Option Ob)}, upH σ s hp -> ∀ id o', find hp id = some (some o') -> (match find σ id with
   | some (some old) => ∃ o, s.obj old = some o /\ o.elem = o'.elem /\ o.m = o'.m /\ upR σ o'.rows = some o.rows
   | some none => o'.rows = [] /\ 0 < o'.m
   | none => False)
 | [], _, id, o', h => by simp [find] at h
 | (k, x) :: r, hu, id, o', h => by
  simp only [find] at h;split at h
  ·rename_i e;subst e;cases h;simp only [upH] at hu;exact hu.1
  ·cases x <;> simp only [upH] at hu
   ·exact upH_find hu id o' h
   ·exact upH_find hu.2 id o' h

theorem zh {s s' : St} (σ : List (Nat × Option Nat)) (hn : s'.n = s.n) (htm : upT σ s s'.tm) (hhp : upH σ s s'.hp) (hnames : zg s' σ) (hinj : (zq σ).Nodup) : zei s s' := by
 intro g a w h;have hloc : ∀ id L, (zfs σ s' g).loc id = some L -> (∃ old, find σ id = some (some old) /\ g.loc old = some L) \/ (L.virt = true /\ find σ id = some none) := by
  intro id L hL;simp only [zfs] at hL;split at hL
  ·rename_i old o h1 h2; exact .inl ⟨old, h1, hL⟩
  ·rename_i o h1 h2; cases hL; exact .inr ⟨rfl, h1⟩
  ·cases hL
 refine ⟨zfs σ s' g, ⟨h.defers, by rw [h.size, hn], fun t => ?_, fun id hu => (zgf hnames id hu).2, ⟨?_, ?_, ?_, ?_, h.heap.ro⟩⟩, ⟨rfl, ⟨rfl, .inr (Nat.le_refl _)⟩, rfl, Nat.le_refl _, fun _ _ _ => rfl, ?_, fun _ hb => hb, fun _ hb => .inl hb⟩⟩
 ·cases hf : find s'.tm t with
  | none => simp [St.get, hf, zi]
  | some v =>
   have : s'.get t = v := by simp [St.get, hf]
   rw [this];rcases upT_find htm t v hf with rfl | hu
   ·simp [zi]
   ·exact up_rep hnames v _ _ hu (h.tmp t)
 ·intro id o' ho';have hf : find s'.hp id = some (some o') := by
   unfold St.obj at ho';cases hq : find s'.hp id with
   | none => rw [hq] at ho'; cases ho'
   | some q => rw [hq] at ho'; simp at ho'; rw [ho']
  have hm := upH_find hhp id o' hf;cases hσ : find σ id with
  | none => rw [hσ] at hm; exact hm.elim
  | some q =>
   cases q with
   | none =>
    rw [hσ] at hm;refine ⟨⟨0, o'.m, 0, true, false⟩, by simp [zfs, hσ, ho'], rfl, hm.2, by simp [hm.1], fun _ => hm.1, by simp, by simp⟩
   | some old =>
    rw [hσ] at hm;obtain ⟨o, h1, h2, h3, h4⟩ := hm;obtain ⟨L, hL, hok⟩ := h.heap.own old o h1;obtain ⟨k1, k2⟩ := upR_get h4;refine ⟨L, by simp [zfs, hσ, ho', hL], by rw [hok.m, h3], hok.pos, by rw [k1]; exact hok.len, fun hv => ?_, fun hv => ?_, fun hv => ⟨(hok.ents hv).1, (hok.ents hv).2.imp fun es he => he.imp fun clock he => ⟨he.1, he.2.1, upR_ents hnames _ _ _ h4 he.2.2⟩⟩⟩
    ·have := hok.virt hv;rw [this] at k1;exact List.eq_nil_of_length_eq_zero (by simpa using k1)
    ·obtain ⟨cur, c1, c2, c3, c5⟩ := hok.cells hv;refine ⟨cur, by rw [<- h2]; exact c1, c2, c3, fun i row hi => ?_⟩;obtain ⟨r', hr', hu⟩ := k2 i row hi;obtain ⟨d1, d2⟩ := c5 i r' hr';refine ⟨by rw [upL_length hu]; exact d1, fun j av hj => ?_⟩;obtain ⟨av', hav', huv⟩ := upL_get hu j av hj;obtain ⟨v, hv', ho, hr⟩ := d2 j av' hav';exact ⟨v, hv', ho, up_rep hnames av av' v huv hr⟩
 ·intro id hid;simp only [zfs, hid];cases find σ id with
  | none => rfl
  | some q => cases q <;> rfl
 ·intro id L hL;rcases hloc id L hL with ⟨old, h1, h2⟩ | ⟨h1, h2⟩
  ·exact ⟨by simp [zfs, h1], (h.heap.live old L h2).2⟩
  ·exact ⟨by simp [zfs, h2], fun hv => by rw [h1] at hv; cases hv⟩
 ·intro x y L L' hx hy hv hv' hb;rcases hloc x L hx with ⟨o1, a1, b1⟩ | ⟨a1, _⟩
  ·rcases hloc y L' hy with ⟨o2, a2, b2⟩ | ⟨a2, _⟩
   ·have := h.heap.inj o1 o2 L L' b1 b2 hv hv' hb;subst this;exact find_inj hinj a1 a2
   ·rw [a2] at hv'; cases hv'
  ·rw [a1] at hv; cases hv
 ·rintro b ⟨x, L, hx, hv, rfl⟩;rcases hloc x L hx with ⟨o1, a1, b1⟩ | ⟨a1, _⟩
  ·exact .inr ⟨o1, L, b1, hv, rfl⟩
  ·rw [a1] at hv; cases hv


theorem wrap_i64 {n : Int} (h1 : -9223372036854775808 <= n) (h2 : n <= 9223372036854775807) : IntKind.i64.wrap n = n := by
 rw [IntKind.wrap_i64]; omega

theorem dr_length (l : List (List D)) : (dr l).length = l.length := by simp [dr]
theorem dr_nil : dr [] = [] := rfl
theorem dr_cons (r : List D) (l : List (List D)) : dr (r :: l) = r.map AV.d :: dr l := rfl
theorem dr_append (a b : List (List D)) : dr (a ++ b) = dr a ++ dr b := by simp [dr]
theorem dr_at (l : List (List D)) (i : Nat) : (dr l)[i]? = (l[i]?).map fun r => r.map AV.d := by simp [dr]
theorem dr_take (l : List (List D)) (n : Nat) : (dr l).take n = dr (l.take n) := by simp [dr, List.map_take]
theorem dr_drop (l : List (List D)) (n : Nat) : (dr l).drop n = dr (l.drop n) := by simp [dr, List.map_drop]
theorem dr_set (l : List (List D)) (n : Nat) (r : List D) : dr (l.set n r) = (dr l).set n (r.map AV.d) := by simp [dr, List.map_set]

theorem upR_app (σ : List (Nat × Option Nat)) (b : List (List AV)) : ∀ a : List (List D), upR σ (dr a ++ b) = (upR σ b).map (dr a ++ ·)
 | [] => by show upR σ b = _; cases upR σ b <;> rfl
 | r :: a => by
  show upR σ (r.map AV.d :: (dr a ++ b)) = _
  simp only [upR, upL_map, upR_app σ b a];cases upR σ b <;> rfl
def upRS (σ : List (Nat × Option Nat)) (l : List (List D)) (k : Nat) (r : List AV) : Option (List (List AV)) := upR σ ((dr l).set k r)
theorem upR_set1 {σ : List (Nat × Option Nat)} {r r' : List AV} (h : upL σ r = some r') : ∀ (l : List (List D)) (k : Nat), upR σ ((dr l).set k r) = some ((dr l).set k r')
 | [], k => rfl
 | x :: l, 0 => by
  show upR σ (r :: dr l) = some (r' :: dr l)
  simp only [upR, h, upR_dr]
 | x :: l, k + 1 => by
  show upR σ (x.map AV.d :: (dr l).set k r) = some (x.map AV.d :: (dr l).set k r')
  simp only [upR, upL_map, upR_set1 h l k]
theorem upR_set (σ : List (Nat × Option Nat)) (r : List AV) (l : List (List D)) (k : Nat) : upR σ ((dr l).set k r) = match upL σ r with | some r' => some ((dr l).set k r') | none => upRS σ l k r := by
 cases h : upL σ r with
 | none => rfl
 | some r' => exact upR_set1 h l k
theorem rowsD_app (b : List (List AV)) : ∀ a : List (List D), zdm (dr a ++ b) = (zdm b).map (a ++ ·)
 | [] => by show zdm b = _; cases zdm b <;> rfl
 | r :: a => by
  show zdm (r.map AV.d :: (dr a ++ b)) = _
  simp only [zdm, allD_map, rowsD_app b a];cases zdm b <;> rfl

section
variable {K : St -> Prop} {Q : Exit -> St -> Prop} {s : St} {id i : Nat}
theorem sq_n (h : K s) : seqQ K Q .normal s := h
theorem sq_r (h : Q .ret s) : seqQ K Q .ret s := h
theorem sq_x (h : Q (.exit i) s) : seqQ K Q (.exit i) s := h
theorem bq_n (h : Q .normal s) : zhw id Q .normal s := h
theorem bq_r (h : Q .ret s) : zhw id Q .ret s := h
theorem bq_x (h : Q .normal s) : zhw id Q (.exit id) s := by simp only [zhw, if_true]; exact h
theorem bq_y (hn : Nat.beq i id = false) (h : Q (.exit i) s) : zhw id Q (.exit i) s := by
 have : i ≠ id := fun e => by rw [e, Nat.beq_refl] at hn; cases hn
 simp only [zhw, if_neg this]; exact h
theorem pq_n (h : Q .normal s) : zqx Q .normal s := h
theorem pq_r (h : Q .ret s) : zqx Q .ret s := h
theorem pq_x (h : Q (.exit i) s) : zqx Q (.exit i) s := h

theorem awp_ub {P : Program} {c : Code} (t : Nat) {p q : Bool} (ht : s.get t = .ub p q) (h : ∀ b, (b = true -> p = true) -> (b = false -> q = true) -> AWp P c Q { s with tm := (t, .d (.bool b)) :: s.tm }) : AWp P c Q s := by
 intro g a w hr;have hv := hr.tmp t;rw [ht] at hv;simp only [zi] at hv;obtain ⟨b, hb, h1, h2⟩ := hv;refine h b h1 h2 g a w ⟨hr.defers, hr.size, fun k => ?_, hr.used, hr.heap⟩;unfold St.get;simp only [find];split
 ·rename_i e;subst e;simp only [Option.getD_some, zi, zv];exact hb
 ·exact hr.tmp k

end

class Nav (X : Prop) (Y : outParam Prop) : Prop where
 imp : Y -> X
class Fls (b : Bool) : Prop where
 h : b = false
instance : Fls false := ⟨rfl⟩
section
variable {P : Program} {Q : Exit -> St -> Prop} {K : St -> Prop} {s : St} {x y c : Code} {id i : Nat} {X Y : Prop}
instance (priority := 10) nav_id : Nav X X := ⟨fun h => h⟩
instance nav_seq [h : Nav (AWp P x (seqQ (fun s' => AWp P y Q s') Q) s) Y] : Nav (AWp P (.seq x y) Q s) Y := ⟨fun k => awp_seq (h.imp k)⟩
instance nav_block [h : Nav (AWp P c (zhw id Q) s) Y] : Nav (AWp P (.block id c) Q s) Y := ⟨fun k => awp_block (h.imp k)⟩
instance nav_scope [h : Nav (AWp P c (zqx Q) s) Y] : Nav (AWp P (.scope c) Q s) Y := ⟨fun k => awp_scope (h.imp k)⟩
instance nav_skip [h : Nav (Q .normal s) Y] : Nav (AWp P .skip Q s) Y := ⟨fun k => awp_skip (h.imp k)⟩
instance nav_exit [h : Nav (Q (.exit id) s) Y] : Nav (AWp P (.exit id) Q s) Y := ⟨fun k => awp_exit (h.imp k)⟩
instance nav_ret [h : Nav (Q .ret s) Y] : Nav (AWp P .ret Q s) Y := ⟨fun k => awp_ret (h.imp k)⟩
instance nav_sn [h : Nav (K s) Y] : Nav (seqQ K Q .normal s) Y := ⟨fun k => sq_n (h.imp k)⟩
instance nav_sr [h : Nav (Q .ret s) Y] : Nav (seqQ K Q .ret s) Y := ⟨fun k => sq_r (h.imp k)⟩
instance nav_sx [h : Nav (Q (.exit i) s) Y] : Nav (seqQ K Q (.exit i) s) Y := ⟨fun k => sq_x (h.imp k)⟩
instance nav_bn [h : Nav (Q .normal s) Y] : Nav (zhw id Q .normal s) Y := ⟨fun k => bq_n (h.imp k)⟩
instance nav_br [h : Nav (Q .ret s) Y] : Nav (zhw id Q .ret s) Y := ⟨fun k => bq_r (h.imp k)⟩
instance nav_bx [h : Nav (Q .normal s) Y] : Nav (zhw id Q (.exit id) s) Y := ⟨fun k => bq_x (h.imp k)⟩
instance (priority := 500) nav_by [n : Fls (Nat.beq i id)] [h : Nav (Q (.exit i) s) Y] : Nav (zhw id Q (.exit i) s) Y := ⟨fun k => bq_y n.h (h.imp k)⟩
instance nav_pn [h : Nav (Q .normal s) Y] : Nav (zqx Q .normal s) Y := ⟨fun k => pq_n (h.imp k)⟩
instance nav_pr [h : Nav (Q .ret s) Y] : Nav (zqx Q .ret s) Y := ⟨fun k => pq_r (h.imp k)⟩
instance nav_px [h : Nav (Q (.exit i) s) Y] : Nav (zqx Q (.exit i) s) Y := ⟨fun k => pq_x (h.imp k)⟩
end

theorem ob {p q : Prop} (hq : q) (hp : p := by clear hK; intros; first | omega | (simp_all; done) | (simp_all <;> omega)) : p /\ q := ⟨hp, hq⟩
theorem nx {K Q : St -> Prop} {s : St} {Y : Prop} [h : Nav (Q s) Y] (hK : ∀ s', Q s' -> K s') (k : Y) : K s := hK s (h.imp k)
theorem rx {P : Program} {Q : Exit -> St -> Prop} {s : St} {ty : TypeId -> Option TI} (hc : Ctx P ty) (orc : List (Nat × Res)) {id : Nat} {l : List Oper} {s1 : St} {Y : Prop} (h : ∀ K : St -> Prop, K s1 -> wpT ty P orc (l.map (·.dst)) s.nxt 0 l { s with nxt := s.nxt + l.length } K) [n : Nav (Q .normal s1) Y] (k : Y) : AWp P (.region id l.toArray false) Q s := zd hc orc fun K hK => h K (hK s1 (n.imp k))
theorem rg {P : Program} {Q : Exit -> St -> Prop} {s : St} {ty : TypeId -> Option TI} (hc : Ctx P ty) {id : Nat} {l : List Oper} {s1 : St} {Y : Prop} [n : Nav (Q .normal s1) Y] (k : Y) (h : ∀ K : St -> Prop, K s1 -> wpT ty P [] (l.map (·.dst)) s.nxt 0 l { s with nxt := s.nxt + l.length } K := by intro K hK; simp [push_cast]; (repeat refine ob ?_); exact hK) : AWp P (.region id l.toArray false) Q s := rx hc [] h k
theorem awp_cn {P : Program} {Q : Exit -> St -> Prop} {s : St} {c : Operand} {x y : Code} {X Y : Prop} (b : Bool) [h1 : Nav (AWp P x Q s) X] [h2 : Nav (AWp P y Q s) Y] (hc : s.eval c = .d (.bool b)) (ht : b = true -> X) (hf : b = false -> Y) : AWp P (.cond c x y) Q s := ze hc (fun e => h1.imp (ht e)) (fun e => h2.imp (hf e))
theorem awp_cd {P : Program} {Q : Exit -> St -> Prop} {s : St} {c : Operand} {x y : Code} {X Y : Prop} (b : Bool) [h1 : Nav (AWp P x Q s) X] [h2 : Nav (AWp P y Q s) Y] (ht : b = true -> X) (hf : b = false -> Y) (hc : s.eval c = .d (.bool b) := by simp [push_cast]) : AWp P (.cond c x y) Q s := awp_cn b hc ht hf
theorem wk {s s' : St} (σ : List (Nat × Option Nat)) (htm : upT σ s s'.tm := by simp [upT, up, upL, push_cast]) (hhp : upH σ s s'.hp := by simp [upH, upR, upL, up, push_cast]) (hnames : zg s' σ := by simp [zg, push_cast]) (hinj : (zq σ).Nodup := by simp [zq]) (hn : s'.n = s.n := by rfl) : zei s s' := zh σ hn htm hhp hnames hinj
theorem wq {s s' : St} (σ : List (Nat × Option Nat)) (h : upT σ s s'.tm /\ upH σ s s'.hp) (hnames : zg s' σ := by simp [zg, push_cast]) (hinj : (zq σ).Nodup := by simp [zq]) (hn : s'.n = s.n := by rfl) : zei s s' := zh σ hn h.1 h.2 hnames hinj
theorem lB {n m : Nat} (h : n.ble m = true) : n <= m := Nat.le_of_ble_eq_true h
theorem pw {P : Program} {ty : TypeId -> Option TI} (hc : Ctx P ty) {f : FuncId} {fn : Func} {c : Code} {ds : List D} {r : Res} {n : Nat} {Y : Prop} (hf : P.funcs[f]? = some fn) (hn : fn.ntmps = n) (k : Y) [v : Nav (AWp P c (retQ ty fn.results.toList r) (start n ds)) Y] (hb : fn.body = some c := by rfl) (hm : (fn.name == "runtime.NumGoroutine") = false := by rfl) (hl : ds.length <= n := by exact lB rfl) : PC P f ds r := zn hc hf hb hm (by rw [hn]; exact hl) (by rw [hn]; exact v.imp k)
theorem wI (n : Int) (h1 : -9223372036854775808 <= n := by omega) (h2 : n <= 9223372036854775807 := by omega) : IntKind.i64.wrap n = n := wrap_i64 h1 h2
end Go.Abs
