/-
  Texts of this seat put together: Abs1, Abs2, Abs3, Abs4, AbsM, AbsX.
-/
import Derived.WalkKit
import Derived.ProofKit
import Derived.KernelRfl
import Derived.MapKept
import Derived.Maps.AppendAt
import Derived.Laws.OwnMore
import Derived.Laws.StructEq
import Derived.Carry
import Derived.Maps.Own
set_option linter.unusedVariables false
set_option linter.unusedSectionVars false
set_option linter.unusedSimpArgs false
namespace Go.Abs

theorem ask_drawn {α : Type} : ∀ (c : Ask α) (w : World), w.drawn <= (w.ask c).2.drawn
 | .done a, w => Nat.le_refl _
 | .ask what range k, w => by
  unfold World.ask;simp only;split
  ·exact ask_drawn _ w
  ·have := ask_drawn (k ((Question.extern what range).cut (w.tape w.drawn (Question.extern what range)))) { w with drawn := w.drawn + 1 };exact Nat.le_trans (Nat.le_succ _) this
theorem sys_drawn (w : World) (c : Sys) : w.drawn <= (w.sys c).2.drawn := by
 have h := ask_drawn (Kernel.perform c w.os) w;unfold World.sys;split
 ·exact Nat.le_refl _
 ·rename_i heq;rw [heq] at h;exact h
theorem viewStore_drawn {p : Program} {w w' : World} {at_ : Addr} {u : TypeId} {k : Addr} {v : Value} {atomic : Bool} {l : List Addr} (h : w.viewStore p at_ u k v atomic = .ok (w', l)) : w'.drawn = w.drawn := by
 unfold World.viewStore at h;simp only [bind, Except.bind, throwThe, MonadExcept.throw, MonadExceptOf.throw, pure, Except.pure] at h
 repeat' (split at h)
 all_goals first | (cases h; done) | skip
 all_goals (cases h; rfl)
theorem farStore_drawn {p : Program} {w w' : World} {a : Addr} {v : Value} {atomic : Bool} {l : List Addr} (h : w.farStore p a v atomic = .ok (w', l)) : w'.drawn = w.drawn := by
 unfold World.farStore at h;split at h
 ·split at h
  ·rename_i heq;cases h;exact viewStore_drawn heq
  ·cases h
 ·cases h
theorem zbu {α : Type} {P : Program} : ∀ (s : Sem α) (w w' : World) (v : α), s.run P w = .ok v w' -> w.drawn <= w'.drawn
 | .pure a, w, w', v, h => by simp only [Sem.run] at h; cases h; exact Nat.le_refl _
 | .load m a k, w, w', v, h => by
  simp only [Sem.run] at h;split at h
  ·exact zbu _ _ _ _ h
  ·split at h
   ·exact zbu _ _ _ _ h
   ·cases h
 | .store m a x k, w, w', v, h => by
  have key : (match w.cell? a with
    | some _ => if w.frozen? a then .halt (.unsupported (.unsafePointer "a write to bytes that a string shares")) w else k.run P (w.setCell a x)
    | none => match w.farStore P a x (m == .atomic) with
     | .ok (w, _) => k.run P w
     | .error h => .halt h w) = Result.ok v w' -> w.drawn <= w'.drawn := by
   intro h;split at h
   ·split at h
    ·cases h
    ·exact zbu k (w.setCell a x) _ _ h
   ·split at h
    ·rename_i heq;rw [<- farStore_drawn heq];exact zbu k _ _ _ h
    ·cases h
  cases x
  case agg => simp only [Sem.run] at h; cases h
  case tuple => simp only [Sem.run] at h; cases h
  all_goals (simp only [Sem.run] at h; exact key h)
 | .new o k, w, w', v, h => by simp only [Sem.run] at h; exact zbu (k _) { w with heap := w.heap.push o } _ _ h
 | .shape r k, w, w', v, h => by simp only [Sem.run] at h; exact zbu _ _ _ _ h
 | .freeze a n k, w, w', v, h => by
  simp only [Sem.run] at h;have := zbu k (w.freeze a n) _ _ h
  rwa [show (w.freeze a n).drawn = w.drawn from by unfold World.freeze; split <;> rfl] at this
 | .frozen a k, w, w', v, h => by simp only [Sem.run] at h; exact zbu _ _ _ _ h
 | .getObj r k, w, w', v, h => by
  simp only [Sem.run] at h;split at h
  ·cases h
  ·exact zbu _ _ _ _ h
  ·cases h
 | .setObj r o k, w, w', v, h => by
  simp only [Sem.run] at h;split at h
  ·cases h
  ·exact zbu k { w with heap := w.heap.setIfInBounds r o } _ _ h
  ·cases h
 | .choose q k, w, w', v, h => by
  simp only [Sem.run] at h;split at h
  ·exact zbu _ _ _ _ h
  ·exact Nat.le_trans (Nat.le_succ _) (zbu (k (q.cut (w.tape w.drawn q))) { w with drawn := w.drawn + 1 } _ _ h)
 | .sys c k, w, w', v, h => by
  simp only [Sem.run] at h;exact Nat.le_trans (sys_drawn w c) (zbu (k (w.sys c).1) (w.sys c).2 _ _ h)
 | .program k, w, w', v, h => by simp only [Sem.run] at h; exact zbu _ _ _ _ h
 | .mark m k, w, w', v, h => by simp only [Sem.run] at h; exact zbu k _ _ _ h
 | .halt x, w, w', v, h => by simp only [Sem.run] at h; cases h

inductive D where
 | bool (b : Bool)
 | int (k : IntKind) (n : Int)
 | str (s : ByteArray)
 | sl (rows : List (List D))
 | agg (cs : List D)
 | tup (cs : List D)
 | rp (cs : List D)
 | fn (f : Fn) (caps : List D)
 | mp (rows : List (List D))
 | np

instance : Inhabited D := ⟨.bool false⟩

def zch (w : World) (b o : Nat) (vs : List Value) : Prop := ∀ j v, vs[j]? = some v -> w.cell? ⟨b, o + j, none⟩ = some v /\ v.oneCell' = true

def zbl (vs : List Value) : Prop := ∀ v ∈ vs, v.oneCell' = true

mutual
def zr (ro : Nat -> Prop) (w : World) : D -> Value -> Prop
 | .bool b, v => v = .bool b
 | .int k n, v => v = .int k n
 | .str s, v => v = .string s
 | .sl rows, v => ∃ a cap, v = .slice a rows.length cap /\ rows.length <= cap /\ cap <= maxLen /\ (rows = [] \/ ∃ b o m, a = some ⟨b, o, none⟩ /\ ro b /\ zau ro w b m o rows)
 | .agg cs, v => ∃ vs : List Value, v = .agg vs.toArray /\ zbl vs /\ zq ro w cs vs
 | .tup cs, v => ∃ vs : List Value, v = .tuple vs.toArray /\ zq ro w cs vs
 | .rp cs, v => ∃ b o vs, v = .pointer (some ⟨b, o, none⟩) /\ ro b /\ zq ro w cs vs /\ zch w b o vs
 | .fn f caps, v => ∃ vs : List Value, v = .func f #[] vs.toArray /\ zq ro w caps vs
 | .mp rows, v => ∃ b es clock, v = .map (some b) /\ ro b /\ w.heap[b]? = some (.map es clock) /\ zdz ro w rows es.toList
 | .np, v => v = .pointer none
def zdz (ro : Nat -> Prop) (w : World) : List (List D) -> List MapEntry -> Prop
 | [], es => es = []
 | r :: rs, es => ∃ e es', es = e :: es' /\ zq ro w r [e.key, e.val] /\ zdz ro w rs es'
def zq (ro : Nat -> Prop) (w : World) : List D -> List Value -> Prop
 | [], vs => vs = []
 | d :: ds, vs => ∃ v vs', vs = v :: vs' /\ zr ro w d v /\ zq ro w ds vs'
def zau (ro : Nat -> Prop) (w : World) (b m : Nat) : Nat -> List (List D) -> Prop
 | _, [] => True
 | o, r :: rs => (∃ vs : List Value, vs.length = m /\ zq ro w r vs /\ zch w b o vs) /\ zau ro w b m (o + m) rs
end

theorem zch.mono {w w' : World} {b o : Nat} {vs : List Value} (h : zch w b o vs) (hb : w'.heap[b]? = w.heap[b]?) : zch w' b o vs := by
 intro j v hj;obtain ⟨h1, h2⟩ := h j v hj;exact ⟨by rw [<- h1]; exact World.cell?_of_block (a := ⟨b, o + j, none⟩) hb, h2⟩

def Fut (ro : Nat -> Prop) (w : World) (ro' : Nat -> Prop) (w' : World) : Prop := ∀ b, ro b -> ro' b /\ w'.heap[b]? = w.heap[b]?

mutual
theorem zr.mono {ro ro' : Nat -> Prop} {w w' : World} (hf : Fut ro w ro' w') : ∀ (d : D) (v : Value), zr ro w d v -> zr ro' w' d v
 | .bool b, v, h => by simpa [zr] using h
 | .np, v, h => by simpa [zr] using h
 | .int k n, v, h => by simpa [zr] using h
 | .str s, v, h => by simpa [zr] using h
 | .sl rows, v, h => by
  simp only [zr] at h ⊢;obtain ⟨a, cap, hv, hc, hm, hr⟩ := h;refine ⟨a, cap, hv, hc, hm, ?_⟩;rcases hr with hr | ⟨b, o, m, ha, hb, hr⟩
  ·exact .inl hr
  ·exact .inr ⟨b, o, m, ha, (hf b hb).1, zau.mono hf (hf b hb).2 o rows hr⟩
 | .agg cs, v, h => by
  simp only [zr] at h ⊢;obtain ⟨vs, hv, ho, hr⟩ := h;exact ⟨vs, hv, ho, zq.mono hf cs vs hr⟩
 | .tup cs, v, h => by
  simp only [zr] at h ⊢;obtain ⟨vs, hv, hr⟩ := h;exact ⟨vs, hv, zq.mono hf cs vs hr⟩
 | .rp cs, v, h => by
  simp only [zr] at h ⊢;obtain ⟨b, o, vs, hv, hb, hr, hc⟩ := h;exact ⟨b, o, vs, hv, (hf b hb).1, zq.mono hf cs vs hr, hc.mono (hf b hb).2⟩
 | .fn f caps, v, h => by
  simp only [zr] at h ⊢;obtain ⟨vs, hv, hr⟩ := h;exact ⟨vs, hv, zq.mono hf caps vs hr⟩
 | .mp rows, v, h => by
  simp only [zr] at h ⊢;obtain ⟨b, es, clock, hv, hb, he, hr⟩ := h;exact ⟨b, es, clock, hv, (hf b hb).1, by rw [(hf b hb).2]; exact he, zdz.mono hf rows es.toList hr⟩
theorem zdz.mono {ro ro' : Nat -> Prop} {w w' : World} (hf : Fut ro w ro' w') : ∀ (rows : List (List D)) (es : List MapEntry), zdz ro w rows es -> zdz ro' w' rows es
 | [], es, h => by simpa [zdz] using h
 | r :: rs, es, h => by
  simp only [zdz] at h ⊢;obtain ⟨e, es', rfl, h1, h2⟩ := h;exact ⟨e, es', rfl, zq.mono hf r _ h1, zdz.mono hf rs es' h2⟩
theorem zq.mono {ro ro' : Nat -> Prop} {w w' : World} (hf : Fut ro w ro' w') : ∀ (ds : List D) (vs : List Value), zq ro w ds vs -> zq ro' w' ds vs
 | [], vs, h => by simpa [zq] using h
 | d :: ds, vs, h => by
  simp only [zq] at h ⊢;obtain ⟨v, vs', rfl, h1, h2⟩ := h;exact ⟨v, vs', rfl, zr.mono hf d v h1, zq.mono hf ds vs' h2⟩
theorem zau.mono {ro ro' : Nat -> Prop} {w w' : World} (hf : Fut ro w ro' w') {b m : Nat} (hb : w'.heap[b]? = w.heap[b]?) : ∀ (o : Nat) (rows : List (List D)), zau ro w b m o rows -> zau ro' w' b m o rows
 | _, [], _ => by simp [zau]
 | o, r :: rs, h => by
  simp only [zau] at h ⊢;obtain ⟨⟨vs, hl, h1, h2⟩, h3⟩ := h;exact ⟨⟨vs, hl, zq.mono hf r vs h1, h2.mono hb⟩, zau.mono hf hb (o + m) rs h3⟩
end

theorem zq.length {ro : Nat -> Prop} {w : World} : ∀ {ds : List D} {vs : List Value}, zq ro w ds vs -> vs.length = ds.length
 | [], vs, h => by simp only [zq] at h; simp [h]
 | d :: ds, vs, h => by
  simp only [zq] at h;obtain ⟨v, vs', rfl, _, h2⟩ := h;simp [zq.length h2]

theorem zq.get {ro : Nat -> Prop} {w : World} : ∀ {ds : List D} {vs : List Value}, zq ro w ds vs -> ∀ (j : Nat) (d : D), ds[j]? = some d -> ∃ v, vs[j]? = some v /\ zr ro w d v
 | [], _, _, j, d, hj => by simp at hj
 | d0 :: ds, vs, h, j, d, hj => by
  simp only [zq] at h;obtain ⟨v, vs', rfl, h1, h2⟩ := h;cases j with
  | zero => simp at hj; subst hj; exact ⟨v, by simp, h1⟩
  | succ j => simp at hj; obtain ⟨u, hu, hr⟩ := h2.get j d hj; exact ⟨u, by simpa using hu, hr⟩

theorem zq.drop {ro : Nat -> Prop} {w : World} : ∀ {ds : List D} {vs : List Value} (k : Nat), zq ro w ds vs -> zq ro w (ds.drop k) (vs.drop k)
 | ds, vs, 0, h => by simpa using h
 | [], vs, k + 1, h => by simp only [zq] at h; subst h; simp [zq]
 | d :: ds, vs, k + 1, h => by
  simp only [zq] at h;obtain ⟨v, vs', rfl, h1, h2⟩ := h;simpa using h2.drop k

theorem zq.take {ro : Nat -> Prop} {w : World} : ∀ {ds : List D} {vs : List Value} (k : Nat), zq ro w ds vs -> zq ro w (ds.take k) (vs.take k)
 | ds, vs, 0, h => by simp [zq]
 | [], vs, k + 1, h => by simp only [zq] at h; subst h; simp [zq]
 | d :: ds, vs, k + 1, h => by
  simp only [zq] at h;obtain ⟨v, vs', rfl, h1, h2⟩ := h;simp only [List.take_succ_cons, zq];exact ⟨v, vs'.take k, rfl, h1, h2.take k⟩

theorem zq.append {ro : Nat -> Prop} {w : World} : ∀ {ds es : List D} {vs us : List Value}, zq ro w ds vs -> zq ro w es us -> zq ro w (ds ++ es) (vs ++ us)
 | [], es, vs, us, h, h' => by simp only [zq] at h; subst h; simpa using h'
 | d :: ds, es, vs, us, h, h' => by
  simp only [zq] at h;obtain ⟨v, vs', rfl, h1, h2⟩ := h;simp only [List.cons_append, zq];exact ⟨v, vs' ++ us, rfl, h1, h2.append h'⟩

theorem zq.of_get {ro : Nat -> Prop} {w : World} : ∀ {ds : List D} {vs : List Value}, vs.length = ds.length -> (∀ (j : Nat) (d : D), ds[j]? = some d -> ∃ v, vs[j]? = some v /\ zr ro w d v) -> zq ro w ds vs
 | [], vs, hl, _ => by simpa [zq] using hl
 | d :: ds, [], hl, _ => by simp at hl
 | d :: ds, v :: vs, hl, h => by
  simp only [zq];obtain ⟨u, hu, hr⟩ := h 0 d (by simp);simp at hu;subst hu;exact ⟨v, vs, rfl, hr, zq.of_get (by simpa using hl) (fun j d hj => by simpa using h (j + 1) d (by simpa using hj))⟩

theorem zch.drop {w : World} {b o : Nat} {vs : List Value} (h : zch w b o vs) (k : Nat) : zch w b (o + k) (vs.drop k) := by
 intro j v hj;rw [List.getElem?_drop] at hj;have := h (k + j) v hj
 rwa [<- Nat.add_assoc] at this

theorem zch.take {w : World} {b o : Nat} {vs : List Value} (h : zch w b o vs) (k : Nat) : zch w b o (vs.take k) := by
 intro j v hj;rw [List.getElem?_take] at hj;split at hj
 ·exact h j v hj
 ·cases hj

theorem zau.get {ro : Nat -> Prop} {w : World} {b m : Nat} : ∀ {o : Nat} {rows : List (List D)}, zau ro w b m o rows -> ∀ (i : Nat) (r : List D), rows[i]? = some r ->
  ∃ vs : List Value, vs.length = m /\ zq ro w r vs /\ zch w b (o + i * m) vs
 | _, [], _, i, r, hi => by simp at hi
 | o, r0 :: rs, h, i, r, hi => by
  simp only [zau] at h;cases i with
  | zero => simp at hi; subst hi; simpa using h.1
  | succ i =>
   simp at hi;have := h.2.get i r hi
   rwa [show o + m + i * m = o + (i + 1) * m by rw [Nat.add_mul]; omega] at this

theorem zau.of_get {ro : Nat -> Prop} {w : World} {b m : Nat} : ∀ {o : Nat} {rows : List (List D)}, (∀ (i : Nat) (r : List D), rows[i]? = some r ->
  ∃ vs : List Value, vs.length = m /\ zq ro w r vs /\ zch w b (o + i * m) vs) -> zau ro w b m o rows
 | _, [], _ => by simp [zau]
 | o, r0 :: rs, h => by
  simp only [zau];refine ⟨by simpa using h 0 r0 (by simp), zau.of_get fun i r hi => ?_⟩;have := h (i + 1) r (by simpa using hi)
  rwa [show o + m + i * m = o + (i + 1) * m by rw [Nat.add_mul]; omega]

theorem zau.drop {ro : Nat -> Prop} {w : World} {b m o : Nat} {rows : List (List D)} (h : zau ro w b m o rows) (k : Nat) : zau ro w b m (o + k * m) (rows.drop k) :=
 zau.of_get fun i r hi => by
  rw [List.getElem?_drop] at hi;have := h.get (k + i) r hi
  rwa [Nat.add_mul, <- Nat.add_assoc] at this

theorem zau.take {ro : Nat -> Prop} {w : World} {b m o : Nat} {rows : List (List D)} (h : zau ro w b m o rows) (k : Nat) : zau ro w b m o (rows.take k) :=
 zau.of_get fun i r hi => by
  rw [List.getElem?_take] at hi;split at hi
  ·exact h.get i r hi
  ·cases hi

def D.flat : D -> Bool
 | .bool _ | .int _ _ | .str _ => true
 | .agg cs => cs.all fun | .bool _ | .int _ _ | .str _ => true | _ => false
 | _ => false

def D.cell : D -> Bool
 | .agg _ | .tup _ => false
 | _ => true

theorem zr.cell {ro : Nat -> Prop} {w : World} {d : D} {v : Value} (h : zr ro w d v) (hc : d.cell = true) : v.oneCell' = true := by
 cases d <;> simp only [zr] at h
 case bool => subst h; rfl
 case int => subst h; rfl
 case str => subst h; rfl
 case np => subst h; rfl
 case sl => obtain ⟨a, cap, rfl, _⟩ := h; rfl
 case agg => simp [D.cell] at hc
 case tup => simp [D.cell] at hc
 case rp => obtain ⟨b, o, vs, rfl, _⟩ := h; rfl
 case fn => obtain ⟨vs, rfl, _⟩ := h; rfl
 case mp => obtain ⟨b, es, clock, rfl, _⟩ := h; rfl

structure Loc where
 blk : Nat
 m : Nat
 cap : Nat
 virt : Bool
 map : Bool

inductive AV where
 | any
 | nl
 | d (x : D)
 | hs (id off len : Nat)
 | ptr (id i j : Nat)
 | agg (l : List AV)
 | clo (f : Fn) (caps : List AV)
 | tup (l : List AV)
 | opt (b : Bool) (x : AV)
 | ub (p q : Bool)
 | pin (id : Nat) (L : Loc)
 | hm (id : Nat)
 | lit (v : Value)

instance : Inhabited AV := ⟨.any⟩

structure G where
 ro : Nat -> Prop
 loc : Nat -> Option Loc
 used : Nat -> Prop

def mkFn (f : Fn) : List Value -> Value
 | .tuple fs :: cs => .func f fs cs.toArray
 | vs => .func f #[] vs.toArray
theorem mkFn_func (f : Fn) (vs : List Value) : ∃ a b, mkFn f vs = .func f a b := by
 unfold mkFn; split <;> exact ⟨_, _, rfl⟩
theorem mkFn_plain {f : Fn} {vs : List Value} (h : ∀ t cs, vs ≠ .tuple t :: cs) : mkFn f vs = .func f #[] vs.toArray := by
 unfold mkFn; split
 ·exact absurd rfl (h _ _)
 ·rfl
def zpv : List AV -> Bool
 | [] => true
 | .d (.tup _) :: _ | .any :: _ | .tup _ :: _ | .opt .. :: _ | .pin .. :: _ | .lit _ :: _ => false
 | _ => true
mutual
def zh (g : G) (w : World) : AV -> Value -> Prop
 | .any, _ => True
 | .nl, v => v = .slice none 0 0
 | .d x, v => zr g.ro w x v
 | .hs id off len, v => (g.used id /\ v.oneCell' = true) /\ ∀ L, g.loc id = some L -> (L.virt = true /\ off = 0 /\ len = 0 /\ ∃ a, v = .slice a 0 0) \/ ((L.virt = false /\ L.map = false) /\ off + len <= L.cap /\ v = .slice (some ⟨L.blk, off * L.m, none⟩) len (L.cap - off))
 | .ptr id i j, v => (g.used id /\ v.oneCell' = true) /\ ∀ L, g.loc id = some L -> (L.virt = false /\ L.map = false) /\ v = .pointer (some ⟨L.blk, i * L.m + j, none⟩)
 | .agg l, v => ∃ vs : List Value, v = .agg vs.toArray /\ zbl vs /\ zj g w l vs
 | .clo f caps, v => ∃ vs : List Value, v = mkFn f vs /\ zj g w caps vs
 | .tup l, v => ∃ vs : List Value, v = .tuple vs.toArray /\ zj g w l vs
 | .opt b x, v => (b = true -> zh g w x v) /\ (b = false -> v = undef)
 | .ub p q, v => ∃ b, v = .bool b /\ (b = true -> p = true) /\ (b = false -> q = true)
 | .pin id L, _ => g.used id /\ ∀ M, g.loc id = some M -> M = L
 | .hm id, v => (g.used id /\ v.oneCell' = true) /\ ∀ L, g.loc id = some L -> (L.virt = false /\ L.map = true) /\ v = .map (some L.blk)
 | .lit u, v => v = u
def zj (g : G) (w : World) : List AV -> List Value -> Prop
 | [], vs => vs = []
 | a :: as, vs => ∃ v vs', vs = v :: vs' /\ zh g w a v /\ zj g w as vs'
end

theorem zuv {g : G} {w : World} {l : List AV} {vs : List Value} (h : zpv l = true) (hr : zj g w l vs) : ∀ t cs, vs ≠ .tuple t :: cs := by
 rintro t cs rfl;cases l with
 | nil => simp [zj] at hr
 | cons a l =>
  simp only [zj] at hr;obtain ⟨v, vs', he, ha, _⟩ := hr;simp only [List.cons.injEq] at he;obtain ⟨rfl, rfl⟩ := he;cases a with
  | d x => cases x <;> simp_all [zpv, zh, zr]
  | clo f l' =>
   simp only [zh] at ha;obtain ⟨us, h1, _⟩ := ha;obtain ⟨x, y, h2⟩ := mkFn_func f us;rw [h2] at h1; cases h1
  | hs id off len => simp only [zh] at ha; have := ha.1.2; simp [Value.oneCell'] at this
  | ptr id i j => simp only [zh] at ha; have := ha.1.2; simp [Value.oneCell'] at this
  | hm id => simp only [zh] at ha; have := ha.1.2; simp [Value.oneCell'] at this
  | _ => simp_all [zpv, zh]
theorem zrv {g : G} {w : World} {f : Fn} {l : List AV} {v : Value} (h : zpv l = true) (hr : zh g w (.clo f l) v) : ∃ vs : List Value, v = .func f #[] vs.toArray /\ zj g w l vs := by
 simp only [zh] at hr;obtain ⟨vs, h1, h2⟩ := hr;exact ⟨vs, h1.trans (mkFn_plain (zuv h h2)), h2⟩
theorem clo_bound {g : G} {w : World} {f : Fn} {l r : List AV} {v : Value} (hr : zh g w (.clo f (.tup l :: r)) v) : ∃ fs cs : List Value, v = .func f fs.toArray cs.toArray /\ zj g w l fs /\ zj g w r cs := by
 simp only [zh, zj] at hr;obtain ⟨_, h1, u, cs, rfl, ⟨fs, rfl, h2⟩, h3⟩ := hr;exact ⟨fs, cs, h1, h2, h3⟩
structure zbs (g : G) (w : World) (g' : G) (w' : World) : Prop where
 fut : Fut g.ro w g'.ro w'
 used : ∀ id, g.used id -> g'.used id
 loc : ∀ id, g.used id -> g'.loc id = g.loc id \/ g'.loc id = none

mutual
theorem zh.later {g g' : G} {w w' : World} (h : zbs g w g' w') : ∀ (a : AV) (v : Value), zh g w a v -> zh g' w' a v
 | .any, v, _ => by simp [zh]
 | .nl, v, k => by simpa [zh] using k
 | .d x, v, k => by simp only [zh] at k ⊢; exact zr.mono h.fut x v k
 | .hs id off len, v, k => by
  simp only [zh] at k ⊢;refine ⟨⟨h.used id k.1.1, k.1.2⟩, fun L hL => ?_⟩;rcases h.loc id k.1.1 with e | e
  ·exact k.2 L (by rw [<- e]; exact hL)
  ·rw [e] at hL; cases hL
 | .ptr id i j, v, k => by
  simp only [zh] at k ⊢;refine ⟨⟨h.used id k.1.1, k.1.2⟩, fun L hL => ?_⟩;rcases h.loc id k.1.1 with e | e
  ·exact k.2 L (by rw [<- e]; exact hL)
  ·rw [e] at hL; cases hL
 | .agg l, v, k => by
  simp only [zh] at k ⊢;obtain ⟨vs, hv, ho, hr⟩ := k;exact ⟨vs, hv, ho, zj.later h l vs hr⟩
 | .clo f l, v, k => by
  simp only [zh] at k ⊢;obtain ⟨vs, hv, hr⟩ := k;exact ⟨vs, hv, zj.later h l vs hr⟩
 | .tup l, v, k => by
  simp only [zh] at k ⊢;obtain ⟨vs, hv, hr⟩ := k;exact ⟨vs, hv, zj.later h l vs hr⟩
 | .opt b x, v, k => by
  simp only [zh] at k ⊢;exact ⟨fun hb => zh.later h x v (k.1 hb), k.2⟩
 | .ub p q, v, k => by simpa only [zh] using k
 | .lit u, v, k => by simpa only [zh] using k
 | .pin id L, v, k => by
  simp only [zh] at k ⊢;refine ⟨h.used id k.1, fun M hM => ?_⟩;rcases h.loc id k.1 with e | e
  ·exact k.2 M (by rw [<- e]; exact hM)
  ·rw [e] at hM; cases hM
 | .hm id, v, k => by
  simp only [zh] at k ⊢;refine ⟨⟨h.used id k.1.1, k.1.2⟩, fun L hL => ?_⟩;rcases h.loc id k.1.1 with e | e
  ·exact k.2 L (by rw [<- e]; exact hL)
  ·rw [e] at hL; cases hL
theorem zj.later {g g' : G} {w w' : World} (h : zbs g w g' w') : ∀ (as : List AV) (vs : List Value), zj g w as vs -> zj g' w' as vs
 | [], vs, k => by simpa [zj] using k
 | a :: as, vs, k => by
  simp only [zj] at k ⊢;obtain ⟨v, vs', rfl, h1, h2⟩ := k;exact ⟨v, vs', rfl, zh.later h a v h1, zj.later h as vs' h2⟩
end

theorem zj.length {g : G} {w : World} : ∀ {ds : List AV} {vs : List Value}, zj g w ds vs -> vs.length = ds.length
 | [], vs, h => by simp only [zj] at h; simp [h]
 | d :: ds, vs, h => by
  simp only [zj] at h;obtain ⟨v, vs', rfl, _, h2⟩ := h;simp [zj.length h2]

theorem zj.get {g : G} {w : World} : ∀ {ds : List AV} {vs : List Value}, zj g w ds vs -> ∀ (j : Nat) (d : AV), ds[j]? = some d -> ∃ v, vs[j]? = some v /\ zh g w d v
 | [], _, _, j, d, hj => by simp at hj
 | d0 :: ds, vs, h, j, d, hj => by
  simp only [zj] at h;obtain ⟨v, vs', rfl, h1, h2⟩ := h;cases j with
  | zero => simp at hj; subst hj; exact ⟨v, by simp, h1⟩
  | succ j => simp at hj; obtain ⟨u, hu, hr⟩ := h2.get j d hj; exact ⟨u, by simpa using hu, hr⟩

theorem zj.of_get {g : G} {w : World} : ∀ {ds : List AV} {vs : List Value}, vs.length = ds.length -> (∀ (j : Nat) (d : AV), ds[j]? = some d -> ∃ v, vs[j]? = some v /\ zh g w d v) -> zj g w ds vs
 | [], vs, hl, _ => by simpa [zj] using hl
 | d :: ds, [], hl, _ => by simp at hl
 | d :: ds, v :: vs, hl, h => by
  simp only [zj];obtain ⟨u, hu, hr⟩ := h 0 d (by simp);simp at hu;subst hu;exact ⟨v, vs, rfl, hr, zj.of_get (by simpa using hl) (fun j d hj => by simpa using h (j + 1) d (by simpa using hj))⟩

theorem zj.of_ds {g : G} {w : World} : ∀ {ds : List D} {vs : List Value}, zq g.ro w ds vs -> zj g w (ds.map AV.d) vs
 | [], vs, h => by simpa [zj, zq] using h
 | d :: ds, vs, h => by
  simp only [zq] at h;obtain ⟨v, vs', rfl, h1, h2⟩ := h;simp only [List.map_cons, zj];exact ⟨v, vs', rfl, by simpa [zh] using h1, zj.of_ds h2⟩

theorem zj.to_ds {g : G} {w : World} : ∀ {ds : List D} {vs : List Value}, zj g w (ds.map AV.d) vs -> zq g.ro w ds vs
 | [], vs, h => by simpa [zj, zq] using h
 | d :: ds, vs, h => by
  simp only [List.map_cons, zj] at h;obtain ⟨v, vs', rfl, h1, h2⟩ := h;simp only [zq];exact ⟨v, vs', rfl, by simpa [zh] using h1, zj.to_ds h2⟩

def allD : List AV -> Option (List D)
 | [] => some []
 | .d x :: r => (allD r).map (x :: ·)
 | .nl :: r => (allD r).map (.sl [] :: ·)
 | _ :: _ => none

theorem allD_map (l : List D) : allD (l.map AV.d) = some l := by
 induction l with
 | nil => rfl
 | cons x l ih => simp [allD, ih]

theorem zff {ro : Nat -> Prop} {w : World} {a : Option Addr} : zr ro w (.sl []) (.slice a 0 0) := by
 unfold zr;exact ⟨a, 0, rfl, Nat.le_refl _, by simp [maxLen], .inl rfl⟩

theorem zj.allD {g : G} {w : World} : ∀ {l : List AV} {ds : List D} {vs : List Value}, Abs.allD l = some ds -> zj g w l vs -> zq g.ro w ds vs
 | [], ds, vs, h, k => by simp [Abs.allD] at h; subst h; simpa [zj, zq] using k
 | .d x :: r, ds, vs, h, k => by
  simp only [Abs.allD, Option.map_eq_some_iff] at h;obtain ⟨ds', h', rfl⟩ := h;simp only [zj] at k;obtain ⟨v, vs', rfl, h1, h2⟩ := k;simp only [zq];exact ⟨v, vs', rfl, by simpa [zh] using h1, zj.allD h' h2⟩
 | .nl :: r, ds, vs, h, k => by
  simp only [Abs.allD, Option.map_eq_some_iff] at h;obtain ⟨ds', h', rfl⟩ := h;simp only [zj] at k;obtain ⟨v, vs', rfl, h1, h2⟩ := k;simp only [zh] at h1;subst h1;simp only [zq];exact ⟨_, vs', rfl, zff, zj.allD h' h2⟩
 | .any :: _, _, _, h, _ | .hs .. :: _, _, _, h, _ | .ptr .. :: _, _, _, h, _ | .agg _ :: _, _, _, h, _ | .clo .. :: _, _, _, h, _ | .tup _ :: _, _, _, h, _ | .opt .. :: _, _, _, h, _ | .ub .. :: _, _, _, h, _ | .pin .. :: _, _, _, h, _ | .hm .. :: _, _, _, h, _ | .lit .. :: _, _, _, h, _ => by simp [Abs.allD] at h

def allS : List AV -> Option (List D)
 | [] => some []
 | .d x :: r => (allS r).map (x :: ·)
 | _ :: _ => none
theorem allS_map (l : List D) : allS (l.map AV.d) = some l := by
 induction l with
 | nil => rfl
 | cons x l ih => simp [allS, ih]
theorem allS_eq : ∀ {l : List AV} {ds : List D}, allS l = some ds -> l = ds.map AV.d
 | [], ds, h => by simp [allS] at h; subst h; rfl
 | .d x :: r, ds, h => by
  simp only [allS, Option.map_eq_some_iff] at h;obtain ⟨ds', h', rfl⟩ := h;rw [allS_eq h']; rfl
 | .any :: _, _, h | .nl :: _, _, h | .hs .. :: _, _, h | .ptr .. :: _, _, h | .agg _ :: _, _, h | .clo .. :: _, _, h | .tup _ :: _, _, h | .opt .. :: _, _, h | .ub .. :: _, _, h | .pin .. :: _, _, h | .hm .. :: _, _, h | .lit .. :: _, _, h => by simp [allS] at h
def mkAgg (l : List AV) : AV := match allS l with | some ds => .d (.agg ds) | none => .agg l

theorem mkAgg_map (l : List D) : mkAgg (l.map AV.d) = .d (.agg l) := by simp [mkAgg, allS_map]

theorem zh.mkAgg {g : G} {w : World} {l : List AV} {vs : List Value} (ho : zbl vs) (h : zj g w l vs) : zh g w (Abs.mkAgg l) (.agg vs.toArray) := by
 unfold Abs.mkAgg;split
 ·rename_i ds hd;simp only [zh, zr];rw [allS_eq hd] at h;exact ⟨vs, rfl, ho, zj.to_ds h⟩
 ·simp only [zh];exact ⟨vs, rfl, ho, h⟩

structure Ob where
 elem : TypeId
 m : Nat
 rows : List (List AV)

def zad (g : G) (w : World) : List (List AV) -> List MapEntry -> Prop
 | [], es => es = []
 | r :: rs, es => ∃ e es', es = e :: es' /\ zj g w r [e.key, e.val] /\ zad g w rs es'

theorem zad.later {g g' : G} {w w' : World} (h : zbs g w g' w') : ∀ (rows : List (List AV)) (es : List MapEntry), zad g w rows es -> zad g' w' rows es
 | [], es, k => by simpa [zad] using k
 | r :: rs, es, k => by
  simp only [zad] at k ⊢;obtain ⟨e, es', rfl, h1, h2⟩ := k;exact ⟨e, es', rfl, zj.later h r _ h1, zad.later h rs es' h2⟩

def strE : TypeId := 1000000007
def zfl (x : Option Obj) (e : TypeId) (cur : Array Value) : Prop :=
 ∃ (el : TypeId) (fr : Nat × Nat), x = some (.cells cur el fr) /\ (e ≠ strE -> el = e /\ fr = (0, 0)) /\ (fr = (0, 0) \/ cur.size <= fr.1)
theorem zfl.of {x : Option Obj} {e : TypeId} {cur : Array Value} (h : x = some (.cells cur e (0, 0))) : zfl x e cur := ⟨e, (0, 0), h, fun _ => ⟨rfl, rfl⟩, .inl rfl⟩
theorem zfl.lt {h : Array Obj} {b : Nat} {e : TypeId} {cur : Array Value} (hr : zfl (h[b]?) e cur) : b < h.size := by
 obtain ⟨el, fr, h1, _⟩ := hr;exact (Array.getElem?_eq_some_iff.1 h1).1
theorem zfl.plain {x : Option Obj} {e : TypeId} {cur : Array Value} (h : zfl x e cur) (he : e ≠ strE) : x = some (.cells cur e (0, 0)) := by
 obtain ⟨el, fr, h1, h2, _⟩ := h;obtain ⟨rfl, rfl⟩ := h2 he;exact h1
def mapM : Nat := 1000003

structure znf (g : G) (w : World) (L : Loc) (o : Ob) : Prop where
 m : L.m = o.m
 pos : 0 < L.m
 len : L.map = false -> o.rows.length <= L.cap
 virt : L.virt = true -> o.rows = []
 cells : L.virt = false /\ L.map = false -> ∃ cur, zfl (w.heap[L.blk]?) o.elem cur /\ cur.size = L.cap * L.m /\ L.cap <= maxLen /\
  ∀ i row, o.rows[i]? = some row -> row.length = L.m /\ ∀ (j : Nat) (av : AV), row[j]? = some av -> ∃ v : Value, cur[i * L.m + j]? = some v /\ v.oneCell' = true /\ zh g w av v
 ents : L.virt = false /\ L.map = true -> L.m = mapM /\ ∃ es clock, w.heap[L.blk]? = some (.map es clock) /\ MapKept.Stamped es clock /\ zad g w o.rows es.toList

structure zam (g : G) (obj : Nat -> Option Ob) (w : World) : Prop where
 own : ∀ id o, obj id = some o -> ∃ L, g.loc id = some L /\ znf g w L o
 gone : ∀ id, obj id = none -> g.loc id = none
 live : ∀ id L, g.loc id = some L -> g.used id /\ (L.virt = false -> L.blk < w.heap.size /\ ¬ g.ro L.blk)
 inj : ∀ id id' L L', g.loc id = some L -> g.loc id' = some L' -> L.virt = false -> L'.virt = false -> L.blk = L'.blk -> id = id'
 ro : ∀ b, g.ro b -> b < w.heap.size

structure Rel (U : Nat -> Prop) (g : G) (get : Nat -> AV) (obj : Nat -> Option Ob) (n : Nat) (a : Act) (w : World) : Prop where
 defers : a.defers = []
 size : a.tmps.size = n
 tmp : ∀ t, zh g w (get t) (a.tmps.getD t undef)
 used : ∀ id, g.used id -> U id
 heap : zam g obj w

def G.owns (g : G) (b : Nat) : Prop := ∃ id L, g.loc id = some L /\ L.virt = false /\ L.blk = b

class Flag where
 p : Prop
variable [Flag]
theorem le_or {p : Prop} {a b c : Nat} (h : p \/ a <= b) (k : p \/ b <= c) : p \/ a <= c := by
 rcases h with h | h
 ·exact .inl h
 ·exact k.imp id fun k => Nat.le_trans h k

structure Below (B : Nat) (w w' : World) : Prop where
 os : w'.os = w.os
 tape : w'.tape = w.tape /\ (Flag.p \/ w.drawn <= w'.drawn)
 output : w'.output = w.output
 size : w.heap.size <= w'.heap.size
 block : ∀ k, k < B -> w'.heap[k]? = w.heap[k]?
theorem Below.kit {B : Nat} {w w' : World} (h : Below B w w') : Go.RowKit.Below B w w' := ⟨h.os, h.tape.1, h.output, h.size, h.block⟩

structure zan (g : G) (w : World) (g' : G) (w' : World) : Prop where
 os : w'.os = w.os
 tape : w'.tape = w.tape /\ (Flag.p \/ w.drawn <= w'.drawn)
 output : w'.output = w.output
 size : w.heap.size <= w'.heap.size
 block : ∀ b, b < w.heap.size -> ¬ g.owns b -> w'.heap[b]? = w.heap[b]?
 own : ∀ b, g'.owns b -> w.heap.size <= b \/ g.owns b
 ro : ∀ b, g.ro b -> g'.ro b
 ro' : ∀ b, g'.ro b -> g.ro b \/ w.heap.size <= b \/ g.owns b

theorem zan.refl (g : G) (w : World) : zan g w g w := ⟨rfl, ⟨rfl, .inr (Nat.le_refl _)⟩, rfl, Nat.le_refl _, fun _ _ _ => rfl, fun _ h => .inr h, fun _ h => h, fun _ h => .inl h⟩

theorem zan.trans {g g' g'' : G} {w w' w'' : World} (h : zan g w g' w') (k : zan g' w' g'' w'') : zan g w g'' w'' where
 os := k.os.trans h.os
 tape := ⟨k.tape.1.trans h.tape.1, le_or h.tape.2 k.tape.2⟩
 output := k.output.trans h.output
 size := Nat.le_trans h.size k.size
 block b hb hn := by
  have hn' : ¬ g'.owns b := fun ho => by
   rcases h.own b ho with h1 | h1
   ·omega
   ·exact hn h1
  rw [k.block b (Nat.lt_of_lt_of_le hb h.size) hn', h.block b hb hn]
 own b hb := by
  rcases k.own b hb with h1 | h1
  ·exact .inl (Nat.le_trans h.size h1)
  ·exact h.own b h1
 ro b hb := k.ro b (h.ro b hb)
 ro' b hb := by
  rcases k.ro' b hb with h1 | h1 | h1
  ·exact h.ro' b h1
  ·exact .inr (.inl (Nat.le_trans h.size h1))
  ·rcases h.own b h1 with h2 | h2
   ·exact .inr (.inl h2)
   ·exact .inr (.inr h2)


theorem zj.set {g : G} {w : World} {l : List AV} {vs : List Value} (h : zj g w l vs) (j : Nat) {x : AV} {v : Value} (hx : zh g w x v) : zj g w (l.set j x) (vs.set j v) := by
 refine zj.of_get (by simp [h.length]) fun k d hk => ?_;rw [List.getElem?_set] at hk ⊢;have hl := h.length;by_cases e : j = k
 ·subst e;simp only [if_true] at hk ⊢;split at hk
  ·rename_i hlt;cases hk;rw [if_pos (by omega)];exact ⟨v, rfl, hx⟩
  ·cases hk
 ·simp only [e, if_false] at hk ⊢;exact h.get k d hk

def zbh (obj : Nat -> Option Ob) (id : Nat) (o : Option Ob) : Nat -> Option Ob := fun x => if x = id then o else obj x

theorem znf.later {g g' : G} {w w' : World} {L : Loc} {o : Ob} (h : znf g w L o) (hl : zbs g w g' w') (hb : L.virt = false -> w'.heap[L.blk]? = w.heap[L.blk]?) : znf g' w' L o where
 m := h.m
 pos := h.pos
 len := h.len
 virt := h.virt
 cells hv := by
  obtain ⟨cur, h1, h2, h3, h5⟩ := h.cells hv;refine ⟨cur, by rw [hb hv.1]; exact h1, h2, h3, fun i row hi => ⟨(h5 i row hi).1, fun j av hj => ?_⟩⟩;obtain ⟨v, hv', ho, hr⟩ := (h5 i row hi).2 j av hj;exact ⟨v, hv', ho, zh.later hl av v hr⟩
 ents hv := by
  obtain ⟨h0, es, clock, h1, h2, h3⟩ := h.ents hv;exact ⟨h0, es, clock, by rw [hb hv.1]; exact h1, h2, zad.later hl _ _ h3⟩

theorem zam.newL {g : G} {obj : Nat -> Option Ob} {w w' : World} (h : zam g obj w) {id B : Nat} (hid : ¬ g.used id) (o : Ob) (L0 : Loc) (hblk : L0.blk = B) (hv0 : L0.virt = false)
  (hos : w'.os = w.os) (htape : w'.tape = w.tape /\ (Flag.p \/ w.drawn <= w'.drawn)) (hout : w'.output = w.output) (hsize : w.heap.size <= B) (hB : B < w'.heap.size)
  (hold : ∀ b, b < w.heap.size -> w'.heap[b]? = w.heap[b]?) (hok : ∀ g', zbs g w g' w' -> znf g' w' L0 o) :
  ∃ g', g'.loc id = some L0 /\ g'.used = (fun x => g.used x \/ x = id) /\ g'.ro = g.ro /\ zam g' (zbh obj id (some o)) w' /\ zan g w g' w' /\ zbs g w g' w' := by
 have hnone : g.loc id = none := by
  cases hl : g.loc id with
  | none => rfl
  | some L => exact absurd (h.live id L hl).1 hid
 let g' : G := ⟨g.ro, fun x => if x = id then some L0 else g.loc x, fun x => g.used x \/ x = id⟩
 have hloc : ∀ x L, g'.loc x = some L -> (x = id /\ L = L0) \/ (x ≠ id /\ g.loc x = some L) := by
  intro x L hx;simp only [g'] at hx;split at hx
  ·rename_i e; exact .inl ⟨e, by simpa using hx.symm⟩
  ·rename_i e; exact .inr ⟨e, hx⟩
 have hlater : zbs g w g' w' := by
  refine ⟨fun b hb => ⟨hb, hold b (h.ro b hb)⟩, fun x hx => .inl hx, fun x hx => .inl ?_⟩;simp only [g'];rw [if_neg (fun e : x = id => hid (e ▸ hx))]
 refine ⟨g', by simp [g'], rfl, rfl, ?_, ?_, hlater⟩
 ·refine ⟨?_, ?_, ?_, ?_, ?_⟩
  ·intro x o' hx;simp only [zbh] at hx;split at hx
   ·rename_i e;cases hx;subst e;exact ⟨L0, by simp [g'], hok g' hlater⟩
   ·rename_i e;obtain ⟨L, hL, hok'⟩ := h.own x o' hx;exact ⟨L, by simp [g', e, hL], hok'.later hlater fun hv => hold _ ((h.live x L hL).2 hv).1⟩
  ·intro x hx;simp only [zbh] at hx;split at hx
   ·cases hx
   ·rename_i e; simp [g', e, h.gone x hx]
  ·intro x L hx;rcases hloc x L hx with ⟨rfl, rfl⟩ | ⟨e, hL⟩
   ·exact ⟨.inr rfl, fun _ => ⟨by omega, fun hr => by have := h.ro _ hr; omega⟩⟩
   ·obtain ⟨h1', h2'⟩ := h.live x L hL;exact ⟨.inl h1', fun hv => ⟨by have := (h2' hv).1; omega, (h2' hv).2⟩⟩
  ·intro x y L L' hx hy hv hv' hb;rcases hloc x L hx with ⟨rfl, rfl⟩ | ⟨e, hL⟩ <;> rcases hloc y L' hy with ⟨rfl, rfl⟩ | ⟨e', hL'⟩
   ·rfl
   ·have := ((h.live y L' hL').2 hv').1; omega
   ·have := ((h.live x L hL).2 hv).1; omega
   ·exact h.inj x y L L' hL hL' hv hv' hb
  ·intro b hb; have := h.ro b hb; omega
 ·refine ⟨hos, htape, hout, by omega, fun b hb _ => hold b hb, ?_, fun b hb => hb, fun b hb => .inl hb⟩;rintro b ⟨x, L, hx, hv, rfl⟩;rcases hloc x L hx with ⟨rfl, rfl⟩ | ⟨e, hL⟩
  ·exact .inl (by omega)
  ·exact .inr ⟨x, L, hL, hv, rfl⟩

theorem zam.new {g : G} {obj : Nat -> Option Ob} {w w' : World} (h : zam g obj w) {id B cap : Nat} (hid : ¬ g.used id) (o : Ob) (cur : Array Value)
  (hos : w'.os = w.os) (htape : w'.tape = w.tape /\ (Flag.p \/ w.drawn <= w'.drawn)) (hout : w'.output = w.output) (hsize : w.heap.size <= B) (hB : B < w'.heap.size)
  (hold : ∀ b, b < w.heap.size -> w'.heap[b]? = w.heap[b]?) (hnew : zfl (w'.heap[B]?) o.elem cur)
  (hm : 0 < o.m) (hcs : cur.size = cap * o.m) (hlen : o.rows.length <= cap) (hcap : cap <= maxLen)
  (hrep : ∀ i row, o.rows[i]? = some row -> row.length = o.m /\ ∀ (j : Nat) (av : AV), row[j]? = some av -> ∃ v : Value, cur[i * o.m + j]? = some v /\ v.oneCell' = true /\ zh g w av v) :
  ∃ g', g'.loc id = some ⟨B, o.m, cap, false, false⟩ /\ g'.used = (fun x => g.used x \/ x = id) /\ g'.ro = g.ro /\ zam g' (zbh obj id (some o)) w' /\ zan g w g' w' /\ zbs g w g' w' :=
 h.newL hid o ⟨B, o.m, cap, false, false⟩ rfl rfl hos htape hout hsize hB hold fun g' hlater => ⟨rfl, hm, fun _ => hlen, by simp, fun _ => ⟨cur, hnew, hcs, hcap, fun i row hi => ⟨(hrep i row hi).1, fun j av hj => by
  obtain ⟨v, hv, ho, hr⟩ := (hrep i row hi).2 j av hj;exact ⟨v, hv, ho, zh.later hlater av v hr⟩⟩⟩, by simp⟩

theorem zam.writeL {g : G} {obj : Nat -> Option Ob} {w w' : World} (h : zam g obj w) {id id' B : Nat} {L : Loc} (hL : g.loc id = some L) (hvirt : L.virt = false) (hid : id' = id \/ ¬ g.used id') (o : Ob) (L' : Loc) (hblk : L'.blk = B) (hv0 : L'.virt = false)
  (hos : w'.os = w.os) (htape : w'.tape = w.tape /\ (Flag.p \/ w.drawn <= w'.drawn)) (hout : w'.output = w.output) (hsize : w.heap.size <= w'.heap.size)
  (hold : ∀ b, b < w.heap.size -> b ≠ L.blk -> w'.heap[b]? = w.heap[b]?) (hB : B = L.blk \/ (w.heap.size <= B /\ B < w'.heap.size)) (hkeep : id' = id -> L' = L) (hok : ∀ g', zbs g w g' w' -> znf g' w' L' o) :
  ∃ g', g'.loc id' = some L' /\ g'.used = (fun x => g.used x \/ x = id') /\ g'.ro = g.ro /\ zam g' (zbh (zbh obj id none) id' (some o)) w' /\ zan g w g' w' /\ zbs g w g' w' := by
 obtain ⟨husd, hlv⟩ := h.live id L hL;obtain ⟨hblt, hnro⟩ := hlv hvirt
 let g' : G := ⟨g.ro, fun x => if x = id' then some L' else if x = id then none else g.loc x, fun x => g.used x \/ x = id'⟩
 have hloc : ∀ x M, g'.loc x = some M -> (x = id' /\ M = L') \/ (x ≠ id' /\ x ≠ id /\ g.loc x = some M) := by
  intro x M hx;simp only [g'] at hx;split at hx
  ·rename_i e; exact .inl ⟨e, by simpa using hx.symm⟩
  ·rename_i e;split at hx
   ·cases hx
   ·rename_i e2; exact .inr ⟨e, e2, hx⟩
 have hlater : zbs g w g' w' := by
  refine ⟨fun b hb => ⟨hb, hold b (h.ro b hb) (fun e => hnro (e ▸ hb))⟩, fun x hx => .inl hx, fun x hx => ?_⟩;simp only [g'];by_cases e : x = id'
  ·rcases hid with rfl | hid
   ·subst e;have hLL : L' = L := hkeep rfl;simp [hL, hLL]
   ·exact absurd hx (e ▸ hid)
  ·rw [if_neg e];by_cases e2 : x = id
   ·rw [if_pos e2]; exact .inr rfl
   ·rw [if_neg e2]; exact .inl rfl
 have hne : ∀ x M, x ≠ id -> g.loc x = some M -> M.virt = false -> M.blk ≠ L.blk := fun x M hx hM hv e => hx (h.inj x id M L hM hL hv hvirt e);have hneB : ∀ x M, x ≠ id -> g.loc x = some M -> M.virt = false -> M.blk ≠ B := fun x M hx hM hv e => by
  rcases hB with rfl | hB
  ·exact hne x M hx hM hv e
  ·have := ((h.live x M hM).2 hv).1; omega
 refine ⟨g', by simp [g'], rfl, rfl, ?_, ?_, hlater⟩
 ·refine ⟨?_, ?_, ?_, ?_, ?_⟩
  ·intro x o' hx;simp only [zbh] at hx;split at hx
   ·rename_i e;cases hx;subst e;exact ⟨L', by simp [g'], hok g' hlater⟩
   ·rename_i e;split at hx
    ·cases hx
    ·rename_i e2;obtain ⟨M, hM, hok'⟩ := h.own x o' hx;exact ⟨M, by simp [g', e, e2, hM], hok'.later hlater fun hv => hold _ ((h.live x M hM).2 hv).1 (hne x M e2 hM hv)⟩
  ·intro x hx;simp only [zbh] at hx;split at hx
   ·cases hx
   ·rename_i e;split at hx
    ·rename_i e2; show (if x = id' then some L' else if x = id then none else g.loc x) = none; rw [if_neg e, if_pos e2]
    ·rename_i e2; simp [g', e, e2, h.gone x hx]
  ·intro x M hx;rcases hloc x M hx with ⟨rfl, rfl⟩ | ⟨e, e2, hM⟩
   ·refine ⟨.inr rfl, fun _ => ?_⟩;rw [hblk]
    show B < w'.heap.size /\ ¬ g.ro B
    rcases hB with rfl | hB
    ·exact ⟨by omega, hnro⟩
    ·exact ⟨hB.2, fun hr => by have := h.ro B hr; omega⟩
   ·obtain ⟨h1', h2'⟩ := h.live x M hM;exact ⟨.inl h1', fun hv => ⟨by have := (h2' hv).1; omega, (h2' hv).2⟩⟩
  ·intro x y M M' hx hy hv hv' hb;rcases hloc x M hx with ⟨rfl, rfl⟩ | ⟨e, e2, hM⟩ <;> rcases hloc y M' hy with ⟨rfl, rfl⟩ | ⟨e', e2', hM'⟩
   ·rfl
   ·exact absurd (hb.symm.trans hblk) (hneB y M' e2' hM' hv')
   ·exact absurd (hb.trans hblk) (hneB x M e2 hM hv)
   ·exact h.inj x y M M' hM hM' hv hv' hb
  ·intro b hb; have := h.ro b hb; omega
 ·refine ⟨hos, htape, hout, hsize, fun b hb hn => hold b hb (fun e => hn ⟨id, L, hL, hvirt, e.symm⟩), ?_, fun b hb => hb, fun b hb => .inl hb⟩;rintro b ⟨x, M, hx, hv, rfl⟩;rcases hloc x M hx with ⟨rfl, rfl⟩ | ⟨e, e2, hM⟩
  ·rw [hblk]
   show w.heap.size <= B \/ g.owns B
   rcases hB with rfl | hB
   ·exact .inr ⟨id, L, hL, hvirt, rfl⟩
   ·exact .inl hB.1
  ·exact .inr ⟨x, M, hM, hv, rfl⟩

theorem zam.write {g : G} {obj : Nat -> Option Ob} {w w' : World} (h : zam g obj w) {id id' cap B : Nat} {L : Loc} (hL : g.loc id = some L) (hflat : L.virt = false /\ L.map = false) (hid : id' = id \/ ¬ g.used id') (o : Ob) (cur : Array Value)
  (hos : w'.os = w.os) (htape : w'.tape = w.tape /\ (Flag.p \/ w.drawn <= w'.drawn)) (hout : w'.output = w.output) (hsize : w.heap.size <= w'.heap.size)
  (hold : ∀ b, b < w.heap.size -> b ≠ L.blk -> w'.heap[b]? = w.heap[b]?) (hB : B = L.blk \/ (w.heap.size <= B /\ B < w'.heap.size)) (hnew : zfl (w'.heap[B]?) o.elem cur)
  (hm : o.m = L.m) (hpos : 0 < L.m) (hcs : cur.size = cap * L.m) (hlen : o.rows.length <= cap) (hcap : cap <= maxLen) (hkeep : id' = id -> cap = L.cap /\ B = L.blk)
  (hrep : ∀ i row, o.rows[i]? = some row -> row.length = L.m /\ ∀ (j : Nat) (av : AV), row[j]? = some av -> ∃ v : Value, cur[i * L.m + j]? = some v /\ v.oneCell' = true /\ zh g w av v) :
  ∃ g', g'.loc id' = some ⟨B, L.m, cap, false, false⟩ /\ g'.used = (fun x => g.used x \/ x = id') /\ g'.ro = g.ro /\ zam g' (zbh (zbh obj id none) id' (some o)) w' /\ zan g w g' w' /\ zbs g w g' w' :=
 h.writeL hL hflat.1 hid o ⟨B, L.m, cap, false, false⟩ rfl rfl hos htape hout hsize hold hB (fun e => by obtain ⟨k1, k2⟩ := hkeep e; cases L; simp_all) fun g' hlater => ⟨hm.symm, hpos, fun _ => hlen, by simp, fun _ => ⟨cur, hnew, hcs, hcap, fun i row hi => ⟨(hrep i row hi).1, fun j av hj => by
  obtain ⟨v, hv, ho, hr⟩ := (hrep i row hi).2 j av hj;exact ⟨v, hv, ho, zh.later hlater av v hr⟩⟩⟩, by simp⟩

theorem zam.drop {g : G} {obj : Nat -> Option Ob} {w : World} (h : zam g obj w) (id : Nat) :
  ∃ g', g'.used = g.used /\ g'.ro = g.ro /\ g'.loc = (fun x => if x = id then none else g.loc x) /\ zam g' (zbh obj id none) w /\ zan g w g' w /\ zbs g w g' w := by
 let g' : G := ⟨g.ro, fun x => if x = id then none else g.loc x, g.used⟩
 have hloc : ∀ x M, g'.loc x = some M -> x ≠ id /\ g.loc x = some M := by
  intro x M hx;simp only [g'] at hx;split at hx
  ·cases hx
  ·rename_i e; exact ⟨e, hx⟩
 have hlater : zbs g w g' w := ⟨fun b hb => ⟨hb, rfl⟩, fun _ hx => hx, fun x _ => by simp only [g']; split <;> simp⟩
 refine ⟨g', rfl, rfl, rfl, ⟨?_, ?_, fun x L hx => h.live x L (hloc x L hx).2, fun x y L L' hx hy => h.inj x y L L' (hloc x L hx).2 (hloc y L' hy).2, h.ro⟩, ?_, hlater⟩
 ·intro x o hx;simp only [zbh] at hx;split at hx
  ·cases hx
  ·rename_i e;obtain ⟨L, hL, hok⟩ := h.own x o hx;exact ⟨L, by simp [g', e, hL], hok.later hlater fun _ => rfl⟩
 ·intro x hx;simp only [zbh] at hx;split at hx
  ·rename_i e; simp [g', e]
  ·rename_i e; simp [g', e, h.gone x hx]
 ·exact ⟨rfl, ⟨rfl, .inr (Nat.le_refl _)⟩, rfl, Nat.le_refl _, fun _ _ _ => rfl, fun b ⟨x, L, hx, hv, hb⟩ => .inr ⟨x, L, (hloc x L hx).2, hv, hb⟩, fun _ hb => hb, fun _ hb => .inl hb⟩

theorem zam.newVirt {g : G} {obj : Nat -> Option Ob} {w : World} (h : zam g obj w) {id : Nat} (hid : ¬ g.used id) (e : TypeId) (m : Nat) (hm : 0 < m) :
  ∃ g', g'.loc id = some ⟨0, m, 0, true, false⟩ /\ g'.used = (fun x => g.used x \/ x = id) /\ g'.ro = g.ro /\ zam g' (zbh obj id (some ⟨e, m, []⟩)) w /\ zan g w g' w /\ zbs g w g' w := by
 let g' : G := ⟨g.ro, fun x => if x = id then some ⟨0, m, 0, true, false⟩ else g.loc x, fun x => g.used x \/ x = id⟩
 have hloc : ∀ x L, g'.loc x = some L -> (x = id /\ L = ⟨0, m, 0, true, false⟩) \/ (x ≠ id /\ g.loc x = some L) := by
  intro x L hx;simp only [g'] at hx;split at hx
  ·rename_i e; exact .inl ⟨e, by simpa using hx.symm⟩
  ·rename_i e; exact .inr ⟨e, hx⟩
 have hlater : zbs g w g' w := ⟨fun b hb => ⟨hb, rfl⟩, fun _ hx => .inl hx, fun x hx => .inl (by simp only [g']; rw [if_neg (fun e : x = id => hid (e ▸ hx))])⟩
 refine ⟨g', by simp [g'], rfl, rfl, ⟨?_, ?_, ?_, ?_, h.ro⟩, ?_, hlater⟩
 ·intro x o hx;simp only [zbh] at hx;split at hx
  ·rename_i e';cases hx;exact ⟨⟨0, m, 0, true, false⟩, by simp [g', e'], ⟨rfl, hm, by simp, fun _ => rfl, by simp, by simp⟩⟩
  ·rename_i e';obtain ⟨L, hL, hok⟩ := h.own x o hx;exact ⟨L, by simp [g', e', hL], hok.later hlater fun _ => rfl⟩
 ·intro x hx;simp only [zbh] at hx;split at hx
  ·cases hx
  ·rename_i e'; simp [g', e', h.gone x hx]
 ·intro x L hx;rcases hloc x L hx with ⟨rfl, rfl⟩ | ⟨_, hL⟩
  ·exact ⟨.inr rfl, by simp⟩
  ·exact ⟨.inl (h.live x L hL).1, (h.live x L hL).2⟩
 ·intro x y L L' hx hy hv hv' hb;rcases hloc x L hx with ⟨rfl, rfl⟩ | ⟨_, hL⟩
  ·cases hv
  ·rcases hloc y L' hy with ⟨rfl, rfl⟩ | ⟨_, hL'⟩
   ·cases hv'
   ·exact h.inj x y L L' hL hL' hv hv' hb
 ·refine ⟨rfl, ⟨rfl, .inr (Nat.le_refl _)⟩, rfl, Nat.le_refl _, fun _ _ _ => rfl, ?_, fun _ hb => hb, fun _ hb => .inl hb⟩;rintro b ⟨x, L, hx, hv, rfl⟩;rcases hloc x L hx with ⟨rfl, rfl⟩ | ⟨_, hL⟩
  ·cases hv
  ·exact .inr ⟨x, L, hL, hv, rfl⟩

theorem zam.idle {g : G} {obj : Nat -> Option Ob} {w w' : World} (h : zam g obj w) (hb : Below w.heap.size w w') : zam g obj w' /\ zan g w g w' /\ zbs g w g w' := by
 have hlater : zbs g w g w' := ⟨fun b hr => ⟨hr, hb.block b (h.ro b hr)⟩, fun _ hx => hx, fun _ _ => .inl rfl⟩
 refine ⟨⟨fun id o ho => ?_, h.gone, fun id L hL => ⟨(h.live id L hL).1, fun hv => ⟨Nat.lt_of_lt_of_le ((h.live id L hL).2 hv).1 hb.size, ((h.live id L hL).2 hv).2⟩⟩, h.inj, fun b hr => Nat.lt_of_lt_of_le (h.ro b hr) hb.size⟩,
  ⟨hb.os, hb.tape, hb.output, hb.size, fun b hlt _ => hb.block b hlt, fun _ ho => .inr ho, fun _ hr => hr, fun _ hr => .inl hr⟩, hlater⟩
 obtain ⟨L, hL, hok⟩ := h.own id o ho;exact ⟨L, hL, hok.later hlater fun hv => hb.block _ ((h.live id L hL).2 hv).1⟩

theorem zam.wide {g : G} {obj : Nat -> Option Ob} {w w' : World} (h : zam g obj w) (hb : Below w.heap.size w w') (new : Nat -> Prop) (hnew : ∀ b, new b -> w.heap.size <= b /\ b < w'.heap.size) :
  zam ⟨fun b => g.ro b \/ new b, g.loc, g.used⟩ obj w' /\ zan g w ⟨fun b => g.ro b \/ new b, g.loc, g.used⟩ w' /\ zbs g w ⟨fun b => g.ro b \/ new b, g.loc, g.used⟩ w' := by
 have hlater : zbs g w ⟨fun b => g.ro b \/ new b, g.loc, g.used⟩ w' := ⟨fun b hr => ⟨.inl hr, hb.block b (h.ro b hr)⟩, fun _ hx => hx, fun _ _ => .inl rfl⟩
 refine ⟨⟨fun id o ho => ?_, h.gone, fun id L hL => ⟨(h.live id L hL).1, fun hv => ?_⟩, h.inj, fun b hr => ?_⟩,
  ⟨hb.os, hb.tape, hb.output, hb.size, fun b hlt _ => hb.block b hlt, fun _ ho => .inr ho, fun _ hr => .inl hr, fun b hr => hr.elim .inl fun hn => .inr (.inl (hnew b hn).1)⟩, hlater⟩
 ·obtain ⟨L, hL, hok⟩ := h.own id o ho;exact ⟨L, hL, hok.later hlater fun hv => hb.block _ ((h.live id L hL).2 hv).1⟩
 ·have h1 := ((h.live id L hL).2 hv)
  exact ⟨Nat.lt_of_lt_of_le h1.1 hb.size, fun hr => hr.elim h1.2 fun hn => by have := (hnew _ hn).1; omega⟩
 ·rcases hr with hr | hr
  ·exact Nat.lt_of_lt_of_le (h.ro b hr) hb.size
  ·exact (hnew b hr).2

end Go.Abs

namespace Go.Abs
variable [Flag]

inductive TK where
 | slice (e : TypeId)
 | struct (fs : List (Nat × Nat × Bool))
 | arr (n : Nat) (e : TypeId)
 | int (k : IntKind)
 | bool
 | str
 | one
 | map (k e : TypeId)

structure TI where
 kind : TK
 size : Nat
 bytes : Nat
 zero : List AV
 eqs : Nat := 0

def TI.isAgg (ti : TI) : Bool := match ti.kind with | .struct _ | .arr _ _ => true | _ => false

def zav : Value -> AV
 | .bool b => .d (.bool b)
 | .int k n => .d (.int k n)
 | .string s => .d (.str s)
 | .slice none 0 0 => .nl
 | .pointer none => .d .np
 | _ => .any

theorem zav_rep (g : G) (w : World) (v : Value) : zh g w (zav v) v := by
 unfold zav;split <;> simp [zh, zr]

def zgf : TypeDesc -> Bool | .struct _ | .array _ _ => true | _ => false

def zkr (P : Program) (t : TypeId) (q : Nat) : Bool := match P.underlying t with | some (.int _) => q == 1 | some .bool => q == 2 | _ => false

def eqD (q : Nat) : List D -> List D -> Option Bool
 | [], [] => some true
 | .int k a :: r, .int k' b :: r' => if q = 1 /\ k = k' then (eqD q r r').map fun c => (a == b) && c else none
 | .bool a :: r, .bool b :: r' => if q = 2 then (eqD q r r').map fun c => (a == b) && c else none
 | _, _ => none

def EqFlat (P : Program) (d : Nat) (t : TypeId) (q n : Nat) : Prop := ∀ (w : World) (ro : Nat -> Prop) (us vs : List Value) (xs ys : List D) (c : Bool),
 zq ro w xs us -> zq ro w ys vs -> xs.length = n -> eqD q xs ys = some c -> (Op.equalIn d t (.agg us.toArray) (.agg vs.toArray)).run P w = .ok c w

structure TOk (P : Program) (t : TypeId) (ti : TI) : Prop where
 info : ∃ i z, P.info? t = some i /\ i.size = ti.size /\ i.bytes = ti.bytes /\ i.zero = some z /\ z.cells.toList.map zav = ti.zero /\ z.cells.size = ti.size /\ z.cells.toList.all Value.oneCell' = true
 kind : match ti.kind with
  | .slice e => P.underlying t = some (.slice e)
  | .struct l => ∃ fs, P.underlying t = some (.struct fs) /\ fs.toList.map (fun f => (f.offset, P.cellsOf f.type, (P.underlying f.type).any zgf)) = l /\ fs.toList.all (fun f => (P.underlying f.type).isSome && decide (P.cellsOf f.type ≠ 0)) = true
  | .arr n e => P.underlying t = some (.array n e)
  | .int k => P.underlying t = some (.int k)
  | .bool => P.underlying t = some .bool
  | .str => P.underlying t = some .string
  | .one => (P.underlying t).any (fun d => !zgf d) = true
  | .map k e => P.underlying t = some (.map k e)
 eqs : ti.eqs ≠ 0 -> P.eqGuardType P.depth t = false /\ EqFlat P 10000 t ti.eqs ti.size
 eqf : ti.eqs ≠ 0 -> ∀ fs, P.underlying t = some (.struct fs) -> P.stoodInHeld t = false /\ fs.toList.zipIdx.all (fun x => decide (x.1.offset = x.2) && decide (x.1.name ≠ "_") && zkr P x.1.type ti.eqs) = true /\ fs.toList.length = ti.size
 ne : t ≠ strE
 cellZ : ∀ i z, P.info? t = some i -> i.zero = some z -> ti.isAgg = false -> z.oneCell' = true

def zfc (P : Program) (o : Oper) (a : Act) (w : World) (R : Value -> World -> Prop) : Prop :=
 ∀ (K : Act -> World -> Prop) (Q : Exit -> Act -> World -> Prop), (∀ v w', R v w' -> K (a.put o.dst v) w') -> o.wp P a w K Q

theorem zv {P : Program} {o : Oper} {a : Act} {w w' : World} {v : Value} {R : Value -> World -> Prop} (h : (execOp a.eval o).run P w = .ok (.value v) w') (hr : R v w') : zfc P o a w R := by
 intro K Q hK;unfold Oper.wp;rw [h, Oper.upon_value];exact hK v w' hr

theorem does_skip {P : Program} {o : Oper} {a : Act} {w w' : World} {R : Value -> World -> Prop} (h : (execOp a.eval o).run P w = .ok .skip w') (hr : R undef w') : zfc P o a w R := by
 intro K Q hK;unfold Oper.wp;rw [h, Oper.upon_skip];exact hK undef w' hr

theorem zik {P : Program} {o : Oper} {a : Act} {w w' : World} {f : FuncId} {args : Array Value} {R : Value -> World -> Prop} (h : (execOp a.eval o).run P w = .ok (.enter f args) w')
  (hc : Calls P f args w' fun e w'' => ∃ v, e = .returned v /\ R v w'') : zfc P o a w R := by
 intro K Q hK;unfold Oper.wp;rw [h, Oper.upon_enter];refine hc.mono fun e w'' ⟨v, he, hr⟩ => ?_;subst he;exact hK v w'' hr

theorem TOk.agg {P : Program} {t : TypeId} {ti : TI} (h : TOk P t ti) (w : World) : (isAgg t).run P w = .ok ti.isAgg w := by
 have hk := h.kind;unfold isAgg TI.isAgg;cases hti : ti.kind <;> rw [hti] at hk <;> simp only at hk
 case slice e => simp [run_underlying hk]
 case struct l => obtain ⟨fs, hu, _⟩ := hk; simp [run_underlying hu]
 case arr n e => simp [run_underlying hk]
 case int k => simp [run_underlying hk]
 case bool => simp [run_underlying hk]
 case str => simp [run_underlying hk]
 case map k e => simp [run_underlying hk]
 case one =>
  cases hu : P.underlying t with
  | none => rw [hu] at hk; simp at hk
  | some d =>
   rw [hu] at hk;simp at hk;rw [Sem.run_bind, run_underlying hu];cases d <;> simp [zgf] at hk ⊢

theorem TOk.sizeOf {P : Program} {t : TypeId} {ti : TI} (h : TOk P t ti) (w : World) : (Go.sizeOf t).run P w = .ok ti.size w := by
 obtain ⟨i, z, hi, hs, _⟩ := h.info;simp [Go.sizeOf, typeInfo, hi, hs]

def zug (ti : TI) (row : List AV) : Option AV :=
 if ti.isAgg then (if ti.size <= row.length then some (mkAgg (row.take ti.size)) else none) else row.head?

theorem zj.take {g : G} {w : World} {l : List AV} {vs : List Value} (h : zj g w l vs) (k : Nat) : zj g w (l.take k) (vs.take k) :=
 zj.of_get (by simp [h.length]) fun j d hj => by
  rw [List.getElem?_take] at hj ⊢;split at hj
  ·rename_i e; rw [if_pos e]; exact h.get j d hj
  ·cases hj

theorem zj.drop {g : G} {w : World} {l : List AV} {vs : List Value} (h : zj g w l vs) (k : Nat) : zj g w (l.drop k) (vs.drop k) :=
 zj.of_get (by simp [h.length]) fun j d hj => by
  rw [List.getElem?_drop] at hj ⊢;exact h.get _ d hj

theorem zj.append {g : G} {w : World} {l l' : List AV} {vs vs' : List Value} (h : zj g w l vs) (h' : zj g w l' vs') : zj g w (l ++ l') (vs ++ vs') :=
 zj.of_get (by simp [h.length, h'.length]) fun j d hj => by
  rw [List.getElem?_append] at hj ⊢;rw [h.length];split at hj
  ·rename_i e; rw [if_pos e]; exact h.get _ d hj
  ·rename_i e; rw [if_neg e]; exact h'.get _ d hj

theorem zj.split {g : G} {w : World} : ∀ {l l' : List AV} {vs vs' : List Value}, zj g w (l ++ l') (vs ++ vs') -> vs.length = l.length -> zj g w l vs /\ zj g w l' vs'
 | [], l', [], vs', h, _ => ⟨by simp [zj], h⟩
 | [], _, _ :: _, _, _, h => by simp at h
 | _ :: _, _, [], _, _, h => by simp at h
 | a :: l, l', v :: vs, vs', h, hl => by
  simp only [List.cons_append, zj] at h;obtain ⟨u, us, he, h1, h2⟩ := h;simp only [List.cons.injEq] at he;obtain ⟨rfl, rfl⟩ := he;obtain ⟨h3, h4⟩ := zj.split h2 (by simpa using hl);exact ⟨by simp only [zj]; exact ⟨_, _, rfl, h1, h3⟩, h4⟩
theorem zch.one {w : World} {b o : Nat} {vs : List Value} (h : zch w b o vs) : zbl vs := fun v hv => by
 obtain ⟨j, hj⟩ := List.mem_iff_getElem?.1 hv;exact (h j v hj).2

theorem zoa {P : Program} {t : TypeId} {ti : TI} (ht : TOk P t ti) {g : G} {w : World} {b o : Nat} {us : List Value} {row : List AV} {x : AV} (hc : zch w b o us) (hr : zj g w row us) (hx : zug ti row = some x) :
  ∃ v, (Instr.loadAt t (.pointer (some ⟨b, o, none⟩))).run P w = .ok v w /\ zh g w x v := by
 have hl := hr.length;unfold zug at hx;by_cases hagg : ti.isAgg = true
 ·simp only [hagg, if_true] at hx;split at hx
  ·rename_i hsz;cases hx;have hc' := hc.take ti.size;have hlen : (us.take ti.size).length = ti.size := by simp; omega
   refine ⟨.agg (us.take ti.size).toArray, ?_, zh.mkAgg hc'.one (hr.take ti.size)⟩;have hrun := run_loadCells_list (P := P) w ⟨b, o, none⟩ (us.take ti.size) (fun j v hj => by rw [Addr.add_lit]; exact (hc' j v hj).1);rw [hlen] at hrun;simp only [Instr.loadAt, Instr.sureAddr, loadVar, Sem.run_bind, Sem.run_pure, Result.andThen_ok, ht.agg, hagg, if_true, ht.sizeOf, hrun]
  ·cases hx
 ·simp only [Bool.not_eq_true] at hagg;simp only [hagg, Bool.false_eq_true, if_false] at hx;cases row with
  | nil => simp at hx
  | cons y row =>
   simp at hx;subst hx;simp only [zj] at hr;obtain ⟨v, vs', rfl, h1, h2⟩ := hr;have h0 := (hc 0 v (by simp)).1;simp only [Nat.add_zero] at h0;refine ⟨v, ?_, h1⟩;simp only [Instr.loadAt, Instr.sureAddr, loadVar, Sem.run_bind, Sem.run_pure, Result.andThen_ok, ht.agg, hagg, Bool.false_eq_true, if_false, run_load, h0]

theorem zfl.setRow {w : World} {g : Nat} {e : TypeId} {cur cs : Array Value} (h : zfl (w.heap[g]?) e cur) (hs : cs.size = cur.size) : zfl ((w.setRow g cs).heap[g]?) e cs := by
 obtain ⟨el, fr, h1, h2, h3⟩ := h;exact ⟨el, fr, setRow_heap w g cur cs el fr h1, h2, by rw [hs]; exact h3⟩
theorem zfl.cell {w : World} {g : Nat} {e : TypeId} {cur : Array Value} (h : zfl (w.heap[g]?) e cur) (o : Nat) : w.cell? ⟨g, o, none⟩ = cur[o]? := by
 obtain ⟨el, fr, h1, _⟩ := h;simp [World.cell?, h1]
theorem zfl.open {w : World} {g : Nat} {e : TypeId} {cur : Array Value} (h : zfl (w.heap[g]?) e cur) {o : Nat} (ho : o < cur.size) : w.frozen? ⟨g, o, none⟩ = false := by
 obtain ⟨el, ⟨lo, hi⟩, h1, _, h3⟩ := h;simp only [World.frozen?, h1, Bool.and_eq_false_iff, decide_eq_false_iff_not];rcases h3 with h3 | h3
 ·cases h3; right; omega
 ·simp only at h3; left; omega
theorem zgi (P : Program) (g o : Nat) (e : TypeId) : ∀ (vs : List Value) (i : Nat) (cur : Array Value) (w : World), zfl (w.heap[g]?) e cur -> o + i + vs.length <= cur.size -> (∀ v ∈ vs, v.oneCell' = true) ->
  (storeCells ⟨g, o, none⟩ vs i).run P w = .ok () (w.setRow g (cur.toList.take (o + i) ++ vs ++ cur.toList.drop (o + i + vs.length)).toArray)
 | [], i, cur, w, hg, _, _ => by
  obtain ⟨el, fr, h1, _⟩ := hg;simp only [storeCells, List.append_nil, List.length_nil, Nat.add_zero, List.take_append_drop, Array.toArray_toList];rw [setRow_self w g cur el fr h1];rfl
 | v :: rest, i, cur, w, hg, hl, h1 => by
  have hi : o + i < cur.size := by simp at hl; omega
  have hadd : (⟨g, o, none⟩ : Addr).add i = ⟨g, o + i, none⟩ := by unfold Addr.add; split <;> simp_all
  have hcell : w.cell? ⟨g, o + i, none⟩ = some cur[o + i] := by rw [hg.cell]; simp [hi]
  have hfro := hg.open hi;have hst : (store ((⟨g, o, none⟩ : Addr).add i) v).run P w = .ok () (w.setRow g (cur.setIfInBounds (o + i) v)) := by
   rw [hadd, run_store P w _ v _ (h1 v (by simp)), hcell];obtain ⟨el, fr, h2, _⟩ := hg;simp [hfro, setCell_eq_setRow w g (o + i) cur el fr v h2]
  have ih := zgi P g o e rest (i + 1) (cur.setIfInBounds (o + i) v) (w.setRow g (cur.setIfInBounds (o + i) v)) (hg.setRow (by simp)) (by simp at hl ⊢; omega) (fun x hx => h1 x (by simp [hx]));simp only [storeCells, Sem.run_bind, hst, Result.andThen_ok, ih, setRow_setRow]
  congr 3
  have e := list_seg_step cur.toList (o + i) v rest (by simp at hl ⊢; omega);simpa [Array.toList_setIfInBounds, Nat.add_assoc] using e

theorem znf.row {g : G} {w : World} {L : Loc} {o : Ob} (h : znf g w L o) (hv : L.virt = false /\ L.map = false) {i : Nat} {row : List AV} (hi : o.rows[i]? = some row) :
  ∃ us : List Value, us.length = L.m /\ zj g w row us /\ zch w L.blk (i * L.m) us := by
 obtain ⟨cur, h1, h2, h3, h5⟩ := h.cells hv;obtain ⟨hl, hr⟩ := h5 i row hi;have hlt : i < o.rows.length := (List.getElem?_eq_some_iff.1 hi).1;have hcap : i * L.m + L.m <= cur.size := by
  rw [h2, <- Nat.succ_mul];exact Nat.mul_le_mul_right _ (Nat.le_trans hlt (h.len hv.2))
 have hlen : ((cur.toList.drop (i * L.m)).take L.m).length = L.m := by simp; omega
 refine ⟨(cur.toList.drop (i * L.m)).take L.m, hlen, zj.of_get (by rw [hlen, hl]) fun j av hj => ?_, fun j v hj => ?_⟩
 ·obtain ⟨v, hv', ho, hr'⟩ := hr j av hj;refine ⟨v, ?_, hr'⟩;have hjm : j < L.m := by rw [<- hl]; exact (List.getElem?_eq_some_iff.1 hj).1
  rw [List.getElem?_take, if_pos hjm, List.getElem?_drop];simpa using hv'
 ·have hjm : j < L.m := by rw [<- hlen]; exact (List.getElem?_eq_some_iff.1 hj).1
  rw [List.getElem?_take, if_pos hjm, List.getElem?_drop] at hj;have hrow : ∃ av, row[j]? = some av := ⟨row[j]'(by omega), List.getElem?_eq_getElem _⟩
  obtain ⟨av, hav⟩ := hrow;obtain ⟨v', hv', ho, _⟩ := hr j av hav;have : v' = v := by
   have e1 : cur[i * L.m + j]? = some v := by simpa using hj
   rw [e1] at hv';exact (Option.some.inj hv').symm
  subst this;refine ⟨?_, ho⟩;rw [h1.cell];simpa using hv'

def zcz : AV -> Option (List AV)
 | .d (.agg cs) => some (cs.map .d)
 | .d (.tup _) => none
 | .agg l => some l
 | .any => none
 | .tup _ => none
 | .opt _ _ => none
 | .ub _ _ => none
 | .pin _ _ => none
 | .lit _ => none
 | x => some [x]

theorem ztw {g : G} {w : World} {x : AV} {v : Value} {l : List AV} (h : zh g w x v) (hl : zcz x = some l) : zj g w l v.cells.toList /\ zbl v.cells.toList := by
 have single : ∀ u : Value, u.oneCell' = true -> u.cells.toList = [u] := fun u hu => by cases u <;> simp_all [Value.cells, Value.oneCell']
 cases x with
 | any => simp [zcz] at hl
 | tup _ => simp [zcz] at hl
 | opt _ _ => simp [zcz] at hl
 | ub _ _ => simp [zcz] at hl
 | pin _ _ => simp [zcz] at hl
 | lit _ => simp [zcz] at hl
 | agg k =>
  simp [zcz] at hl; subst hl;simp only [zh] at h;obtain ⟨vs, rfl, ho, hr⟩ := h;exact ⟨by simpa [Value.cells] using hr, by simpa [Value.cells] using ho⟩
 | d y =>
  cases y with
  | agg cs =>
   simp [zcz] at hl; subst hl;simp only [zh, zr] at h;obtain ⟨vs, rfl, ho, hr⟩ := h;exact ⟨by simpa [Value.cells] using zj.of_ds hr, by simpa [Value.cells] using ho⟩
  | tup cs => simp [zcz] at hl
  | _ =>
   simp [zcz] at hl; subst hl;have ho : v.oneCell' = true := by simp only [zh] at h; exact zr.cell h rfl
   rw [single v ho];exact ⟨by simp only [zj]; exact ⟨v, [], rfl, h, rfl⟩, fun u hu => by simp at hu; subst hu; exact ho⟩
 | nl =>
  simp [zcz] at hl; subst hl;have h' := h;simp only [zh] at h; subst h;exact ⟨by simp only [Value.cells, zj]; exact ⟨_, [], rfl, h', rfl⟩, fun u hu => by simp [Value.cells] at hu; subst hu; rfl⟩
 | hs id off len =>
  simp [zcz] at hl; subst hl;have h' := h;simp only [zh] at h;rw [single v h.1.2];exact ⟨by simp only [zj]; exact ⟨v, [], rfl, h', rfl⟩, fun u hu => by simp at hu; subst hu; exact h.1.2⟩
 | ptr id i j =>
  simp [zcz] at hl; subst hl;have h' := h;simp only [zh] at h;rw [single v h.1.2];exact ⟨by simp only [zj]; exact ⟨v, [], rfl, h', rfl⟩, fun u hu => by simp at hu; subst hu; exact h.1.2⟩
 | hm id =>
  simp [zcz] at hl; subst hl;have h' := h;simp only [zh] at h;rw [single v h.1.2];exact ⟨by simp only [zj]; exact ⟨v, [], rfl, h', rfl⟩, fun u hu => by simp at hu; subst hu; exact h.1.2⟩
 | clo f caps =>
  simp [zcz] at hl; subst hl;have h' := h;simp only [zh] at h;obtain ⟨vs, rfl, _⟩ := h;obtain ⟨x1, x2, hx⟩ := mkFn_func f vs;rw [hx] at h' ⊢;exact ⟨by simp only [Value.cells, zj]; exact ⟨_, [], rfl, h', rfl⟩, fun u hu => by simp [Value.cells] at hu; subst hu; rfl⟩


def putCells : List AV -> Nat -> List AV -> List AV
 | row, _, [] => row
 | row, j, x :: xs => putCells (row.set j x) (j + 1) xs

theorem zjc : ∀ (row : List AV) (j : Nat) (l : List AV), (putCells row j l).length = row.length
 | _, _, [] => rfl
 | row, j, x :: xs => by simp only [putCells]; rw [zjc]; simp

theorem znt : ∀ (row : List AV) (j : Nat) (l : List AV) (k : Nat), j + l.length <= row.length ->
  (putCells row j l)[k]? = if j <= k /\ k < j + l.length then l[k - j]? else row[k]?
 | row, j, [], k, _ => by simp only [putCells, List.length_nil, Nat.add_zero]; rw [if_neg (by omega)]
 | row, j, x :: xs, k, h => by
  simp only [putCells];simp only [List.length_cons] at h ⊢;rw [znt _ _ _ _ (by simp; omega), List.getElem?_set];by_cases e : j = k
  ·subst e;rw [if_neg (by omega), if_pos rfl, if_pos (by omega), if_pos (by omega)];simp
  ·rw [if_neg e];by_cases e2 : j + 1 <= k /\ k < j + 1 + xs.length
   ·rw [if_pos e2, if_pos (by omega), show k - j = (k - (j + 1)) + 1 by omega, List.getElem?_cons_succ]
   ·rw [if_neg e2];rw [if_neg (by omega)]

theorem splice_get {α : Type} (cs vs : List α) (o k : Nat) (h : o + vs.length <= cs.length) :
  (cs.take o ++ vs ++ cs.drop (o + vs.length))[k]? = if o <= k /\ k < o + vs.length then vs[k - o]? else cs[k]? := by
 have hlo : (cs.take o).length = o := by simp; omega
 rw [List.append_assoc, List.getElem?_append, hlo];by_cases e : k < o
 ·rw [if_pos e, if_neg (by omega), List.getElem?_take, if_pos e]
 ·rw [if_neg e, List.getElem?_append];by_cases e2 : k - o < vs.length
  ·rw [if_pos e2, if_pos (by omega)]
  ·rw [if_neg e2, if_neg (by omega), List.getElem?_drop]
   congr 1
   omega

theorem store_sound {P : Program} {t : TypeId} {ti : TI} (ht : TOk P t ti) {g : G} {obj : Nat -> Option Ob} {w : World} (h : zam g obj w) {id i j : Nat} {o : Ob} {row l : List AV} {x : AV} {p v : Value}
  (ho : obj id = some o) (hrow : o.rows[i]? = some row) (hp : zh g w (.ptr id i j) p) (hx : zh g w x v) (hl : zcz x = some l) (hsz : l.length = ti.size) (hfit : j + l.length <= row.length) :
  ∃ w' g', (Instr.storeAt t p v).run P w = .ok () w' /\ zam g' (zbh obj id (some ⟨o.elem, o.m, o.rows.set i (putCells row j l)⟩)) w' /\ zan g w g' w' /\ zbs g w g' w' /\ (∀ k, g'.used k -> g.used k) := by
 obtain ⟨L, hL, hok⟩ := h.own id o ho;simp only [zh] at hp;obtain ⟨hvirt, rfl⟩ := hp.2 L hL;obtain ⟨hrep, hone⟩ := ztw hx hl;have hvl : v.cells.toList.length = l.length := hrep.length;obtain ⟨cur, h1, h2, h3, h5⟩ := hok.cells hvirt;obtain ⟨hrl, _⟩ := h5 i row hrow;have hlt : i < o.rows.length := (List.getElem?_eq_some_iff.1 hrow).1;have hcap : i * L.m + L.m <= cur.size := by
  rw [h2, <- Nat.succ_mul];exact Nat.mul_le_mul_right _ (Nat.le_trans hlt (hok.len hvirt.2))
 have hrun := zgi P L.blk (i * L.m + j) o.elem v.cells.toList 0 cur w h1 (by rw [hvl]; omega) hone;simp only [Nat.add_zero] at hrun;have hsize : v.cells.size = ti.size := by rw [<- hsz, <- hvl]; simp
 have hstore : (Instr.storeAt t (.pointer (some ⟨L.blk, i * L.m + j, none⟩)) v).run P w = .ok () (w.setRow L.blk (cur.toList.take (i * L.m + j) ++ v.cells.toList ++ cur.toList.drop (i * L.m + j + v.cells.toList.length)).toArray) := by
  simp only [Instr.storeAt, Instr.sureAddr, storeVar, Sem.run_bind, Sem.run_pure, Result.andThen_ok, ht.sizeOf, hsize, ne_eq, not_true_eq_false, if_false, hrun]
 have hw := zam.write (w' := w.setRow L.blk (cur.toList.take (i * L.m + j) ++ v.cells.toList ++ cur.toList.drop (i * L.m + j + v.cells.toList.length)).toArray) h hL hvirt (.inl rfl)
  ⟨o.elem, o.m, o.rows.set i (putCells row j l)⟩ (cur.toList.take (i * L.m + j) ++ v.cells.toList ++ cur.toList.drop (i * L.m + j + v.cells.toList.length)).toArray rfl ⟨rfl, .inr (Nat.le_refl _)⟩ rfl (by simp [World.setRow])
  (fun b _ hb => setRow_other w L.blk b _ hb) (.inl rfl) (h1.setRow (by simp only [List.size_toArray, List.length_append, List.length_take, List.length_drop, Array.length_toList]; omega)) hok.m.symm hok.pos (cap := L.cap) (by rw [<- h2]; simp only [List.size_toArray, List.length_append, List.length_take, List.length_drop, Array.length_toList]; omega) (by simpa using hok.len hvirt.2) h3 (fun _ => ⟨rfl, rfl⟩) ?_
 ·obtain ⟨g', _, hu, hro, hH, hS, hLt⟩ := hw;refine ⟨_, g', hstore, ?_, hS, hLt, fun k hk => ?_⟩
  ·have : zbh (zbh obj id none) id (some ⟨o.elem, o.m, o.rows.set i (putCells row j l)⟩) = zbh obj id (some ⟨o.elem, o.m, o.rows.set i (putCells row j l)⟩) := by
    funext k; simp only [zbh]; split <;> rfl
   rw [<- this]; exact hH
  ·rw [hu] at hk;rcases hk with hk | rfl
   ·exact hk
   ·exact (h.live _ L hL).1
 ·intro i' row' hi';rw [List.getElem?_set] at hi';have hbound : ∀ k, k < row.length -> i * L.m + k < cur.size := fun k hk => by omega
  have hget : ∀ p : Nat, (cur.toList.take (i * L.m + j) ++ v.cells.toList ++ cur.toList.drop (i * L.m + j + v.cells.toList.length)).toArray[p]? =
    if i * L.m + j <= p /\ p < i * L.m + j + v.cells.toList.length then v.cells.toList[p - (i * L.m + j)]? else cur[p]? := fun p => by
   rw [List.getElem?_toArray, splice_get _ _ _ _ (by simp only [Array.length_toList]; omega)];simp
  by_cases e : i = i'
  ·subst e;rw [if_pos rfl, if_pos hlt] at hi';cases hi';refine ⟨by rw [zjc]; exact hrl, fun k av hk => ?_⟩;rw [znt _ _ _ _ hfit] at hk;rw [hget];by_cases e2 : j <= k /\ k < j + l.length
   ·rw [if_pos e2] at hk;rw [if_pos (by omega), show i * L.m + k - (i * L.m + j) = k - j by omega];obtain ⟨u, hu, hr⟩ := hrep.get _ _ hk;exact ⟨u, hu, hone u (List.mem_of_getElem? hu), hr⟩
   ·rw [if_neg e2] at hk;rw [if_neg (by omega)];exact (h5 i row hrow).2 k av hk
  ·rw [if_neg e] at hi';obtain ⟨hrl', hr'⟩ := h5 i' row' hi';refine ⟨hrl', fun k av hk => ?_⟩;rw [hget];have hkm : k < L.m := by rw [<- hrl']; exact (List.getElem?_eq_some_iff.1 hk).1
   have hne : ¬ (i * L.m + j <= i' * L.m + k /\ i' * L.m + k < i * L.m + j + v.cells.toList.length) := by
    rintro ⟨a1, a2⟩;rcases Nat.lt_or_gt_of_ne e with hlt' | hlt'
    ·have := Nat.mul_le_mul_right L.m (show i + 1 <= i' from hlt');rw [Nat.succ_mul] at this;omega
    ·have := Nat.mul_le_mul_right L.m (show i' + 1 <= i from hlt');rw [Nat.succ_mul] at this;omega
   rw [if_neg hne];exact hr' k av hk


def dr (l : List (List D)) : List (List AV) := l.map (·.map AV.d)


def zcu (obj : Nat -> Option Ob) : List (Nat × Option Ob) -> Nat -> Option Ob
 | [] => obj
 | (i, o) :: r => zcu (zbh obj i o) r

structure Eff where
 val : AV
 wr : List (Nat × Option Ob) := []
 ob : Prop := True

def zaj (g : G) (obj : Nat -> Option Ob) (w : World) (nid : Nat) (e : Eff) (v : Value) (w' : World) : Prop :=
 ∃ g', zam g' (zcu obj e.wr) w' /\ zan g w g' w' /\ zbs g w g' w' /\ (∀ k, g'.used k -> g.used k \/ k = nid) /\ zh g' w' e.val v

theorem zaj.same {g : G} {obj : Nat -> Option Ob} {w : World} {nid : Nat} {v : Value} {x : AV} {p : Prop} (h : zam g obj w) (hr : zh g w x v) : zaj g obj w nid { val := x, ob := p } v w :=
 ⟨g, h, zan.refl g w, ⟨fun b hb => ⟨hb, rfl⟩, fun _ hk => hk, fun _ _ => .inl rfl⟩, fun _ hk => .inl hk, hr⟩

theorem new_sound {g : G} {obj : Nat -> Option Ob} {w : World} (h : zam g obj w) {nid : Nat} (hid : ¬ g.used nid) (o : Ob) (cur : Array Value) (cap : Nat)
  (hm : 0 < o.m) (hcs : cur.size = cap * o.m) (hlen : o.rows.length <= cap) (hcap : cap <= maxLen)
  (hrep : ∀ i row, o.rows[i]? = some row -> row.length = o.m /\ ∀ (j : Nat) (av : AV), row[j]? = some av -> ∃ v : Value, cur[i * o.m + j]? = some v /\ v.oneCell' = true /\ zh g w av v) (w1 : World)
  (hw1 : w1 = w \/ w1 = w.drew) :
  ∃ g', g'.loc nid = some ⟨w.heap.size, o.m, cap, false, false⟩ /\ g'.used nid /\ zam g' (zbh obj nid (some o)) (w1.alloc (.cells cur o.elem)) /\ zan g w g' (w1.alloc (.cells cur o.elem)) /\ zbs g w g' (w1.alloc (.cells cur o.elem)) /\ (∀ k, g'.used k -> g.used k \/ k = nid) := by
 have hheap : (w1.alloc (.cells cur o.elem)).heap = w.heap.push (.cells cur o.elem) := by rcases hw1 with rfl | rfl <;> rfl
 obtain ⟨g', h1, h2, h3, h4, h5, h6⟩ := zam.new (w' := w1.alloc (.cells cur o.elem)) (B := w.heap.size) (cap := cap) h hid o cur (by rcases hw1 with rfl | rfl <;> rfl) (by rcases hw1 with rfl | rfl <;> first | exact ⟨rfl, .inr (Nat.le_refl _)⟩ | exact ⟨rfl, .inr (Nat.le_succ _)⟩) (by rcases hw1 with rfl | rfl <;> rfl) (Nat.le_refl _)
  (by rw [hheap]; simp) (fun b hb => by rw [hheap, Array.getElem?_push, if_neg (by omega)]) (.of (by rw [hheap]; simp)) hm hcs hlen hcap hrep
 exact ⟨g', h1, by rw [h2]; exact .inr rfl, h4, h5, h6, fun k hk => by rw [h2] at hk; exact hk⟩

theorem rep_ptr {g : G} {w : World} {id : Nat} {L : Loc} (hu : g.used id) (hL : g.loc id = some L) (hv : L.virt = false /\ L.map = false) : zh g w (.ptr id 0 0) (.pointer (some ⟨L.blk, 0, none⟩)) := by
 simp only [zh];refine ⟨⟨hu, rfl⟩, fun M hM => ?_⟩;rw [hL] at hM; cases hM;exact ⟨hv, by simp⟩

theorem ztd {g : G} {w : World} {id len : Nat} {L : Loc} (hu : g.used id) (hL : g.loc id = some L) (hv : L.virt = false /\ L.map = false) (hle : len <= L.cap) : zh g w (.hs id 0 len) (.slice (some ⟨L.blk, 0, none⟩) len L.cap) := by
 simp only [zh];refine ⟨⟨hu, rfl⟩, fun M hM => ?_⟩;rw [hL] at hM; cases hM;exact .inr ⟨hv, by omega, by simp⟩

theorem box_sound {g : G} {obj : Nat -> Option Ob} {w : World} (h : zam g obj w) {nid : Nat} (hid : ¬ g.used nid) (t : TypeId) (l : List AV) (cs : Array Value) (hr : zj g w l cs.toList) (ho : zbl cs.toList) (hpos : 0 < l.length) :
  zaj g obj w nid { val := .ptr nid 0 0, wr := [(nid, some ⟨t, l.length, [l]⟩)] } (.pointer (some ⟨w.heap.size, 0, none⟩)) (w.alloc (.cells cs t)) := by
 have hl := hr.length;obtain ⟨g', h1, h2, h3, h4, h5, h6⟩ := new_sound h hid ⟨t, l.length, [l]⟩ cs 1 hpos (by simp only [Array.length_toList] at hl; simp only [Nat.one_mul]; exact hl) (by simp) (by simp [maxLen]) (fun i row hi => by
  cases i with
  | succ i => simp at hi
  | zero =>
   simp at hi; subst hi;refine ⟨rfl, fun j av hj => ?_⟩;obtain ⟨v, hv, hr'⟩ := hr.get j av hj;exact ⟨v, by simpa using hv, ho v (List.mem_of_getElem? hv), hr'⟩) w (.inl rfl)
 exact ⟨g', h3, h4, h5, h6, rep_ptr h2 h1 ⟨rfl, rfl⟩⟩

theorem TOk.zero {P : Program} {t : TypeId} {ti : TI} (h : TOk P t ti) (g : G) (w : World) : ∃ z, (zeroValue t).run P w = .ok z w /\ zj g w ti.zero z.cells.toList /\ zbl z.cells.toList /\ ti.zero.length = ti.size /\ z.cells.size = ti.size := by
 obtain ⟨i, z, hi, hs, hb, hz, hc, hsz, ho⟩ := h.info;refine ⟨z, by simp [zeroValue, typeInfo, hi, hz], ?_, fun v hv => List.all_eq_true.1 ho v hv, by rw [<- hc]; simpa using hsz, hsz⟩;rw [<- hc];refine zj.of_get (by simp) fun j d hj => ?_;rw [List.getElem?_map] at hj;cases hv : z.cells.toList[j]? with
 | none => rw [hv] at hj; cases hj
 | some v => rw [hv] at hj; cases hj; exact ⟨v, rfl, zav_rep g w v⟩

theorem alloc_sound {P : Program} {t : TypeId} {ti : TI} (ht : TOk P t ti) (hpos : 0 < ti.size) {g : G} {obj : Nat -> Option Ob} {w : World} (h : zam g obj w) {nid : Nat} (hid : ¬ g.used nid) :
  ∃ v w', (Instr.alloc t true (.tuple #[])).run P w = .ok v w' /\ zaj g obj w nid { val := .ptr nid 0 0, wr := [(nid, some ⟨t, ti.zero.length, [ti.zero]⟩)] } v w' := by
 obtain ⟨z, hz, hr, ho, hl, hs⟩ := ht.zero g w;refine ⟨.pointer (some ⟨w.heap.size, 0, none⟩), w.alloc (.cells z.cells t), ?_, box_sound h hid t ti.zero z.cells hr ho (by omega)⟩;simp [Instr.alloc, hz, newVar, newRow]

theorem foldSet_get (off : Nat) : ∀ (vs : List Value) (s : Nat) (cs : Array Value) (p : Nat), off + s + vs.length <= cs.size ->
  ((vs.zipIdx s).foldl (fun cs (x : Value × Nat) => cs.setIfInBounds (off + x.2) x.1) cs)[p]? = if off + s <= p /\ p < off + s + vs.length then vs[p - (off + s)]? else cs[p]?
 | [], s, cs, p, _ => by simp only [List.zipIdx_nil, List.foldl_nil, List.length_nil]; rw [if_neg (by omega)]
 | v :: vs, s, cs, p, h => by
  simp only [List.length_cons] at h ⊢;rw [List.zipIdx_cons, List.foldl_cons, foldSet_get off vs (s + 1) _ p (by simp; omega)];simp only [Array.getElem?_setIfInBounds];by_cases e : off + s = p
  ·subst e;rw [if_neg (by omega), if_pos rfl, if_pos (by omega), if_pos (by omega)];simp
  ·by_cases e2 : off + (s + 1) <= p /\ p < off + (s + 1) + vs.length
   ·rw [if_pos e2, if_pos (by omega), show p - (off + s) = (p - (off + (s + 1))) + 1 by omega, List.getElem?_cons_succ]
   ·rw [if_neg e2, if_neg e, if_neg (by omega)]

theorem zod (off : Nat) : ∀ (l : List (Value × Nat)) (cs : Array Value), (l.foldl (fun cs (x : Value × Nat) => cs.setIfInBounds (off + x.2) x.1) cs).size = cs.size
 | [], _ => rfl
 | x :: l, cs => by rw [List.foldl_cons, zod off l]; simp

def zvs (place : Nat -> Option (Nat × Nat)) : List AV -> List (Nat × AV) -> Option (List AV)
 | l, [] => some l
 | l, (i, x) :: rest =>
  match place i, zcz x with
  | some (off, size), some c => if c.length = size /\ off + size <= l.length then zvs place (putCells l off c) rest else none
  | _, _ => none

theorem zog {g : G} {w : World} {place : Nat -> Option (Nat × Nat)} : ∀ (zfx : List (Nat × AV)) (vals : List (Nat × Value)) (l l' : List AV) (cs : Array Value),
  vals.map (·.1) = zfx.map (·.1) -> zj g w (zfx.map (·.2)) (vals.map (·.2)) -> zj g w l cs.toList -> zbl cs.toList -> zvs place l zfx = some l' ->
  ∃ cs', Instr.fill place cs vals = some cs' /\ zj g w l' cs'.toList /\ zbl cs'.toList /\ cs'.size = cs.size
 | [], [], l, l', cs, _, _, hr, ho, h => by simp [zvs] at h; subst h; exact ⟨cs, rfl, hr, ho, rfl⟩
 | [], _ :: _, _, _, _, h, _, _, _, _ => by simp at h
 | _ :: _, [], _, _, _, h, _, _, _, _ => by simp at h
 | (i, x) :: zfx, (i', v) :: vals, l, l', cs, hk, hv, hr, ho, h => by
  simp only [List.map_cons, List.cons.injEq] at hk;obtain ⟨hi, hk⟩ := hk;subst hi;simp only [List.map_cons, zj] at hv;obtain ⟨_, _, heq, hx, hv⟩ := hv;simp only [List.cons.injEq] at heq;obtain ⟨rfl, rfl⟩ := heq;simp only [zvs] at h;cases hp : place i' with
  | none => simp [hp] at h
  | some os =>
   obtain ⟨off, size⟩ := os;cases hc : zcz x with
   | none => simp [hp, hc] at h
   | some c =>
    simp only [hp, hc] at h;split at h
    ·rename_i hsz;obtain ⟨hrep, hone⟩ := ztw hx hc;have hlc := hrep.length;have hll := hr.length;have hvs : v.cells.size = size := by have := hlc; simp only [Array.length_toList] at this; omega
     have hsize : off + v.cells.size <= cs.size := by simp only [Array.length_toList] at hll; omega
     have hfold : v.cells.zipIdx.foldl (fun cs (x : Value × Nat) => cs.setIfInBounds (off + x.2) x.1) cs = (v.cells.toList.zipIdx 0).foldl (fun cs (x : Value × Nat) => cs.setIfInBounds (off + x.2) x.1) cs := by
      rw [<- Array.foldl_toList, Array.toList_zipIdx]
     have hget := fun p => foldSet_get off v.cells.toList 0 cs p (by simp only [Nat.add_zero, Array.length_toList]; exact hsize);obtain ⟨cs', h1, h2, h3, h4⟩ := zog zfx vals (putCells l off c) l' ((v.cells.toList.zipIdx 0).foldl (fun cs (x : Value × Nat) => cs.setIfInBounds (off + x.2) x.1) cs) hk hv (by
      refine zj.of_get (by rw [Array.length_toList, zod, zjc]; simpa using hll) fun k d hkd => ?_;rw [znt _ _ _ _ (by omega)] at hkd;rw [Array.getElem?_toList, hget];simp only [Nat.add_zero];by_cases e : off <= k /\ k < off + c.length
      ·rw [if_pos e] at hkd;rw [if_pos (by rw [hlc]; exact e)];exact hrep.get _ _ hkd
      ·rw [if_neg e] at hkd;rw [if_neg (by rw [hlc]; exact e)];have := hr.get _ _ hkd;simpa using this) (fun u hu => by
      obtain ⟨k, hk'⟩ := List.mem_iff_getElem?.1 hu;rw [Array.getElem?_toList, hget] at hk';split at hk'
      ·exact hone u (List.mem_of_getElem? hk')
      ·exact ho u (List.mem_of_getElem? (by simpa using hk'))) h
     refine ⟨cs', ?_, h2, h3, by rw [h4, zod]⟩;have hno : (decide (v.cells.size ≠ size) || decide (off + v.cells.size > cs.size)) = false := by simp; omega
     simp only [Instr.fill, hp, hno, Bool.false_eq_true, if_false];rw [hfold];exact h1
    ·cases h

def zoy : Nat -> Nat -> List AV -> List (List AV)
 | 0, _, _ => []
 | n + 1, m, l => l.take m :: zoy n m (l.drop m)

theorem zwh : ∀ (n m : Nat) (l : List AV), (zoy n m l).length = n
 | 0, _, _ => rfl
 | n + 1, m, l => by simp [zoy, zwh]

theorem chunk_get : ∀ (n m : Nat) (l : List AV) (i : Nat) (row : List AV), l.length = n * m -> (zoy n m l)[i]? = some row -> row.length = m /\ ∀ j, j < m -> row[j]? = l[i * m + j]?
 | 0, _, _, i, row, _, h => by simp [zoy] at h
 | n + 1, m, l, i, row, hl, h => by
  rw [Nat.succ_mul] at hl;cases i with
  | zero =>
   simp [zoy] at h; subst h;refine ⟨by simp; omega, fun j hj => ?_⟩;rw [List.getElem?_take, if_pos hj]; simp
  | succ i =>
   simp only [zoy, List.getElem?_cons_succ] at h;obtain ⟨h1, h2⟩ := chunk_get n m (l.drop m) i row (by simp; omega) h;refine ⟨h1, fun j hj => ?_⟩;rw [h2 j hj, List.getElem?_drop]
   congr 1
   rw [Nat.succ_mul]; omega

def rep : Nat -> List AV -> List AV
 | 0, _ => []
 | n + 1, l => l ++ rep n l

theorem ztc : ∀ (n : Nat) (l : List AV), (rep n l).length = n * l.length
 | 0, l => by simp [rep]
 | n + 1, l => by simp only [rep, List.length_append, ztc n l, Nat.succ_mul]; omega

theorem rep_get : ∀ (n : Nat) (l : List AV) (p : Nat), p < n * l.length -> (rep n l)[p]? = l[p % l.length]?
 | 0, l, p, h => by simp at h
 | n + 1, l, p, h => by
  rw [Nat.succ_mul] at h;simp only [rep, List.getElem?_append];by_cases e : p < l.length
  ·rw [if_pos e, Nat.mod_eq_of_lt e]
  ·rw [if_neg e, rep_get n l _ (by omega)];rw [<- Nat.mod_eq_sub_mod (by omega)]

theorem made_rep {g : G} {w : World} {l : List AV} {z : Array Value} (hr : zj g w l z.toList) (ho : zbl z.toList) (n : Nat) (hpos : 0 < l.length) :
  zj g w (rep n l) (madeCells z (n * l.length)).toList /\ zbl (madeCells z (n * l.length)).toList := by
 have hl : z.size = l.length := by have := hr.length; simpa using this
 have hget : ∀ p, p < n * l.length -> (madeCells z (n * l.length))[p]? = z[p % z.size]? := fun p hp => by
  have hlt : p % z.size < z.size := Nat.mod_lt _ (by omega);simp [madeCells, Array.getElem?_map, Array.getElem?_range, hp, hlt, getElem!_pos]
 constructor
 ·refine zj.of_get (by simp [size_madeCells, ztc]) fun j d hj => ?_;have hlt : j < n * l.length := by rw [<- ztc]; exact (List.getElem?_eq_some_iff.1 hj).1
  rw [rep_get n l j hlt] at hj;rw [Array.getElem?_toList, hget j hlt, hl];have := hr.get _ _ hj;simpa using this
 ·intro v hv;obtain ⟨j, hj⟩ := List.mem_iff_getElem?.1 hv;have hlt : j < n * l.length := by have := (List.getElem?_eq_some_iff.1 hj).1; simpa [size_madeCells] using this
  rw [Array.getElem?_toList, hget j hlt] at hj;exact ho v (List.mem_of_getElem? (by simpa using hj))

theorem rows_of_flat {g : G} {w : World} {l : List AV} {cs : Array Value} (hr : zj g w l cs.toList) (ho : zbl cs.toList) (n m : Nat) (hl : l.length = n * m) :
  ∀ i row, (zoy n m l)[i]? = some row -> row.length = m /\ ∀ (j : Nat) (av : AV), row[j]? = some av -> ∃ v : Value, cs[i * m + j]? = some v /\ v.oneCell' = true /\ zh g w av v := by
 intro i row hi;obtain ⟨h1, h2⟩ := chunk_get n m l i row hl hi;refine ⟨h1, fun j av hj => ?_⟩;have hjm : j < m := by rw [<- h1]; exact (List.getElem?_eq_some_iff.1 hj).1
 rw [h2 j hjm] at hj;obtain ⟨v, hv, hrep⟩ := hr.get _ _ hj;exact ⟨v, by simpa using hv, ho v (List.mem_of_getElem? hv), hrep⟩

theorem buildSlice_sound {P : Program} {t e : TypeId} {ti te : TI} (ht : TOk P t ti) (hk : ti.kind = .slice e) (he : TOk P e te) (hpos : 0 < te.size) {g : G} {obj : Nat -> Option Ob} {w : World} (h : zam g obj w) {nid : Nat} (hid : ¬ g.used nid)
  {len : Nat} {zfx : List (Nat × AV)} {vals : List (Nat × Value)} {l' : List AV} (hkeys : vals.map (·.1) = zfx.map (·.1)) (hvals : zj g w (zfx.map (·.2)) (vals.map (·.2))) (hsmall : len * te.size <= 2 ^ 24)
  (hfill : zvs (fun i => some (i * te.size, te.size)) (rep len te.zero) zfx = some l') :
  ∃ v w', (Instr.buildSlice t len vals.toArray).run P w = .ok v w' /\ zaj g obj w nid { val := .hs nid 0 len, wr := [(nid, some ⟨e, te.size, zoy len te.size l'⟩)] } v w' := by
 obtain ⟨z, hz, hr, ho, hl, hs⟩ := he.zero g w;have hu : P.underlying t = some (.slice e) := by have := ht.kind; rw [hk] at this; exact this
 obtain ⟨hmr, hmo⟩ := made_rep hr ho len (by omega);obtain ⟨cs', hf, hr', ho', hsz'⟩ := zog zfx vals (rep len te.zero) l' (madeCells z.cells (len * te.zero.length)) hkeys hvals hmr hmo hfill;have hl' : l'.length = len * te.size := by
  have := hr'.length;simp only [Array.length_toList, hsz', size_madeCells, hl] at this;exact this.symm
 have hcs : cs'.size = len * te.size := by rw [hsz', size_madeCells, hl]
 obtain ⟨g', h1, h2, h3, h4, h5, h6⟩ := new_sound h hid ⟨e, te.size, zoy len te.size l'⟩ cs' len hpos hcs (by simp [zwh]) (by
  have : len <= len * te.size := Nat.le_mul_of_pos_right _ hpos;simp only [maxLen]; omega) (rows_of_flat hr' ho' len te.size hl') w (.inl rfl)
 refine ⟨.slice (some ⟨w.heap.size, 0, none⟩) len len, w.alloc (.cells cs' e), ?_, g', h3, h4, h5, h6, ?_⟩
 ·simp only [Instr.buildSlice, Sem.run_bind, run_underlying hu, Result.andThen_ok, he.sizeOf];rw [if_neg (by omega)];by_cases e0 : len * te.size = 0
  ·have hmade : (Array.range (len * te.size)).map ((#[] : Array Value)[· % (#[] : Array Value).size]!) = madeCells z.cells (len * te.zero.length) := by
    rw [hl, e0]; simp [madeCells]
   rw [if_pos e0];simp only [pure_bind, hmade, hf, Sem.run_bind, newRow, run_newObj, Sem.run_pure, Result.andThen_ok];rfl
  ·have hmade : (Array.range (len * te.size)).map (z.cells[· % z.cells.size]!) = madeCells z.cells (len * te.zero.length) := by
    rw [hl]; rfl
   rw [if_neg e0];simp only [pure_bind, hmade, hf, Sem.run_bind, newRow, run_newObj, Sem.run_pure, Result.andThen_ok, hz];rfl
 ·exact ztd h2 h1 ⟨rfl, rfl⟩ (Nat.le_refl _)


def zfa (g : G) (w : World) (m : Nat) (rows : List (List AV)) (flat : List Value) : Prop :=
 ∀ i row, rows[i]? = some row -> row.length = m /\ ∀ (j : Nat) (av : AV), row[j]? = some av -> ∃ v : Value, flat[i * m + j]? = some v /\ v.oneCell' = true /\ zh g w av v

def SrcOk (g : G) (w : World) (m : Nat) (rows : List (List AV)) (v : Value) : Prop :=
 (rows = [] /\ ∃ a c, v = .slice a 0 c) \/
 ∃ b o c flat, v = .slice (some ⟨b, o, none⟩) rows.length c /\ flat.length = rows.length * m /\ zch w b o flat /\ zfa g w m rows flat

theorem rows_flat {ro : Nat -> Prop} {g : G} {w : World} {b m : Nat} (hro : g.ro = ro) : ∀ (o : Nat) (rows : List (List D)), zau ro w b m o rows -> (∀ r ∈ rows, r.length = m) ->
  ∃ flat : List Value, flat.length = rows.length * m /\ zch w b o flat /\ zfa g w m (dr rows) flat
 | o, [], _, _ => ⟨[], by simp, fun j v hj => by simp at hj, fun i row hi => by simp [dr] at hi⟩
 | o, r :: rs, h, hm => by
  simp only [zau] at h;obtain ⟨⟨vs, hl, hr, hc⟩, hrest⟩ := h;obtain ⟨flat, h1, h2, h3⟩ := rows_flat hro (o + m) rs hrest (fun r' hr' => hm r' (List.mem_cons_of_mem _ hr'));refine ⟨vs ++ flat, by simp [hl, h1, Nat.add_mul]; omega, fun j v hj => ?_, fun i row hi => ?_⟩
  ·rw [List.getElem?_append] at hj;split at hj
   ·exact hc j v hj
   ·have := h2 _ v hj
    rwa [show o + m + (j - vs.length) = o + j by omega] at this
  ·cases i with
   | zero =>
    simp [dr] at hi; subst hi;have hrl := hm r List.mem_cons_self;refine ⟨by simpa using hrl, fun j av hj => ?_⟩;have hra : zj g w (r.map AV.d) vs := by subst hro; exact zj.of_ds hr
    obtain ⟨v, hv, hrep⟩ := hra.get j av hj;have hjl : j < vs.length := (List.getElem?_eq_some_iff.1 hv).1;exact ⟨v, by rw [Nat.zero_mul, Nat.zero_add, List.getElem?_append_left hjl]; exact hv, (hc j v hv).2, hrep⟩
   | succ i =>
    simp only [dr, List.map_cons, List.getElem?_cons_succ] at hi;obtain ⟨hl', hr'⟩ := h3 i row hi;refine ⟨hl', fun j av hj => ?_⟩;obtain ⟨v, hv, ho, hrep⟩ := hr' j av hj;refine ⟨v, ?_, ho, hrep⟩;rw [List.getElem?_append_right (by rw [hl, Nat.succ_mul]; omega)]
    rwa [show (i + 1) * m + j - vs.length = i * m + j by rw [hl, Nat.succ_mul]; omega]

def zdo (hp : Nat -> Option Ob) (m : Nat) : AV -> Option (List (List AV) × Prop)
 | .nl => some ([], True)
 | .d (.sl rows) => some (dr rows, ∀ r ∈ rows, r.length = m)
 | .hs id off len => (hp id).bind fun o => if o.m = m then some ((o.rows.drop off).take len, off + len <= o.rows.length) else none
 | _ => none

theorem zrc {g : G} {obj : Nat -> Option Ob} {w : World} (h : zam g obj w) {m : Nat} {x : AV} {v : Value} {rows : List (List AV)} {p : Prop} (hs : zdo obj m x = some (rows, p)) (hp : p) (hx : zh g w x v) : SrcOk g w m rows v := by
 cases x <;> simp only [zdo] at hs
 case nl => cases hs; simp only [zh] at hx; exact .inl ⟨rfl, none, 0, hx⟩
 case d y =>
  cases y <;> simp only [zdo] at hs
  case sl rs =>
   cases hs;simp only [zh, zr] at hx;obtain ⟨a, cap, hv, hc, hm, hr⟩ := hx;rcases hr with rfl | ⟨b, o, m', ha, hb, hr⟩
   ·exact .inl ⟨rfl, a, cap, by simpa using hv⟩
   ·by_cases hn : rs = []
    ·subst hn; exact .inl ⟨rfl, a, cap, by simpa using hv⟩
    ·have hm' : m' = m := by
      obtain ⟨r, rs', rfl⟩ := List.exists_cons_of_ne_nil hn;simp only [zau] at hr;obtain ⟨⟨vs, hl, hd, _⟩, _⟩ := hr;rw [<- hl, hd.length];exact hp r List.mem_cons_self
     subst hm';obtain ⟨flat, h1, h2, h3⟩ := rows_flat (g := g) rfl o rs hr hp;exact .inr ⟨b, o, cap, flat, by rw [hv, ha]; simp [dr], by simpa [dr] using h1, h2, h3⟩
  all_goals cases hs
 case hs id off len =>
  cases ho : obj id with
  | none => rw [ho] at hs; cases hs
  | some o =>
   rw [ho] at hs;simp only [Option.bind_some] at hs;split at hs
   ·rename_i hm;cases hs;obtain ⟨L, hL, hok⟩ := h.own id o ho;simp only [zh] at hx;rcases hx.2 L hL with ⟨hv, rfl, rfl, a0, rfl⟩ | ⟨hv, hle, rfl⟩
    ·exact .inl ⟨by simp, a0, 0, rfl⟩
    ·obtain ⟨cur, h1, h2, h3, h5⟩ := hok.cells hv;have hmL : L.m = m := by rw [hok.m, hm]
     have hlen : ((o.rows.drop off).take len).length = len := by simp; omega
     refine .inr ⟨L.blk, off * L.m, L.cap - off, (cur.toList.drop (off * L.m)).take (len * L.m), by rw [hlen], ?_, ?_, ?_⟩
     ·rw [hlen, <- hmL];have : (off + len) * L.m <= cur.size := by rw [h2]; exact Nat.mul_le_mul_right _ hle
      rw [Nat.add_mul] at this;simp; omega
     ·intro k u hk;rw [List.getElem?_take] at hk;split at hk
      ·rename_i hlt;rw [List.getElem?_drop] at hk;have hmp := hok.pos;have hi : k / L.m < len := Nat.div_lt_of_lt_mul (by rw [Nat.mul_comm]; exact hlt);have hrow : ∃ row, o.rows[off + k / L.m]? = some row := ⟨o.rows[off + k / L.m]'(by omega), List.getElem?_eq_getElem _⟩
       obtain ⟨row, hrow⟩ := hrow;obtain ⟨hrl, hr'⟩ := h5 _ row hrow;have hmod : k % L.m < row.length := by rw [hrl]; exact Nat.mod_lt _ hmp
       obtain ⟨u', hu', ho', _⟩ := hr' (k % L.m) _ (List.getElem?_eq_getElem hmod);have hidx : (off + k / L.m) * L.m + k % L.m = off * L.m + k := by
        rw [Nat.add_mul, Nat.add_assoc, Nat.mul_comm (k / L.m), Nat.div_add_mod]
       rw [hidx] at hu';have : u' = u := by
        have e1 : cur[off * L.m + k]? = some u := by simpa using hk
        rw [e1] at hu';exact (Option.some.inj hu').symm
       subst this;exact ⟨by rw [h1.cell]; simpa using hu', ho'⟩
      ·cases hk
     ·intro i row hi;rw [List.getElem?_take] at hi;split at hi
      ·rename_i hlt;rw [List.getElem?_drop] at hi;obtain ⟨hrl, hr'⟩ := h5 _ row hi;refine ⟨by rw [hrl, hmL], fun j av hj => ?_⟩;obtain ⟨u, hu, ho', hrep⟩ := hr' j av hj;refine ⟨u, ?_, ho', hrep⟩;have hjm : j < L.m := by rw [<- hrl]; exact (List.getElem?_eq_some_iff.1 hj).1
       have hb : i * L.m + j < len * L.m := by
        have := Nat.mul_le_mul_right L.m (show i + 1 <= len from hlt);rw [Nat.succ_mul] at this;omega
       rw [<- hmL, List.getElem?_take, if_pos hb, List.getElem?_drop];have : off * L.m + (i * L.m + j) = (off + i) * L.m + j := by rw [Nat.add_mul]; omega
       rw [this];simpa using hu
      ·cases hi
   ·cases hs
 all_goals cases hs

theorem zfa.append {g : G} {w : World} {m : Nat} {r1 r2 : List (List AV)} {f1 f2 : List Value} (h1 : zfa g w m r1 f1) (hl : f1.length = r1.length * m) (h2 : zfa g w m r2 f2) : zfa g w m (r1 ++ r2) (f1 ++ f2) := by
 intro i row hi;rw [List.getElem?_append] at hi;split at hi
 ·rename_i hlt;obtain ⟨a, b⟩ := h1 i row hi;refine ⟨a, fun j av hj => ?_⟩;obtain ⟨v, hv, ho, hr⟩ := b j av hj;exact ⟨v, by rw [List.getElem?_append_left (List.getElem?_eq_some_iff.1 hv).1]; exact hv, ho, hr⟩
 ·rename_i hge;obtain ⟨a, b⟩ := h2 _ row hi;refine ⟨a, fun j av hj => ?_⟩;obtain ⟨v, hv, ho, hr⟩ := b j av hj;have hle : r1.length * m <= i * m := Nat.mul_le_mul_right _ (Nat.le_of_not_lt hge);refine ⟨v, ?_, ho, hr⟩;rw [List.getElem?_append_right (by omega)]
  rwa [show i * m + j - f1.length = (i - r1.length) * m + j by rw [hl, Nat.sub_mul]; omega]

def zeo (hp : Nat -> Option Ob) (e : TypeId) (m : Nat) : AV -> Option (List (List AV) × List (Nat × Option Ob) × Prop)
 | .nl => some ([], [], True)
 | .hs id 0 len => (hp id).bind fun o => if o.m = m /\ o.elem = e then some (o.rows.take len, [(id, none)], len <= o.rows.length) else none
 | _ => none

theorem zpp {P : Program} {w : World} (base : Nat) (t ty e : TypeId) (i : TypeInfo) (z : Value) (size bytes : Nat) (ht : P.underlying t = some (.slice e)) (hi : P.info? e = some i) (hz : i.zero = some z)
  (hsize : i.size = size) (hby : i.bytes = bytes) (hzs : z.cells.size = size) (hsz : 0 < size)
  (v x : Value) (n k : Nat) (xs news : List Value) (hown : w.ownsRow base e size v n xs)
  (hx : (k = 0 /\ news = [] /\ ∃ a c, x = .slice a 0 c) \/ ∃ b o c, x = .slice (some ⟨b, o, none⟩) k c /\ news.length = k * size /\ zch w b o news)
  (h63 : n + k <= maxLen) (hbytes : (n + k) * bytes <= 140737488355328) (hbase : base <= w.heap.size) :
  ∃ v' w', (Builtin.append_ #[t, t] ty #[v, x]).run P w = .ok v' w' /\ w'.ownsRow base e size v' (n + k) (xs ++ news) /\ w.grownBy w' v.ownBlock /\
   (v' = .slice none 0 0 ↔ v = .slice none 0 0 /\ k = 0) /\ (v'.ownBlock = v.ownBlock \/ v'.ownBlock = some w.heap.size) := by
 rcases hx with ⟨rfl, rfl, a, c, rfl⟩ | ⟨b, o, c, rfl, hl, hc⟩
 ·cases a with
  | none =>
   have hr : (Builtin.append_ #[t, t] ty #[v, .slice none 0 c]).run P w = .ok v w := by
    rcases hown.2 with ⟨rfl, rfl⟩ | ⟨g, cap, cur, rfl, _, _, hnc, _⟩
    ·simp [Builtin.append_, run_underlying ht, sizeOf, typeInfo, hi, Builtin.lenOf, Builtin.firstCells]
    ·simp [Builtin.append_, run_underlying ht, sizeOf, typeInfo, hi, Builtin.lenOf, Builtin.firstCells, hnc, storeCells]
   exact ⟨v, w, hr, by simpa using hown, ⟨rfl, rfl, rfl, Nat.le_refl _, fun _ _ _ => rfl⟩, by simp, .inl rfl⟩
  | some a =>
   exact run_append_own_at w base t ty e i z size bytes ht hi hz hsize hby hzs hsz v n xs hown a 0 c [] (by simp) (by simp) (by simp) h63 hbytes hbase
 ·exact run_append_own_at w base t ty e i z size bytes ht hi hz hsize hby hzs hsz v n xs hown ⟨b, o, none⟩ k c news hl (fun j u hj => by rw [Addr.add_lit]; exact (hc j u hj).1) hc.one h63 hbytes hbase

theorem zpa {P : Program} {t e ty : TypeId} {ti te : TI} (ht : TOk P t ti) (hk : ti.kind = .slice e) (he : TOk P e te) (hpos : 0 < te.size) (hbpos : 0 < te.bytes) {g : G} {obj : Nat -> Option Ob} {w : World} (h : zam g obj w) {nid : Nat} (hid : ¬ g.used nid)
  {s x : AV} {vs vx : Value} {r1 r2 : List (List AV)} {wr : List (Nat × Option Ob)} {p1 p2 : Prop} (hs : zh g w s vs) (hx : zh g w x vx) (hd : zeo obj e te.size s = some (r1, wr, p1)) (hp1 : p1)
  (hsrc : zdo obj te.size x = some (r2, p2)) (hp2 : p2) (hb : (r1.length + r2.length) * te.bytes <= 140737488355328) :
  ∃ v w', (Builtin.append_ #[t, t] ty #[vs, vx]).run P w = .ok v w' /\ (∀ b, b < w.heap.size -> some b ≠ vs.ownBlock -> w'.heap[b]? = w.heap[b]?) /\ 
   zaj g obj w nid { val := .hs nid 0 (r1.length + r2.length), wr := wr ++ [(nid, some ⟨e, te.size, r1 ++ r2⟩)] } v w' := by
 obtain ⟨i, z, hi, hsz, hby, hz, hzc, hzs, hzo⟩ := he.info;have hu : P.underlying t = some (.slice e) := by have := ht.kind; rw [hk] at this; exact this
 have h63 : r1.length + r2.length <= maxLen := by
  have : r1.length + r2.length <= (r1.length + r2.length) * te.bytes := Nat.le_mul_of_pos_right _ hbpos;simp only [maxLen]; omega
 have hsrc' := zrc h hsrc hp2 hx;have hnews : ∃ news : List Value, ((r2.length = 0 /\ news = [] /\ ∃ a c, vx = .slice a 0 c) \/ ∃ b o c, vx = .slice (some ⟨b, o, none⟩) r2.length c /\ news.length = r2.length * te.size /\ zch w b o news) /\ news.length = r2.length * te.size /\ zfa g w te.size r2 news := by
  rcases hsrc' with ⟨rfl, a, c, hv⟩ | ⟨b, o, c, flat, hv, hl, hc, hr⟩
  ·exact ⟨[], .inl ⟨rfl, rfl, a, c, hv⟩, by simp, fun i row hi => by simp at hi⟩
  ·exact ⟨flat, .inr ⟨b, o, c, hv, hl, hc⟩, hl, hr⟩
 obtain ⟨news, hnx, hnl, hnr⟩ := hnews
 -- what stands before
 have fresh : ∀ (g0 : G) (obj0 : Nat -> Option Ob) (w' : World) (v' : Value) (xs : List Value) (cap : Nat) (cur : Array Value), zam g0 obj0 w -> ¬ g0.used nid -> zfa g0 w te.size r1 xs -> zfa g0 w te.size r2 news -> xs.length = r1.length * te.size ->
   v' = .slice (some ⟨w.heap.size, 0, none⟩) (r1.length + r2.length) cap -> w'.heap[w.heap.size]? = some (.cells cur e (0, 0)) -> r1.length + r2.length <= cap -> cap <= maxLen -> cur.size = cap * te.size -> cur.toList.take ((r1.length + r2.length) * te.size) = xs ++ news ->
   w.grownBy w' none -> w.drawn <= w'.drawn -> zaj g0 obj0 w nid { val := .hs nid 0 (r1.length + r2.length), wr := [(nid, some ⟨e, te.size, r1 ++ r2⟩)] } v' w' := by
  intro g0 obj0 w' v' xs cap cur h0 hid0 hr1 hr2 hxl hv' hcell hle hcm hcs htake hg hgd;obtain ⟨g', a1, a2, a3, a4, a5, a6⟩ := zam.new (w' := w') (B := w.heap.size) (cap := cap) h0 hid0 ⟨e, te.size, r1 ++ r2⟩ cur hg.os ⟨hg.tape, .inr hgd⟩ hg.output (Nat.le_refl _) (Array.getElem?_eq_some_iff.1 hcell).1
   (fun b hb => hg.block b hb (by simp)) (.of hcell) hpos hcs (by simpa using hle) hcm (fun i row hi => by
    obtain ⟨c1, c2⟩ := (hr1.append hxl hr2) i row hi;refine ⟨c1, fun j av hj => ?_⟩;obtain ⟨u, hu, ho, hrep⟩ := c2 j av hj;refine ⟨u, ?_, ho, hrep⟩;rw [<- htake, List.getElem?_take] at hu;split at hu
    ·simpa using hu
    ·cases hu)
  refine ⟨g', a4, a5, a6, fun k hk => by rw [a2] at hk; exact hk, ?_⟩;rw [hv'];exact ztd (L := ⟨w.heap.size, te.size, cap, false, false⟩) (by rw [a2]; exact .inr rfl) a1 ⟨rfl, rfl⟩ hle
 have nothing : ∀ (g0 : G) (obj0 : Nat -> Option Ob), zam g0 obj0 w -> ¬ g0.used nid -> r1 = [] -> (∃ a, vs = .slice a 0 0) -> zfa g0 w te.size r2 news -> ∃ v w', (Builtin.append_ #[t, t] ty #[vs, vx]).run P w = .ok v w' /\ (∀ b, b < w.heap.size -> some b ≠ vs.ownBlock -> w'.heap[b]? = w.heap[b]?) /\ 
   zaj g0 obj0 w nid { val := .hs nid 0 (r1.length + r2.length), wr := [(nid, some ⟨e, te.size, r1 ++ r2⟩)] } v w' := by
  intro g0 obj0 h0 hid0 hr1 hvs hr2;subst hr1;obtain ⟨ad, hvs⟩ := hvs;cases ad with
  | some ad =>
   rcases hnx with ⟨hr20, rfl, a, c, hvx⟩ | ⟨b, o, c, hvx, hl, hc⟩
   ·have hr20' : r2 = [] := List.eq_nil_of_length_eq_zero hr20;subst hr20';have hrun : (Builtin.append_ #[t, t] ty #[vs, vx]).run P w = .ok (.slice (some ad) 0 0) w := by
     rw [hvs, hvx];cases a <;> simp [Builtin.append_, run_underlying hu, sizeOf, typeInfo, hi, Builtin.lenOf, Builtin.firstCells, storeCells, loadCells, loadCellsFrom]
    refine ⟨_, w, hrun, fun _ _ _ => rfl, ?_⟩;obtain ⟨g', a1, a2, a3, a4, a5, a6⟩ := h0.newVirt hid0 e te.size hpos;refine ⟨g', a4, a5, a6, fun k hk => by rw [a2] at hk; exact hk, ?_⟩;simp only [zh];refine ⟨⟨by rw [a2]; exact .inr rfl, rfl⟩, fun L hL => ?_⟩;rw [a1] at hL; cases hL;exact .inl ⟨by trivial, by trivial, by simp, some ad, by simp⟩
   ·by_cases hr20 : r2.length = 0
    ·have hr20' : r2 = [] := List.eq_nil_of_length_eq_zero hr20;subst hr20';have hrun : (Builtin.append_ #[t, t] ty #[vs, vx]).run P w = .ok (.slice (some ad) 0 0) w := by
      rw [hvs, hvx];simp [Builtin.append_, run_underlying hu, sizeOf, typeInfo, hi, Builtin.lenOf, Builtin.firstCells, storeCells, loadCells, loadCellsFrom]
     refine ⟨_, w, hrun, fun _ _ _ => rfl, ?_⟩;obtain ⟨g', a1, a2, a3, a4, a5, a6⟩ := h0.newVirt hid0 e te.size hpos;refine ⟨g', a4, a5, a6, fun k hk => by rw [a2] at hk; exact hk, ?_⟩;simp only [zh];refine ⟨⟨by rw [a2]; exact .inr rfl, rfl⟩, fun L hL => ?_⟩;rw [a1] at hL; cases hL;exact .inl ⟨by trivial, by trivial, by simp, some ad, by simp⟩
    ·have hrun := run_append_grow (P := P) w t ty e i z hu hi hz ad 0 0 [] (by simp) (by simp) ⟨b, o, none⟩ r2.length c news (by rw [hsz]; exact hl) (fun j u hj => by rw [Addr.add_lit]; exact (hc j u hj).1) (by omega) (by simp only [maxLen, List.length_nil] at h63; omega) (growslice_fits (by omega) (by rw [hby]; simpa using hb));simp only [Nat.zero_add] at hrun;have hge := grownCap_ge w r2.length 0 e;have hcm := grownCap_le_maxLen w r2.length 0 e (by simpa using h63);rw [hvs, hvx];refine ⟨_, _, hrun, fun k hk _ => Go.heap_alloc_old w.drew _ hk, ?_⟩;exact fresh g0 obj0 _ _ [] _ _ h0 hid0 (fun i row hi => by simp at hi) hr2 (by simp) (by simp) (Go.heap_alloc_new w.drew _) (by simpa using hge) hcm
      (by simp only [Array.size_append, List.size_toArray, size_zeroCells, hzs, hl, List.length_nil, Nat.zero_add, <- Nat.add_mul]; congr 1; omega)
      (by simp only [Array.toList_append, List.nil_append, List.length_nil, Nat.zero_add]; rw [<- hl]; exact List.take_left)
      ⟨rfl, rfl, rfl, by simp, fun k hk _ => Go.heap_alloc_old w.drew _ hk⟩ (Nat.le_succ _)
  | none =>
  obtain ⟨v', w', hrun, hown, hgr, hiff, hblk⟩ := zpp (P := P) (w := w) 0 t ty e i z te.size te.bytes hu hi hz hsz hby hzs hpos vs vx 0 r2.length [] news (by rw [hvs]; exact World.ownsRow_nil w 0 e te.size) hnx (by simpa using h63) (by simpa using hb) (Nat.zero_le _);refine ⟨v', w', hrun, fun k hk hn => hgr.block k hk hn, ?_⟩;have hgr' : w.grownBy w' none := by rw [hvs] at hgr; simpa [Value.ownBlock] using hgr
  rcases hown.2 with ⟨hv', h0'⟩ | ⟨b, cap, cur, hv', _, hcell, hle, hcm, hcs, htake⟩
  ·have hr20 : r2 = [] := List.eq_nil_of_length_eq_zero (by omega);subst hr20;obtain ⟨h1, h2, h3⟩ := h0.idle (w' := w') ⟨hgr'.os, ⟨hgr'.tape, .inr (zbu _ _ _ _ hrun)⟩, hgr'.output, hgr'.size, fun k hk => hgr'.block k hk (by simp)⟩;obtain ⟨g', a1, a2, a3, a4, a5, a6⟩ := h1.newVirt hid0 e te.size hpos;refine ⟨g', a4, h2.trans a5, ?_, fun k hk => by rw [a2] at hk; exact hk, ?_⟩
   ·exact ⟨fun b hb => ⟨(a6.fut b hb).1, (h3.fut b hb).2⟩, a6.used, a6.loc⟩
   ·simp only [zh];refine ⟨⟨by rw [a2]; exact .inr rfl, by rw [hv']; rfl⟩, fun L hL => ?_⟩;rw [a1] at hL; cases hL;exact .inl ⟨by trivial, by trivial, by simp, none, hv'⟩
  ·have hb' : b = w.heap.size := by
    rw [hvs] at hblk;simp only [hv', Value.ownBlock, Option.some.injEq, reduceCtorEq, false_or] at hblk;exact hblk
   subst hb';exact fresh g0 obj0 w' v' [] cap cur h0 hid0 (fun i row hi => by simp at hi) hr2 (by simp) (by simpa using hv') hcell (by simpa using hle) hcm hcs (by simpa using htake) hgr' (zbu _ _ _ _ hrun)
 cases s <;> simp only [zeo] at hd
 case nl =>
  cases hd;simp only [zh] at hs;exact nothing g obj h hid rfl ⟨none, hs⟩ hnr
 case hs id off len =>
  cases off with
  | succ off => simp [zeo] at hd
  | zero =>
  simp only [zeo] at hd;cases ho : obj id with
  | none => rw [ho] at hd; cases hd
  | some o =>
   rw [ho] at hd;simp only [Option.bind_some] at hd;split at hd
   ·rename_i hme;obtain ⟨hm, hel⟩ := hme;cases hd;obtain ⟨L, hL, hok⟩ := h.own id o ho;simp only [zh] at hs;have hlen : (o.rows.take len).length = len := by simp; omega
    have hne : nid ≠ id := fun e' => hid (e' ▸ (h.live id L hL).1);rcases hs.2 L hL with ⟨hv, _, hl0, hvs⟩ | ⟨hv, hle, hvs⟩
    ·subst hl0;obtain ⟨g1, b1, b2, b3, b4, b5, b6⟩ := h.drop id;obtain ⟨v, w', hrun, hfr, hafter⟩ := nothing g1 (zbh obj id none) b4 (by rw [b1]; exact hid) (by simp) hvs (fun i row hi => by
      obtain ⟨c1, c2⟩ := hnr i row hi;refine ⟨c1, fun j av hj => ?_⟩;obtain ⟨u, hu, ho', hrep⟩ := c2 j av hj;exact ⟨u, hu, ho', zh.later b6 av u hrep⟩)
     obtain ⟨g', c1, c2, c3, c4, c5⟩ := hafter;refine ⟨v, w', hrun, hfr, g', by simpa [zcu] using c1, b5.trans c2, ?_, fun k hk => by have := c4 k hk; rwa [b1] at this, by simpa using c5⟩;exact ⟨fun b hb => by
      have := c3.fut b (by rw [b2]; exact hb);exact this, fun k hk => c3.used k (by rw [b1]; exact hk), fun k hk => by
      have h1 := c3.loc k (by rw [b1]; exact hk);rw [b3] at h1;by_cases e' : k = id
      ·simp only [e', if_true] at h1 ⊢;right
       rcases h1 with h1 | h1 <;> exact h1
      ·simpa [e'] using h1⟩
    ·obtain ⟨cur, hc1, hc2, hc3, hc5⟩ := hok.cells hv;have hmL : L.m = te.size := by rw [hok.m, hm]
     have hvs' : vs = .slice (some ⟨L.blk, 0, none⟩) len L.cap := by simpa using hvs
     have hxl : (cur.toList.take (len * te.size)).length = len * te.size := by
      have : len * te.size <= cur.size := by rw [hc2, hmL]; exact Nat.mul_le_mul_right _ (by omega)
      simp; omega
     have hr1 : zfa g w te.size (o.rows.take len) (cur.toList.take (len * te.size)) := by
      intro i row hi;rw [List.getElem?_take] at hi;split at hi
      ·rename_i hlt;obtain ⟨a1, a2⟩ := hc5 i row hi;refine ⟨by rw [a1, hmL], fun j av hj => ?_⟩;obtain ⟨u, hu', ho', hrep⟩ := a2 j av hj;refine ⟨u, ?_, ho', hrep⟩;have hjm : j < L.m := by rw [<- a1]; exact (List.getElem?_eq_some_iff.1 hj).1
       have hb' : i * te.size + j < len * te.size := by
        have := Nat.mul_le_mul_right te.size (show i + 1 <= len from hlt);rw [Nat.succ_mul] at this;omega
       rw [List.getElem?_take, if_pos hb', <- hmL];simpa using hu'
      ·cases hi
     have hown : w.ownsRow 0 e te.size vs len (cur.toList.take (len * te.size)) := ⟨hxl, .inr ⟨L.blk, L.cap, cur, hvs', Nat.zero_le _, by rw [<- hel]; exact hc1.plain (by rw [hel]; exact he.ne), by omega, hc3, by rw [hc2, hmL], rfl⟩⟩
     obtain ⟨v', w', hrun, hown', hgr, hiff, hblk⟩ := zpp (P := P) (w := w) 0 t ty e i z te.size te.bytes hu hi hz hsz hby hzs hpos vs vx len r2.length _ news hown hnx (by rw [hlen] at h63; exact h63) (by rw [hlen] at hb; exact hb) (Nat.zero_le _);refine ⟨v', w', hrun, fun k hk hn => hgr.block k hk hn, ?_⟩;rcases hown'.2 with ⟨hv', h0'⟩ | ⟨b, cap, cur', hv', _, hcell, hle', hcm, hcs, htake⟩
     ·exfalso
      have := hiff.1 hv';rw [hvs'] at this;simp at this
     ·have hbb : b = L.blk \/ b = w.heap.size := by
       rw [hv', hvs'] at hblk;simpa [Value.ownBlock] using hblk
      have hgb : ∀ k, k < w.heap.size -> k ≠ L.blk -> w'.heap[k]? = w.heap[k]? := fun k hk hkn => hgr.block k hk (by rw [hvs']; simp [Value.ownBlock, hkn]);have hbB : b = L.blk \/ (w.heap.size <= b /\ b < w'.heap.size) := hbb.imp (fun e' => e') fun e' => ⟨by omega, (Array.getElem?_eq_some_iff.1 hcell).1⟩
      obtain ⟨g', a1, a2, a3, a4, a5, a6⟩ := zam.write (w' := w') (cap := cap) (B := b) h hL hv (.inr hid) ⟨e, te.size, o.rows.take len ++ r2⟩ cur' hgr.os ⟨hgr.tape, .inr (zbu _ _ _ _ hrun)⟩ hgr.output hgr.size hgb hbB (.of hcell) hmL.symm hok.pos (by rw [hcs, hmL]) (by rw [List.length_append, hlen]; exact hle') hcm (fun e' => absurd e' hne)
       (fun i row hi => by
        obtain ⟨c1, c2⟩ := (hr1.append (by rw [hxl, hlen]) hnr) i row hi;refine ⟨by rw [c1, hmL], fun j av hj => ?_⟩;obtain ⟨u, hu', ho', hrep⟩ := c2 j av hj;refine ⟨u, ?_, ho', hrep⟩;rw [<- htake, List.getElem?_take] at hu';split at hu'
        ·rw [hmL]; simpa using hu'
        ·cases hu')
      refine ⟨g', by simpa [zcu] using a4, a5, a6, fun k hk => by rw [a2] at hk; exact hk, ?_⟩;rw [hv', hlen];exact ztd (by rw [a2]; exact .inr rfl) a1 ⟨rfl, rfl⟩ hle'
   ·cases hd
 all_goals cases hd

theorem append_sound {P : Program} {t e ty : TypeId} {ti te : TI} (ht : TOk P t ti) (hk : ti.kind = .slice e) (he : TOk P e te) (hpos : 0 < te.size) (hbpos : 0 < te.bytes) {g : G} {obj : Nat -> Option Ob} {w : World} (h : zam g obj w) {nid : Nat} (hid : ¬ g.used nid)
  {s x : AV} {vs vx : Value} {r1 r2 : List (List AV)} {wr : List (Nat × Option Ob)} {p1 p2 : Prop} (hs : zh g w s vs) (hx : zh g w x vx) (hd : zeo obj e te.size s = some (r1, wr, p1)) (hp1 : p1)
  (hsrc : zdo obj te.size x = some (r2, p2)) (hp2 : p2) (hb : (r1.length + r2.length) * te.bytes <= 140737488355328) :
  ∃ v w', (Builtin.append_ #[t, t] ty #[vs, vx]).run P w = .ok v w' /\
   zaj g obj w nid { val := .hs nid 0 (r1.length + r2.length), wr := wr ++ [(nid, some ⟨e, te.size, r1 ++ r2⟩)] } v w' := by
 obtain ⟨v, w', h1, _, h2⟩ := zpa (ty := ty) ht hk he hpos hbpos h hid hs hx hd hp1 hsrc hp2 hb;exact ⟨v, w', h1, h2⟩

theorem copy_sound {P : Program} {t e ty : TypeId} {te : TI} (hu : P.underlying t = some (.slice e)) (he : TOk P e te) {g : G} {obj : Nat -> Option Ob} {w : World} (h : zam g obj w) {id len : Nat} {o : Ob} {x : AV} {vs vx : Value} {rows : List (List AV)} {p : Prop}
  (ho : obj id = some o) (hm : o.m = te.size) (hs : zh g w (.hs id 0 len) vs) (hx : zh g w x vx) (hsrc : zdo obj te.size x = some (rows, p)) (hp : p) (h1 : rows.length <= len) (h2 : len <= o.rows.length) :
  ∃ w' g', (Builtin.copy_ #[t, t] ty #[vs, vx]).run P w = .ok (.int .i64 rows.length) w' /\ zam g' (zbh obj id (some ⟨o.elem, o.m, rows ++ o.rows.drop rows.length⟩)) w' /\ zan g w g' w' /\ zbs g w g' w' /\ (∀ k, g'.used k -> g.used k) := by
 have hso := zrc h hsrc hp hx;obtain ⟨L, hL, hok⟩ := h.own id o ho;simp only [zh] at hs;by_cases hz : rows = []
 ·subst hz;have hid : zbh obj id (some ⟨o.elem, o.m, [] ++ o.rows.drop ([] : List (List AV)).length⟩) = obj := by
   funext k
   simp only [zbh, List.length_nil, List.drop_zero, List.nil_append];split
   ·rename_i e1; subst e1; exact ho.symm
   ·rfl
  refine ⟨w, g, ?_, by rw [hid]; exact h, zan.refl g w, ⟨fun b hb => ⟨hb, rfl⟩, fun _ hk => hk, fun _ _ => .inl rfl⟩, fun _ hk => hk⟩;have hvx : ∃ a c, vx = .slice a 0 c := by
   rcases hso with ⟨_, hv⟩ | ⟨b, o2, c, flat, hv, _⟩
   ·exact hv
   ·exact ⟨_, _, hv⟩
  obtain ⟨a, c, rfl⟩ := hvx;rcases hs.2 L hL with ⟨_, _, _, a0, rfl⟩ | ⟨_, _, rfl⟩
  ·cases a <;> cases a0 <;> simp [Builtin.copy_, run_underlying hu, Builtin.lenOf, Builtin.firstCells, he.sizeOf, storeCells, goInt, loadCells, loadCellsFrom]
  ·cases a <;> simp [Builtin.copy_, run_underlying hu, Builtin.lenOf, Builtin.firstCells, he.sizeOf, storeCells, goInt, loadCells, loadCellsFrom]
 ·have hpos : 0 < rows.length := List.length_pos_iff.2 hz;obtain ⟨b, o2, c, flat, rfl, hfl, hcells, hrr⟩ : ∃ b o2 c flat, vx = .slice (some ⟨b, o2, none⟩) rows.length c /\ flat.length = rows.length * te.size /\ zch w b o2 flat /\ zfa g w te.size rows flat := by
   rcases hso with ⟨hv, _⟩ | hv
   ·exact absurd hv hz
   ·exact hv
  rcases hs.2 L hL with ⟨_, _, h0, _⟩ | ⟨hvirt, hfit, rfl⟩
  ·omega
  ·obtain ⟨cur, c1, c2, c3, c5⟩ := hok.cells hvirt;have hLm : L.m = te.size := by rw [hok.m, hm]
   have hcap : flat.length <= cur.size := by
    rw [hfl, c2, hLm];exact Nat.mul_le_mul_right _ (by omega)
   have hld := run_loadCells_list (P := P) w ⟨b, o2, none⟩ flat (fun j v hj => by rw [Addr.add_lit]; exact (hcells j v hj).1);rw [hfl] at hld;have hst := zgi P L.blk 0 o.elem flat 0 cur w c1 (by omega) hcells.one;simp only [Nat.add_zero, Nat.zero_add, List.take_zero, List.nil_append] at hst;have hmin : min rows.length len = rows.length := by omega
   have hrun : (Builtin.copy_ #[t, t] ty #[.slice (some ⟨L.blk, 0 * L.m, none⟩) len (L.cap - 0), .slice (some ⟨b, o2, none⟩) rows.length c]).run P w = .ok (.int .i64 rows.length) (w.setRow L.blk (flat ++ cur.toList.drop flat.length).toArray) := by
    simp [Builtin.copy_, run_underlying hu, Builtin.lenOf, Builtin.firstCells, he.sizeOf, goInt, hmin, hld, hst]
   have hget : ∀ p : Nat, (flat ++ cur.toList.drop flat.length).toArray[p]? = if p < flat.length then flat[p]? else cur[p]? := fun p => by
    rw [List.getElem?_toArray, List.getElem?_append];split
    ·rfl
    ·rw [List.getElem?_drop, show flat.length + (p - flat.length) = p by omega, Array.getElem?_toList]
   have hw := zam.write (w' := w.setRow L.blk (flat ++ cur.toList.drop flat.length).toArray) h hL hvirt (.inl rfl)
    ⟨o.elem, o.m, rows ++ o.rows.drop rows.length⟩ (flat ++ cur.toList.drop flat.length).toArray rfl ⟨rfl, .inr (Nat.le_refl _)⟩ rfl (by simp [World.setRow])
    (fun b _ hb => setRow_other w L.blk b _ hb) (.inl rfl) (c1.setRow (by simp only [List.size_toArray, List.length_append, List.length_drop, Array.length_toList]; omega)) hok.m.symm hok.pos (cap := L.cap) (by rw [<- c2]; simp only [List.size_toArray, List.length_append, List.length_drop, Array.length_toList]; omega) (by have := hok.len hvirt.2; simp; omega) c3 (fun _ => ⟨rfl, rfl⟩) ?_
   ·obtain ⟨g', _, hu', hro, hH, hS, hLt⟩ := hw;refine ⟨_, g', hrun, ?_, hS, hLt, fun k hk => ?_⟩
    ·have : zbh (zbh obj id none) id (some ⟨o.elem, o.m, rows ++ o.rows.drop rows.length⟩) = zbh obj id (some ⟨o.elem, o.m, rows ++ o.rows.drop rows.length⟩) := by
      funext k; simp only [zbh]; split <;> rfl
     rw [<- this]; exact hH
    ·rw [hu'] at hk;rcases hk with hk | rfl
     ·exact hk
     ·exact (h.live _ L hL).1
   ·intro i row hi;rw [hLm];simp only at hi;rw [List.getElem?_append] at hi;split at hi
    ·rename_i hlt;obtain ⟨r1, r2⟩ := hrr i row hi;refine ⟨r1, fun j av hj => ?_⟩;obtain ⟨v, v1, v2, v3⟩ := r2 j av hj;exact ⟨v, by rw [hget, if_pos (List.getElem?_eq_some_iff.1 v1).1]; exact v1, v2, v3⟩
    ·rename_i hge;rw [List.getElem?_drop, show rows.length + (i - rows.length) = i by omega] at hi;obtain ⟨r1, r2⟩ := c5 i row hi;rw [hLm] at r1 r2;refine ⟨r1, fun j av hj => ?_⟩;obtain ⟨v, v1, v2, v3⟩ := r2 j av hj;have hmul : rows.length * te.size <= i * te.size := Nat.mul_le_mul_right _ (by omega);exact ⟨v, by rw [hget, if_neg (by omega)]; exact v1, v2, v3⟩

end Go.Abs

namespace Go.Abs
variable [Flag]
open Go.RowKit

theorem zkh {P : Program} {w : World} {t : TypeId} {d : TypeDesc} (ht : P.underlying t = some d) (hd : zgf d = false) {us : List Value} {i : Nat} {v : Value} (hv : us[i]? = some v) : (part t us.toArray i).run P w = .ok v w := by
 have : us.toArray[i]? = some v := by simpa using hv
 cases d <;> simp [zgf] at hd <;> simp [part, isAgg, run_underlying ht, this]

theorem zoh (P : Program) (w : World) {g : G} (q : Nat) {dd : Nat} : ∀ (fs : List Field) (s : Nat) (us vs : List Value) (xs ys : List D) (c : Bool),
  (fs.zipIdx s).all (fun x => decide (x.1.offset = x.2) && decide (x.1.name ≠ "_") && zkr P x.1.type q) = true -> fs.length = xs.length ->
  zq g.ro w xs (us.drop s) -> zq g.ro w ys (vs.drop s) -> eqD q xs ys = some c -> (Op.eqFields (dd + 1) us.toArray vs.toArray fs).run P w = .ok c w
 | [], s, us, vs, xs, ys, c, _, hl, _, _, he => by
  have : xs = [] := List.eq_nil_of_length_eq_zero (by simpa using hl.symm);subst this;cases ys with
  | nil => simp [eqD] at he; subst he; simp [Op.eqFields]
  | cons y ys => simp [eqD] at he
 | f :: fs, s, us, vs, xs, ys, c, hall, hl, hx, hy, he => by
  cases xs with
  | nil => simp at hl
  | cons x xs =>
   cases ys with
   | nil => cases x <;> simp [eqD] at he
   | cons y ys =>
    simp only [List.zipIdx_cons, List.all_cons, Bool.and_eq_true, decide_eq_true_eq] at hall;obtain ⟨⟨⟨hoff, hname⟩, hty⟩, hall⟩ := hall;have fin : ∀ (a b : Value) (e c' : Bool), us[s]? = some a -> vs[s]? = some b -> (∀ d, P.underlying f.type = some d -> zgf d = false) -> (Op.equalIn (dd + 1) f.type a b).run P w = .ok e w -> eqD q xs ys = some c' -> c = (e && c') -> (Op.eqFields (dd + 1) us.toArray vs.toArray (f :: fs)).run P w = .ok c w := by
     intro a b e c' hu hv hda hrun hc' hc;have ih := zoh P w (dd := dd) q fs (s + 1) us vs xs ys c' (by simpa using hall) (by simpa using hl) (by have := hx.drop 1; simpa [List.drop_drop, Nat.add_comm] using this) (by have := hy.drop 1; simpa [List.drop_drop, Nat.add_comm] using this) hc';obtain ⟨d, hd⟩ : ∃ d, P.underlying f.type = some d := by
      unfold zkr at hty;cases hq : P.underlying f.type with
      | none => rw [hq] at hty; cases hty
      | some d => exact ⟨d, rfl⟩
     simp only [Op.eqFields, if_pos hname, hoff, Sem.run_bind, zkh hd (hda d hd) hu, zkh hd (hda d hd) hv, Result.andThen_ok, Sem.run_ite, hrun];subst hc;cases e
     ·simp
     ·simpa using ih
    cases x with
    | int ka a =>
     cases y with
     | int kb b =>
      simp only [eqD] at he;split at he
      ·rename_i hkk;obtain ⟨rfl, rfl⟩ := hkk;simp only [Option.map_eq_some_iff] at he;unfold zkr at hty;obtain ⟨c', hc', rfl⟩ := he;obtain ⟨u, hu, hru⟩ := hx.get 0 _ rfl;obtain ⟨v, hv, hrv⟩ := hy.get 0 _ rfl;simp only [zr] at hru hrv;subst hru; subst hrv;rw [List.getElem?_drop, Nat.add_zero] at hu hv;cases hq : P.underlying f.type with
       | none => rw [hq] at hty; cases hty
       | some d =>
        cases d with
        | int k => exact fin _ _ (a == b) c' hu hv (fun d hd => by rw [hq] at hd; cases hd; rfl) (run_equalIn_int w dd f.type ka k a b hq) hc' rfl
        | bool => rw [hq] at hty; cases hty
        | _ => rw [hq] at hty; cases hty
      ·cases he
     | _ => simp [eqD] at he
    | bool a =>
     cases y with
     | bool b =>
      simp only [eqD] at he;split at he
      case isFalse => cases he
      rename_i hq2;subst hq2;simp only [Option.map_eq_some_iff] at he;unfold zkr at hty;obtain ⟨c', hc', rfl⟩ := he;obtain ⟨u, hu, hru⟩ := hx.get 0 _ rfl;obtain ⟨v, hv, hrv⟩ := hy.get 0 _ rfl;simp only [zr] at hru hrv;subst hru; subst hrv;rw [List.getElem?_drop, Nat.add_zero] at hu hv;cases hq : P.underlying f.type with
      | none => rw [hq] at hty; cases hty
      | some d =>
       cases d with
       | bool => exact fin _ _ (a == b) c' hu hv (fun d hd => by rw [hq] at hd; cases hd; rfl) (run_equalIn_bool w dd f.type a b hq) hc' rfl
       | int k => rw [hq] at hty; cases hty
       | _ => rw [hq] at hty; cases hty
     | _ => simp [eqD] at he
    | _ => simp [eqD] at he


def eqK : D -> D -> Option Bool
 | .int k a, .int k' b => if k = k' then some (a == b) else none
 | .agg xs, .agg ys => eqD 1 xs ys
 | _, _ => none

def zso : D -> Bool
 | .int _ _ => true
 | _ => false

def zcg (ti : TI) : D -> Bool
 | .int q' _ => (match ti.kind with | .int q => decide (q = q') | _ => false)
 | .agg cs => (match ti.kind with | .struct _ => decide (ti.eqs = 1) && decide (cs.length = ti.size) && cs.all zso | _ => false)
 | _ => false

def zee (k : D) : List (List AV) -> Option (Option Nat)
 | [] => some none
 | r :: rs => match r with
  | [.d k', _] => (match eqK k k' with
   | some true => some (some 0)
   | some false => (zee k rs).map fun x => x.map (· + 1)
   | none => none)
  | _ => none

theorem eqD_ints : ∀ (xs ys : List D) (c : Bool), eqD 1 xs ys = some c -> ∀ (ro ro' : Nat -> Prop) (w w' : World) (us vs : List Value), xs.length = ys.length -> zq ro w xs us -> zq ro' w' ys vs -> (c = true ↔ us = vs)
 | [], [], c, h, ro, ro', w, w', us, vs, _, hx, hy => by
  simp [eqD] at h; subst h;simp only [zq] at hx hy;simp [hx, hy]
 | [], y :: ys, c, h, _, _, _, _, _, _, hl, _, _ => by simp at hl
 | x :: xs, [], c, h, _, _, _, _, _, _, hl, _, _ => by simp at hl
 | x :: xs, y :: ys, c, h, ro, ro', w, w', us, vs, hl, hx, hy => by
  cases x with
  | int k a =>
   cases y with
   | int k' b =>
    simp only [eqD] at h;split at h
    ·rename_i hkk;obtain ⟨_, rfl⟩ := hkk;simp only [Option.map_eq_some_iff] at h;obtain ⟨c', hc', rfl⟩ := h;simp only [zq, zr] at hx hy;obtain ⟨u, us', rfl, rfl, hx'⟩ := hx;obtain ⟨v, vs', rfl, rfl, hy'⟩ := hy;have ih := eqD_ints xs ys c' hc' ro ro' w w' us' vs' (by simpa using hl) hx' hy';simp only [Bool.and_eq_true, beq_iff_eq, List.cons.injEq, Value.int.injEq, true_and];rw [ih]
    ·cases h
   | _ => simp [eqD] at h
  | bool a =>
   cases y with
   | bool b => simp [eqD] at h
   | _ => simp [eqD] at h
  | _ => simp [eqD] at h

theorem eqD_length : ∀ (xs ys : List D) (c : Bool), eqD 1 xs ys = some c -> xs.length = ys.length
 | [], [], _, _ => rfl
 | [], y :: ys, c, h => by simp [eqD] at h
 | x :: xs, [], c, h => by cases x <;> simp [eqD] at h
 | x :: xs, y :: ys, c, h => by
  cases x with
  | int k a =>
   cases y with
   | int k' b =>
    simp only [eqD] at h;split at h
    ·simp only [Option.map_eq_some_iff] at h;obtain ⟨c', hc', rfl⟩ := h;simp [eqD_length xs ys c' hc']
    ·cases h
   | _ => simp [eqD] at h
  | bool a => cases y <;> simp [eqD] at h
  | _ => simp [eqD] at h

theorem eqK_values {k k' : D} {c : Bool} (h : eqK k k' = some c) {ro ro' : Nat -> Prop} {w w' : World} {u v : Value} (hu : zr ro w k u) (hv : zr ro' w' k' v) : c = true ↔ u = v := by
 cases k with
 | int q a =>
  cases k' with
  | int q' b =>
   simp only [eqK] at h;split at h
   ·rename_i e;subst e;simp at h; subst h;simp only [zr] at hu hv;subst hu; subst hv;simp
   ·cases h
  | _ => simp [eqK] at h
 | agg xs =>
  cases k' with
  | agg ys =>
   simp only [eqK] at h;simp only [zr] at hu hv;obtain ⟨us, rfl, _, hu'⟩ := hu;obtain ⟨vs, rfl, _, hv'⟩ := hv;rw [eqD_ints xs ys c h _ _ _ _ us vs (eqD_length xs ys c h) hu' hv'];constructor
   ·intro e; rw [e]
   ·intro e;simp only [Value.agg.injEq] at e;have := congrArg Array.toList e;simpa using this
  | _ => simp [eqK] at h
 | _ => simp [eqK] at h

section
variable {P : Program} {g : G} {w : World} {kt : TypeId} {kti : TI}

theorem zml {k : D} {kv : Value} (hk : zr g.ro w k kv) : ∀ {rows : List (List AV)} {es : List MapEntry} {r : Option Nat}, zad g w rows es -> zee k rows = some r ->
  match r with
  | none => ∀ e ∈ es, e.key ≠ kv
  | some j => ∃ e a, es[j]? = some e /\ e.key = kv /\ (∃ k', rows[j]? = some [.d k', a]) /\ zh g w a e.val
 | [], es, r, he, hp => by
  simp [zee] at hp; subst hp;simp only [zad] at he; subst he;simp
 | row :: rows, es, r, he, hp => by
  simp only [zad] at he;obtain ⟨e, es', rfl, hrow, hes⟩ := he;unfold zee at hp;split at hp
  ·rename_i k' a;simp only [zj] at hrow;obtain ⟨v1, vs1, hv1, hr1, v2, vs2, hv2, hr2, hnil⟩ := hrow;simp only [List.cons.injEq] at hv1;obtain ⟨rfl, rfl⟩ := hv1;simp only [List.cons.injEq] at hv2;obtain ⟨rfl, rfl⟩ := hv2;simp only [zh] at hr1;split at hp
   ·rename_i hq;cases hp;exact ⟨e, a, rfl, ((eqK_values hq hk hr1).1 rfl).symm, ⟨k', rfl⟩, hr2⟩
   ·rename_i hq;simp only [Option.map_eq_some_iff] at hp;obtain ⟨r', hr', rfl⟩ := hp;have hne : kv ≠ e.key := fun c => by have := (eqK_values hq hk hr1).2 c; cases this
    have ih := zml hk hes hr';cases r' with
    | none =>
     intro e' he';rcases List.mem_cons.1 he' with rfl | he'
     ·exact hne.symm
     ·exact ih e' he'
    | some j =>
     obtain ⟨e', a', h1, h2, ⟨k2, h3⟩, h4⟩ := ih;exact ⟨e', a', h1, h2, ⟨k2, h3⟩, h4⟩
   ·cases hp
  ·cases hp

theorem int_key (ht : TOk P kt kti) {q : IntKind} (hq : kti.kind = .int q) : P.underlying kt = some (.int q) := by have := ht.kind; rw [hq] at this; exact this

theorem findNow_run {q : IntKind} {a : Int} : ∀ {rows : List (List AV)} {es : List MapEntry} {r : Option Nat} (i : Nat), zad g w rows es -> zee (.int q a) rows = some r ->
  Instr.findNow (.int q) (.int q a) es i = some (r.bind fun j => (es[j]?).map fun e => (j + i, e.val))
 | [], es, r, i, he, hp => by
  simp [zee] at hp; subst hp;simp only [zad] at he; subst he;simp [Instr.findNow]
 | row :: rows, es, r, i, he, hp => by
  simp only [zad] at he;obtain ⟨e, es', rfl, hrow, hes⟩ := he;unfold zee at hp;split at hp
  ·rename_i k' a';simp only [zj] at hrow;obtain ⟨v1, vs1, hv1, hr1, _⟩ := hrow;simp only [List.cons.injEq] at hv1;obtain ⟨rfl, rfl⟩ := hv1;simp only [zh] at hr1;cases k' with
   | int q' b =>
    simp only [zr] at hr1;simp only [eqK] at hp;by_cases hqq : q = q'
    ·subst hqq;rw [if_pos rfl] at hp;unfold Instr.findNow;simp only [hr1, Instr.sameNow, if_true];by_cases hab : a = b
     ·subst hab;simp at hp; subst hp;simp
     ·have hf : (a == b) = false := by simpa using hab
      rw [hf] at hp ⊢;simp only [Option.map_eq_some_iff] at hp;obtain ⟨r', hr', rfl⟩ := hp;simp only;rw [findNow_run (i + 1) hes hr'];cases r' <;> simp [Nat.add_assoc, Nat.add_comm 1 i]
    ·rw [if_neg hqq] at hp; cases hp
   | _ => simp [eqK] at hp
  ·cases hp

theorem zqn (ht : TOk P kt kti) (heqs : kti.eqs = 1) {cs : List D} (hlen : cs.length = kti.size) {us : List Value} (hus : zq g.ro w cs us) : ∀ {rows : List (List AV)} {es : List MapEntry} {r : Option Nat} (i : Nat), zad g w rows es -> zee (.agg cs) rows = some r ->
  (Instr.findAsking kt (.agg us.toArray) es i).run P w = .ok (r.bind fun j => (es[j]?).map fun e => (j + i, e.val)) w
 | [], es, r, i, he, hp => by
  simp [zee] at hp; subst hp;simp only [zad] at he; subst he;simp [Instr.findAsking]
 | row :: rows, es, r, i, he, hp => by
  simp only [zad] at he;obtain ⟨e, es', rfl, hrow, hes⟩ := he;unfold zee at hp;split at hp
  ·rename_i k' a';simp only [zj] at hrow;obtain ⟨v1, vs1, hv1, hr1, _⟩ := hrow;simp only [List.cons.injEq] at hv1;obtain ⟨rfl, rfl⟩ := hv1;simp only [zh] at hr1;cases k' with
   | agg ys =>
    simp only [zr] at hr1;obtain ⟨vs, hvs, _, hys⟩ := hr1;simp only [eqK] at hp;obtain ⟨_, hflat⟩ := ht.eqs (by omega);rw [heqs] at hflat;have heq : ∀ c, eqD 1 cs ys = some c -> (Op.equal kt (.agg us.toArray) e.key).run P w = .ok c w := fun c hc => by
     rw [hvs, Op.equal, show Op.maxDepth = 10000 from rfl];exact hflat w g.ro us vs cs ys c hus hys hlen hc
    unfold Instr.findAsking;split at hp
    ·rename_i hq;cases hp;simp only [Sem.run_bind, heq true hq, Result.andThen_ok, if_true, Sem.run_pure];simp
    ·rename_i hq;simp only [Option.map_eq_some_iff] at hp;obtain ⟨r', hr', rfl⟩ := hp;simp only [Sem.run_bind, heq false hq, Result.andThen_ok, Bool.false_eq_true, if_false];rw [zqn ht heqs hlen hus (i + 1) hes hr'];cases r' <;> simp [Nat.add_assoc, Nat.add_comm 1 i]
    ·cases hp
   | _ => simp [eqK] at hp
  ·cases hp

theorem zlm (ht : TOk P kt kti) {k : D} (hf : zcg kti k = true) {kv : Value} (hk : zr g.ro w k kv) {rows : List (List AV)} {es : List MapEntry} {r : Option Nat} (he : zad g w rows es) (hp : zee k rows = some r) :
  (Instr.findKey kt kv es).run P w = .ok (r.bind fun j => (es[j]?).map fun e => (j, e.val)) w := by
 cases k with
 | int q a =>
  simp only [zcg] at hf;split at hf
  ·rename_i q' hq;simp only [decide_eq_true_eq] at hf;subst hf;simp only [zr] at hk; subst hk;unfold Instr.findKey;simp only [Sem.run_bind, run_underlying (int_key ht hq), Result.andThen_ok, findNow_run 0 he hp, Sem.run_pure];simp
  ·cases hf
 | agg cs =>
  simp only [zcg] at hf;split at hf
  ·rename_i fs hq;simp only [Bool.and_eq_true, decide_eq_true_eq] at hf;obtain ⟨⟨heqs, hlen⟩, hall⟩ := hf;simp only [zr] at hk;obtain ⟨us, rfl, _, hus⟩ := hk;have hu : ∃ fds, P.underlying kt = some (.struct fds) := by have := ht.kind; rw [hq] at this; obtain ⟨fds, h, _⟩ := this; exact ⟨fds, h⟩
   obtain ⟨fds, hu⟩ := hu;unfold Instr.findKey;cases es with
   | nil =>
    cases rows with
    | nil =>
     simp [zee] at hp; subst hp;simp [run_underlying hu, Instr.findNow]
    | cons row rows => simp [zad] at he
   | cons e es =>
    have hnow : Instr.findNow (.struct fds) (.agg us.toArray) (e :: es) 0 = none := by simp [Instr.findNow, Instr.sameNow]
    simp only [Sem.run_bind, run_underlying hu, Result.andThen_ok, hnow];have := zqn ht heqs hlen hus 0 he hp;simpa using this
  ·cases hf
 | _ => simp [zcg] at hf

theorem checkInt {t : TypeId} {q : IntKind} (hu : P.underlying t = some (.int q)) (em : Bool) (n : Nat) (v : Value) (hv : ∃ k a, v = .int k a) : (Instr.checkKey em (n + 1) t v).run P w = .ok () w := by
 obtain ⟨k, a, rfl⟩ := hv;simp [Instr.checkKey, run_underlying hu]

theorem zoz (em : Bool) (n : Nat) : ∀ (fs : List Field) (s : Nat) (us : List Value) (xs : List D),
  (fs.zipIdx s).all (fun x => decide (x.1.offset = x.2) && decide (x.1.name ≠ "_") && zkr P x.1.type 1) = true -> fs.length = xs.length -> xs.all zso = true -> zq g.ro w xs (us.drop s) ->
  (forIn fs PUnit.unit (fun f (_ : PUnit) => do
   if f.name ≠ "_" then Instr.checkKey em (n + 1) f.type (<- part f.type us.toArray f.offset)
   pure (ForInStep.yield PUnit.unit) : Field -> PUnit -> Sem (ForInStep PUnit))).run P w = .ok PUnit.unit w
 | [], s, us, xs, _, _, _, _ => by simp
 | f :: fs, s, us, xs, hall, hl, hi, hx => by
  cases xs with
  | nil => simp at hl
  | cons x xs =>
   simp only [List.zipIdx_cons, List.all_cons, Bool.and_eq_true, decide_eq_true_eq] at hall hi;obtain ⟨⟨⟨hoff, hname⟩, hty⟩, hall⟩ := hall;have ih := zoz em n fs (s + 1) us xs (by simpa using hall) (by simpa using hl) hi.2 (by have := hx.drop 1; simpa [List.drop_drop, Nat.add_comm] using this);cases x with
   | int q a =>
    obtain ⟨u, hu, hru⟩ := hx.get 0 _ rfl;simp only [zr] at hru; subst hru;rw [List.getElem?_drop, Nat.add_zero] at hu;unfold zkr at hty;cases hq : P.underlying f.type with
    | none => rw [hq] at hty; cases hty
    | some d =>
     rw [hq] at hty;cases d with
     | int k =>
      have hp := zkh (w := w) hq rfl hu;rw [List.forIn_cons];simp only [Sem.run_bind, if_pos hname, hoff, hp, Result.andThen_ok, checkInt hq em n _ ⟨_, _, rfl⟩, Sem.run_pure];exact ih
     | bool => simp at hty
     | _ => simp at hty
   | _ => simp [zso] at hi

theorem zep (ht : TOk P kt kti) {k : D} (hf : zcg kti k = true) {kv : Value} (hk : zr g.ro w k kv) (em : Bool) : (Instr.checkKey em 10000 kt kv).run P w = .ok () w := by
 cases k with
 | int q a =>
  simp only [zcg] at hf;split at hf
  ·rename_i q' hq;simp only [zr] at hk; subst hk;exact checkInt (int_key ht hq) em 9999 _ ⟨_, _, rfl⟩
  ·cases hf
 | agg cs =>
  simp only [zcg] at hf;split at hf
  ·rename_i fs hq;simp only [Bool.and_eq_true, decide_eq_true_eq] at hf;obtain ⟨⟨heqs, hlen⟩, hall⟩ := hf;simp only [zr] at hk;obtain ⟨us, rfl, _, hus⟩ := hk;obtain ⟨fds, hfs⟩ : ∃ fds, P.underlying kt = some (.struct fds) := by have := ht.kind; rw [hq] at this; obtain ⟨fds, h, _⟩ := this; exact ⟨fds, h⟩
   obtain ⟨_, hall', hfl⟩ := ht.eqf (by omega) fds hfs;rw [heqs] at hall';have := zoz (P := P) em 9998 fds.toList 0 us cs hall' (by omega) hall (by simpa using hus);rw [show (10000 : Nat) = 9999 + 1 from rfl, Instr.checkKey];simp only [Sem.run_bind, run_underlying hfs, Result.andThen_ok];rw [<- Array.forIn_toList];simp at this ⊢;rw [this]; rfl
  ·cases hf
 | _ => simp [zcg] at hf

theorem ints_same : ∀ (cs : List D) (us : List Value) (n : Nat), cs.all zso = true -> zq g.ro w cs us -> ((us.zip us).all fun (x, y) => Instr.sameBits n x y) = true
 | [], us, n, _, h => by simp only [zq] at h; subst h; rfl
 | c :: cs, us, n, hi, h => by
  simp only [zq] at h;obtain ⟨v, vs, rfl, h1, h2⟩ := h;simp only [List.all_cons, Bool.and_eq_true] at hi;have ih := ints_same cs vs n hi.2 h2;cases c with
  | int q a =>
   simp only [zr] at h1; subst h1;simp only [List.zip_cons_cons, List.all_cons, Bool.and_eq_true];exact ⟨by cases n <;> simp [Instr.sameBits], ih⟩
  | _ => simp [zso] at hi

theorem stays_run {k : D} (hf : zcg kti k = true) {kv : Value} (hk : zr g.ro w k kv) : (Instr.keyThatStays kv kv).run P w = .ok kv w := by
 have : Instr.sameBits 10000 kv kv = true := by
  cases k with
  | int q a => simp only [zr] at hk; subst hk; simp [Instr.sameBits]
  | agg cs =>
   simp only [zcg] at hf;split at hf
   ·simp only [Bool.and_eq_true, decide_eq_true_eq] at hf;simp only [zr] at hk;obtain ⟨us, rfl, _, hus⟩ := hk;have := ints_same cs us 9999 hf.2 hus;simp [Instr.sameBits, this]
   ·cases hf
  | _ => simp [zcg] at hf
 simp [Instr.keyThatStays, this]
end

def zhd (k : D) (rows : List (List AV)) : Option (Option AV) := match zee k rows with
 | none => none
 | some none => some none
 | some (some j) => match rows[j]? with | some [_, v] => some (some v) | _ => none

def outD (ok : Bool) (v : D) (b : Bool) : D := bif ok then .tup [v, .bool b] else v
def zic (z : AV) (ok : Bool) (r : Option (Option AV)) (x : D) : Prop := match r with
 | some (some (.d v)) => x = outD ok v true
 | some (some .nl) => x = outD ok (.sl []) true
 | some none => (match z with | .d v => x = outD ok v false | .nl => x = outD ok (.sl []) false | _ => False)
 | _ => False
def zua (ti : TI) : AV := if ti.isAgg then .any else match ti.zero with | [z] => z | _ => .any

def zky (k : D) (x : AV) (rows : List (List AV)) : Option (List (List AV)) := match zee k rows with
 | none => none
 | some none => some (rows ++ [[.d k, x]])
 | some (some j) => some (rows.set j [.d k, x])
def delR (k : D) (rows : List (List AV)) : Option (List (List AV)) := match zee k rows with
 | none => none
 | some none => some rows
 | some (some j) => some (rows.eraseIdx j)

theorem zad.append {g : G} {w : World} : ∀ {rows rows' : List (List AV)} {es es' : List MapEntry}, zad g w rows es -> zad g w rows' es' -> zad g w (rows ++ rows') (es ++ es')
 | [], rows', es, es', h, h' => by simp only [zad] at h; subst h; simpa using h'
 | r :: rows, rows', es, es', h, h' => by
  simp only [zad] at h;obtain ⟨e, es1, rfl, h1, h2⟩ := h;simp only [List.cons_append, zad];exact ⟨e, es1 ++ es', rfl, h1, h2.append h'⟩
theorem zad.set {g : G} {w : World} {row : List AV} {e : MapEntry} (he : zj g w row [e.key, e.val]) : ∀ {rows : List (List AV)} {es : List MapEntry} (j : Nat), zad g w rows es -> zad g w (rows.set j row) (es.set j e)
 | [], es, j, h => by simp only [zad] at h; subst h; simp [zad]
 | r :: rows, es, j, h => by
  simp only [zad] at h;obtain ⟨e1, es1, rfl, h1, h2⟩ := h;cases j with
  | zero => simp only [List.set_cons_zero, zad]; exact ⟨e, es1, rfl, he, h2⟩
  | succ j => simp only [List.set_cons_succ, zad]; exact ⟨e1, es1.set j e, rfl, h1, zad.set he j h2⟩
theorem zad.erase {g : G} {w : World} : ∀ {rows : List (List AV)} {es : List MapEntry} (j : Nat), zad g w rows es -> zad g w (rows.eraseIdx j) (es.eraseIdx j)
 | [], es, j, h => by simp only [zad] at h; subst h; simp [zad]
 | r :: rows, es, j, h => by
  simp only [zad] at h;obtain ⟨e1, es1, rfl, h1, h2⟩ := h;cases j with
  | zero => simpa using h2
  | succ j => simp only [List.eraseIdx_cons_succ, zad]; exact ⟨e1, es1.eraseIdx j, rfl, h1, zad.erase j h2⟩
theorem zad.of_ents {g : G} {w : World} : ∀ {rows : List (List D)} {es : List MapEntry}, zdz g.ro w rows es -> zad g w (dr rows) es
 | [], es, h => by simpa [zdz, dr, zad] using h
 | r :: rows, es, h => by
  simp only [zdz] at h;obtain ⟨e, es', rfl, h1, h2⟩ := h;simp only [dr, List.map_cons, zad];exact ⟨e, es', rfl, zj.of_ds h1, zad.of_ents h2⟩

section
variable {P : Program} {g : G} {w : World} {t kt et : TypeId} {kti eti : TI}

theorem TOk.zeroOne (h : TOk P et eti) {z0 : AV} (hz : zua eti = z0) (hne : z0 ≠ .any) (g : G) (w : World) : ∃ z, (zeroValue et).run P w = .ok z w /\ zh g w z0 z := by
 unfold zua at hz;split at hz
 ·exact absurd hz.symm hne
 ·rename_i hag;split at hz
  ·rename_i z1 hz1;obtain ⟨i, z, h1, h2, h3, h4, h5, h6, h7⟩ := h.info;have hone := h.cellZ i z h1 h4 (by simpa using hag);obtain ⟨z', hr, hrep, _⟩ := h.zero g w;have hrun : (zeroValue et).run P w = .ok z w := by simp [zeroValue, typeInfo, h1, h4]
   rw [hrun] at hr;cases hr;refine ⟨z, hrun, ?_⟩;rw [hz1] at hrep;have hcell : z.cells.toList = [z] := by revert hone; cases z <;> simp [Value.cells, Value.oneCell']
   rw [hcell] at hrep;simp only [zj] at hrep;obtain ⟨v, vs, hv, hr', _⟩ := hrep;simp only [List.cons.injEq] at hv;obtain ⟨rfl, _⟩ := hv;rw [<- hz]; exact hr'
  ·exact absurd hz.symm hne

theorem lookup_sound (hu : P.underlying t = some (.map kt et)) (hk : TOk P kt kti) (he : TOk P et eti) {b : Nat} {es : Array MapEntry} {clock : Nat} (hb : w.heap[b]? = some (.map es clock)) {rows : List (List AV)} (hes : zad g w rows es.toList)
  {k : D} {kv : Value} (hf : zcg kti k = true) (hkv : zr g.ro w k kv) {ok : Bool} {x : D} (hl : zic (zua eti) ok (zhd k rows) x) : ∃ v, (Instr.lookup t (.map (some b)) kv ok).run P w = .ok v w /\ zr g.ro w x v := by
 have out : ∀ (d : D) (v : Value) (c : Bool), zr g.ro w d v -> zr g.ro w (outD ok d c) (if ok then .tuple #[v, .bool c] else v) := fun d v c h => by
  cases ok
  ·exact h
  ·simp only [outD, cond_true, if_true, zr];exact ⟨[v, .bool c], rfl, by simp only [zq, zr]; exact ⟨v, _, rfl, h, _, _, rfl, rfl, rfl⟩⟩
 have run : ∀ (r : Option Nat) (v : Value) (c : Bool), zee k rows = some r -> (match r.bind fun j => (es.toList[j]?).map fun e => (j, e.val) with | some (_, v') => v' = v /\ c = true | none => (zeroValue et).run P w = .ok v w /\ c = false) ->
   (Instr.lookup t (.map (some b)) kv ok).run P w = .ok (if ok then .tuple #[v, .bool c] else v) w := fun r v c hr hm => by
  have h1 := zlm hk hf hkv hes hr;simp only [Instr.lookup, Sem.run_bind, run_underlying hu, Result.andThen_ok, MapKept.run_getObj_map hb, zep hk hf hkv, Sem.run_pure];rw [h1];simp only [Result.andThen_ok]
  revert hm
  cases hq : (r.bind fun j => (es.toList[j]?).map fun e => (j, e.val)) with
  | none =>
   rintro ⟨hz, rfl⟩;simp [hz]
  | some y =>
   obtain ⟨j, v'⟩ := y;rintro ⟨rfl, rfl⟩;simp
 unfold zic zhd at hl;cases hp : zee k rows with
 | none => rw [hp] at hl; exact absurd hl (by simp)
 | some r =>
  rw [hp] at hl;have hs := zml hkv hes hp;cases r with
  | none =>
   simp only at hl;have hz : ∃ z0, zua eti = z0 /\ z0 ≠ .any /\ ∃ d, x = outD ok d false /\ ∀ v, zh g w z0 v -> zr g.ro w d v := by
    revert hl
    cases hz : zua eti <;> intro hl
    case d d => exact ⟨_, rfl, by simp, d, hl, fun v h => by simpa only [zh] using h⟩
    case nl => exact ⟨_, rfl, by simp, .sl [], hl, fun v h => by simp only [zh] at h; subst h; exact zff⟩
    all_goals exact hl.elim
   obtain ⟨z0, hz1, hz2, d, rfl, hd⟩ := hz;obtain ⟨z, hzr, hzrep⟩ := he.zeroOne hz1 hz2 g w;exact ⟨_, run none z false hp ⟨hzr, rfl⟩, out d z false (hd z hzrep)⟩
  | some j =>
   obtain ⟨e, a, h1, h2, ⟨k', h3⟩, h4⟩ := hs;simp only [h3] at hl;have hv : ∃ d, x = outD ok d true /\ zr g.ro w d e.val := by
    revert hl
    cases a <;> intro hl
    case d d => exact ⟨d, hl, by simpa only [zh] using h4⟩
    case nl => exact ⟨.sl [], hl, by simp only [zh] at h4; rw [h4]; exact zff⟩
    all_goals exact hl.elim
   obtain ⟨d, rfl, hd⟩ := hv;exact ⟨_, run (some j) e.val true hp (by rw [Option.bind_some, h1]; exact ⟨rfl, rfl⟩), out d e.val true hd⟩

theorem zia {obj : Nat -> Option Ob} (h : zam g obj w) {id : Nat} {o : Ob} {L : Loc} (ho : obj id = some o) (hL : g.loc id = some L) (hok : znf g w L o) (hv : L.virt = false /\ L.map = true) {es es' : Array MapEntry} {clock clock' : Nat}
  (hb : w.heap[L.blk]? = some (.map es clock)) (hst : MapKept.Stamped es' clock') (rows' : List (List AV)) (hr : zad g w rows' es'.toList) :
  ∃ g', zam g' (zbh obj id (some ⟨o.elem, o.m, rows'⟩)) { w with heap := w.heap.setIfInBounds L.blk (.map es' clock') } /\ zan g w g' { w with heap := w.heap.setIfInBounds L.blk (.map es' clock') } /\ zbs g w g' { w with heap := w.heap.setIfInBounds L.blk (.map es' clock') } /\ (∀ k, g'.used k -> g.used k) := by
 have hset := MapKept.heap_set (o' := .map es' clock') hb;have hw := h.writeL (w' := { w with heap := w.heap.setIfInBounds L.blk (.map es' clock') }) hL hv.1 (.inl rfl) ⟨o.elem, o.m, rows'⟩ L rfl hv.1 rfl ⟨rfl, .inr (Nat.le_refl _)⟩ rfl (by simp) (fun b _ hne => hset.2 b hne) (.inl rfl) (fun _ => rfl)
  (fun g' hlater => ⟨hok.m, hok.pos, (fun hm => by rw [hv.2] at hm; cases hm), (fun hvt => by rw [hv.1] at hvt; cases hvt), (fun hf => by rw [hv.2] at hf; cases hf.2), fun _ => ⟨(hok.ents hv).1, es', clock', hset.1, hst, zad.later hlater _ _ hr⟩⟩)
 obtain ⟨g', h1, h2, h3, h4, h5, h6⟩ := hw;refine ⟨g', ?_, h5, h6, fun k hk => ?_⟩
 ·have : zbh (zbh obj id none) id (some ⟨o.elem, o.m, rows'⟩) = zbh obj id (some ⟨o.elem, o.m, rows'⟩) := by
   funext k; simp only [zbh]; split <;> rfl
  rw [<- this]; exact h4
 ·rw [h2] at hk;rcases hk with hk | rfl
  ·exact hk
  ·exact (h.live _ L hL).1

theorem mapUpdate_sound {obj : Nat -> Option Ob} (h : zam g obj w) (hu : P.underlying t = some (.map kt et)) (hk : TOk P kt kti) {id : Nat} {o : Ob} (ho : obj id = some o) {m kv v : Value} (hm : zh g w (.hm id) m) {k : D} {x : AV} (hf : zcg kti k = true) (hkv : zr g.ro w k kv)
  (hx : zh g w x v) {rows' : List (List AV)} (hp : zky k x o.rows = some rows') :
  ∃ w' g', (Instr.mapUpdate t m kv v).run P w = .ok () w' /\ zam g' (zbh obj id (some ⟨o.elem, o.m, rows'⟩)) w' /\ zan g w g' w' /\ zbs g w g' w' /\ (∀ k, g'.used k -> g.used k) := by
 obtain ⟨L, hL, hok⟩ := h.own id o ho;simp only [zh] at hm;obtain ⟨hv, rfl⟩ := hm.2 L hL;obtain ⟨_, es, clock, hb, hst, hes⟩ := hok.ents hv;unfold zky at hp;have hrow : ∀ e : MapEntry, e.key = kv -> e.val = v -> zj g w [.d k, x] [e.key, e.val] := fun e h1 h2 => by
  rw [h1, h2]; simp only [zj, zh]; exact ⟨kv, _, rfl, hkv, v, _, rfl, hx, rfl⟩
 cases hq : zee k o.rows with
 | none => rw [hq] at hp; cases hp
 | some r =>
  rw [hq] at hp;have hs := zml hkv hes hq;have hrun := zlm hk hf hkv hes hq;cases r with
  | none =>
   cases hp;have hst' := MapKept.stamped_push hst (key := kv) (val := v) hs;obtain ⟨g', h1, h2, h3, h4⟩ := zia h ho hL hok hv hb hst' (o.rows ++ [[.d k, x]]) (by rw [Array.toList_push]; exact hes.append (by simp only [zad]; exact ⟨_, [], rfl, hrow _ rfl rfl, rfl⟩));refine ⟨_, g', ?_, h1, h2, h3, h4⟩;simp [Instr.mapUpdate, run_underlying hu, MapKept.run_getObj_map hb, zep hk hf hkv, hrun, MapKept.run_setObj_map _ hb, Result.andThen]
  | some j =>
   cases hp;obtain ⟨e, a, e1, e2, ⟨k', e3⟩, e4⟩ := hs;have hj : es[j]? = some e := by simpa using e1
   have hmod : (es.modify j fun e => { e with key := kv, val := v }).toList = es.toList.set j { e with key := kv, val := v } := by rw [Array.toList_modify, ChangeMaps.modify_eq_set _ _ _ _ e1]
   have hst' := MapKept.stamped_modify hst j (fun e => { e with key := kv, val := v }) (fun _ _ => rfl) (fun e' _ he' => by rw [hj] at he'; cases he'; exact e2.symm);obtain ⟨g', h1, h2, h3, h4⟩ := zia h ho hL hok hv hb hst' (o.rows.set j [.d k, x]) (by rw [hmod]; exact zad.set (hrow _ rfl rfl) j hes);refine ⟨_, g', ?_, h1, h2, h3, h4⟩;simp [Instr.mapUpdate, run_underlying hu, MapKept.run_getObj_map hb, zep hk hf hkv, hrun, hj, e2, stays_run hf hkv, MapKept.run_setObj_map _ hb, Result.andThen]

theorem delete_sound {obj : Nat -> Option Ob} {kt' ty' : TypeId} (h : zam g obj w) (hu : P.underlying t = some (.map kt et)) (hk : TOk P kt kti) {id : Nat} {o : Ob} (ho : obj id = some o) {m kv : Value} (hm : zh g w (.hm id) m) {k : D} (hf : zcg kti k = true) (hkv : zr g.ro w k kv)
  {rows' : List (List AV)} (hp : delR k o.rows = some rows') :
  ∃ w' g', (Builtin.delete_ #[t, kt'] ty' #[m, kv]).run P w = .ok (.tuple #[]) w' /\ zam g' (zbh obj id (some ⟨o.elem, o.m, rows'⟩)) w' /\ zan g w g' w' /\ zbs g w g' w' /\ (∀ k, g'.used k -> g.used k) := by
 obtain ⟨L, hL, hok⟩ := h.own id o ho;simp only [zh] at hm;obtain ⟨hv, rfl⟩ := hm.2 L hL;obtain ⟨_, es, clock, hb, hst, hes⟩ := hok.ents hv;unfold delR at hp;cases hq : zee k o.rows with
 | none => rw [hq] at hp; cases hp
 | some r =>
  rw [hq] at hp;have hs := zml hkv hes hq;have hrun := zlm hk hf hkv hes hq;cases r with
  | none =>
   cases hp;obtain ⟨g', h1, h2, h3, h4⟩ := zia h ho hL hok hv hb hst o.rows hes;refine ⟨_, g', ?_, h1, h2, h3, h4⟩;simp [Builtin.delete_, run_underlying hu, MapKept.run_getObj_map hb, zep hk hf hkv, hrun, MapKept.run_setObj_map _ hb, Result.andThen]
  | some j =>
   cases hp;obtain ⟨e, a, e1, e2, ⟨k', e3⟩, e4⟩ := hs;have hj : es[j]? = some e := by simpa using e1
   have hst' := MapKept.stamped_erase hst j;have hl : (es.eraseIdxIfInBounds j).toList = es.toList.eraseIdx j := by
    have hjl : j < es.size := (Array.getElem?_eq_some_iff.1 hj).1;simp [Array.eraseIdxIfInBounds, hjl]
   obtain ⟨g', h1, h2, h3, h4⟩ := zia h ho hL hok hv hb hst' (o.rows.eraseIdx j) (by rw [hl]; exact zad.erase j hes);refine ⟨_, g', ?_, h1, h2, h3, h4⟩;simp [Builtin.delete_, run_underlying hu, MapKept.run_getObj_map hb, zep hk hf hkv, hrun, hj, MapKept.run_setObj_map _ hb, Result.andThen]

theorem makeMap_sound {obj : Nat -> Option Ob} (h : zam g obj w) {nid : Nat} (hid : ¬ g.used nid) (t : TypeId) :
  zaj g obj w nid { val := .hm nid, wr := [(nid, some ⟨t, mapM, []⟩)] } (.map (some w.heap.size)) (w.alloc (.map #[] 0)) := by
 have ha := MapKept.heap_alloc w (.map #[] 0);obtain ⟨g', h1, h2, h3, h4, h5, h6⟩ := h.newL (w' := w.alloc (.map #[] 0)) (B := w.heap.size) hid ⟨t, mapM, []⟩ ⟨w.heap.size, mapM, 0, false, true⟩ rfl rfl rfl ⟨rfl, .inr (Nat.le_refl _)⟩ rfl (Nat.le_refl _) (by show _ < (w.heap.push _).size; simp) ha.2
  (fun g' _ => ⟨rfl, by simp [mapM], by simp, by simp, by simp, fun _ => ⟨rfl, #[], 0, ha.1, MapKept.stamped_empty 0, by simp [zad]⟩⟩)
 refine ⟨g', h4, h5, h6, fun k hk => by rw [h2] at hk; exact hk, ?_⟩;simp only [zh];refine ⟨⟨by rw [h2]; exact .inr rfl, rfl⟩, fun L hL => ?_⟩;rw [h1] at hL; cases hL;exact ⟨⟨rfl, rfl⟩, rfl⟩
end

section
variable {α β : Type} [DecidableEq α]
def zfb (a : α) : List (α × β) -> Option Nat
 | [] => none
 | p :: l => if a = p.1 then some 0 else (zfb a l).map (· + 1)
def zdp (l : List (α × β)) (a : α) : Option β := match l with
 | [] => none
 | p :: r => if a = p.1 then some p.2 else zdp r a
def zgj (l : List (α × β)) (a : α) (b : β) : List (α × β) := match zfb a l with
 | none => l ++ [(a, b)]
 | some j => l.set j (a, b)
def delL (l : List (α × β)) (a : α) : List (α × β) := match zfb a l with
 | none => l
 | some j => l.eraseIdx j

theorem zes {a : α} : ∀ (l : List (α × β)), (match zfb a l with | none => zdp l a = none | some j => ∃ b, l[j]? = some (a, b) /\ zdp l a = some b)
 | [] => by simp [zfb, zdp]
 | p :: l => by
  unfold zfb zdp;by_cases h : a = p.1
  ·rw [if_pos h, if_pos h]; exact ⟨p.2, by rw [h]; rfl, rfl⟩
  ·rw [if_neg h, if_neg h];have := zes (a := a) l;cases hp : zfb a l with
   | none => rw [hp] at this; exact this
   | some j => rw [hp] at this; obtain ⟨b, h1, h2⟩ := this; exact ⟨b, by simpa using h1, h2⟩

theorem getL_append {l r : List (α × β)} {a : α} : zdp (l ++ r) a = (zdp l a).or (zdp r a) := by
 induction l with
 | nil => simp [zdp]
 | cons p l ih =>
  simp only [List.cons_append, zdp];split
  ·rfl
  ·exact ih

theorem getL_set {a c : α} {b : β} : ∀ (l : List (α × β)) (j : Nat), zfb a l = some j -> zdp (l.set j (a, b)) c = if c = a then some b else zdp l c
 | [], j, h => by simp [zfb] at h
 | p :: l, j, h => by
  unfold zfb at h;by_cases hp : a = p.1
  ·rw [if_pos hp] at h; cases h;simp only [List.set_cons_zero, zdp];by_cases hc : c = a
   ·simp [hc]
   ·simp [hc, <- hp]
  ·rw [if_neg hp] at h;simp only [Option.map_eq_some_iff] at h;obtain ⟨i, hi, rfl⟩ := h;simp only [List.set_cons_succ, zdp, getL_set l i hi];by_cases hc : c = a
   ·subst hc; simp [hp]
   ·simp [hc]

theorem zjw (l : List (α × β)) (a c : α) (b : β) : zdp (zgj l a b) c = if c = a then some b else zdp l c := by
 unfold zgj;have h := zes (a := a) l;cases hp : zfb a l with
 | none =>
  rw [hp] at h;simp only at h ⊢;rw [getL_append];by_cases hc : c = a
  ·subst hc; simp [h, zdp]
  ·simp [hc, zdp]
 | some j => exact getL_set l j hp

def zmh (kd : α -> D) (vd : β -> D) (l : List (α × β)) : List (List D) := l.map fun p => [kd p.1, vd p.2]

variable {kd : α -> D} {vd : β -> D} (hk : ∀ a b, eqK (kd a) (kd b) = some (decide (a = b)))
include hk
theorem zpt (a : α) : ∀ (l : List (α × β)), zee (kd a) (dr (zmh kd vd l)) = some (zfb a l)
 | [] => rfl
 | p :: l => by
  have ih := zpt a l;simp only [dr, zmh, List.map_cons, List.map_nil, zee, zfb, hk] at ih ⊢;by_cases h : a = p.1
  ·simp [h]
  ·simp only [h, decide_false, if_false, ih, Option.map_some]
theorem lookA_row (a : α) (l : List (α × β)) : zhd (kd a) (dr (zmh kd vd l)) = some ((zdp l a).map fun b => .d (vd b)) := by
 unfold zhd;rw [zpt hk a l];have h := zes (a := a) l;cases hp : zfb a l with
 | none => rw [hp] at h; simp only at h ⊢; rw [h]; rfl
 | some j => rw [hp] at h; obtain ⟨b, h1, h2⟩ := h; simp [h2, dr, zmh, h1]
theorem putR_row (a : α) (b : β) (l : List (α × β)) : zky (kd a) (.d (vd b)) (dr (zmh kd vd l)) = some (dr (zmh kd vd (zgj l a b))) := by
 unfold zky zgj;rw [zpt hk a l];cases hp : zfb a l with
 | none => simp [dr, zmh]
 | some j => simp [dr, zmh, List.map_set]
theorem delR_row (a : α) (l : List (α × β)) : delR (kd a) (dr (zmh kd vd l)) = some (dr (zmh kd vd (delL l a))) := by
 unfold delR delL;rw [zpt hk a l];cases hp : zfb a l with
 | none => simp [dr, zmh]
 | some j => simp [dr, zmh, <- ChangeMaps.map_eraseIdx]
end
end Go.Abs

namespace Go.Abs
variable [Flag]
open Go.RowKit

def find {α : Type} : List (Nat × α) -> Nat -> Option α
 | [], _ => none
 | (k, v) :: r, t => if k = t then some v else find r t

theorem zkp {α : Type} : ∀ {l : List (Nat × α)} {t : Nat} {v : α}, find l t = some v -> t ∈ l.map (·.1)
 | (k, x) :: r, t, v, h => by
  simp only [find] at h;split at h
  ·rename_i e; simp [e]
  ·exact List.mem_cons_of_mem _ (zkp h)

theorem zfu {α : Type} : ∀ {l : List (Nat × α)} {t : Nat}, t ∈ l.map (·.1) -> ∃ v, find l t = some v
 | (k, x) :: r, t, h => by
  simp only [find];by_cases e : k = t
  ·exact ⟨x, by rw [if_pos e]⟩
  ·rw [if_neg e];refine zfu ?_;rcases List.mem_cons.1 h with h | h
   ·exact absurd h.symm e
   ·exact h

theorem zql {l : List (Nat × Nat)} {t v : Nat} (h : find l t = some v) : v ∈ l.map (·.2) := by
 induction l with
 | nil => simp [find] at h
 | cons p r ih =>
  obtain ⟨k, x⟩ := p;simp only [find] at h;split at h
  ·cases h; simp
  ·exact List.mem_cons_of_mem _ (ih h)

theorem zrs : ∀ {l : List (Nat × Nat)} {a b v : Nat}, (l.map (·.2)).Nodup -> find l a = some v -> find l b = some v -> a = b
 | (k, x) :: r, a, b, v, hn, h1, h2 => by
  simp only [List.map_cons, List.nodup_cons] at hn;simp only [find] at h1 h2;split at h1 <;> split at h2
  ·omega
  ·cases h1; exact absurd (zql h2) hn.1
  ·cases h2; exact absurd (zql h1) hn.1
  ·exact zrs hn.2 h1 h2

def swp : List (Nat × Nat) -> List (Nat × Nat)
 | [] => []
 | (a, b) :: r => (b, a) :: swp r

theorem swp_find : ∀ {l : List (Nat × Nat)} {a b : Nat}, (l.map (·.1)).Nodup -> (l.map (·.2)).Nodup -> find (swp l) b = some a -> find l a = some b
 | (k, x) :: r, a, b, h1, h2, h => by
  simp only [List.map_cons, List.nodup_cons] at h1 h2;simp only [swp, find] at h ⊢;split at h
  ·rename_i e; cases h; rw [if_pos rfl, e]
  ·have hr := swp_find h1.2 h2.2 h;rw [if_neg (fun e : k = a => h1.1 (by rw [e]; exact zkp hr))];exact hr

def zkm (hp : List (Nat × Ob)) (id : Nat) : Option Ob := find hp id

mutual
def rn (σ : List (Nat × Nat)) : AV -> Option AV
 | .any => none
 | .nl => some .nl
 | .d x => some (.d x)
 | .hs id off len => (find σ id).map fun x => .hs x off len
 | .ptr id i j => (find σ id).map fun x => .ptr x i j
 | .agg l => (rnL σ l).map .agg
 | .clo f l => (rnL σ l).map (.clo f)
 | .tup l => (rnL σ l).map .tup
 | .opt _ _ => none
 | .ub _ _ => none
 | .lit v => some (.lit v)
 | .pin _ _ => none
 | .hm id => (find σ id).map fun x => .hm x
def rnL (σ : List (Nat × Nat)) : List AV -> Option (List AV)
 | [] => some []
 | a :: as => match rn σ a, rnL σ as with | some x, some y => some (x :: y) | _, _ => none
end
def rnR (σ : List (Nat × Nat)) : List (List AV) -> Option (List (List AV))
 | [] => some []
 | a :: as => match rnL σ a, rnR σ as with | some x, some y => some (x :: y) | _, _ => none

mutual
def dn (τ : List (Nat × Nat)) : AV -> AV
 | .any => .any
 | .nl => .nl
 | .d x => .d x
 | .hs id off len => match find τ id with | some x => .hs x off len | none => .any
 | .ptr id i j => match find τ id with | some x => .ptr x i j | none => .any
 | .agg l => .agg (dnL τ l)
 | .clo f l => .clo f (dnL τ l)
 | .tup l => .tup (dnL τ l)
 | .opt b x => .opt b (dn τ x)
 | .ub p q => .ub p q
 | .lit v => .lit v
 | .pin _ _ => .any
 | .hm id => match find τ id with | some x => .hm x | none => .any
def dnL (τ : List (Nat × Nat)) : List AV -> List AV
 | [] => []
 | a :: as => dn τ a :: dnL τ as
end
def dnR (τ : List (Nat × Nat)) : List (List AV) -> List (List AV)
 | [] => []
 | a :: as => dnL τ a :: dnR τ as

theorem rnL_map (σ : List (Nat × Nat)) : ∀ l : List D, rnL σ (l.map AV.d) = some (l.map AV.d)
 | [] => rfl
 | x :: l => by simp [rnL, rn, rnL_map σ l]
theorem dnL_map (τ : List (Nat × Nat)) : ∀ l : List D, dnL τ (l.map AV.d) = l.map AV.d
 | [] => rfl
 | x :: l => by simp [dnL, dn, dnL_map τ l]
theorem ztt (τ : List (Nat × Nat)) : ∀ l : List AV, (dnL τ l).length = l.length
 | [] => rfl
 | a :: l => by simp only [dnL, List.length_cons, ztt τ l]
theorem zts (τ : List (Nat × Nat)) : ∀ l : List (List AV), (dnR τ l).length = l.length
 | [] => rfl
 | a :: l => by simp only [dnR, List.length_cons, zts τ l]
theorem dnL_get (τ : List (Nat × Nat)) : ∀ (l : List AV) (i : Nat) (r : AV), (dnL τ l)[i]? = some r -> ∃ r0, l[i]? = some r0 /\ r = dn τ r0
 | [], i, r, h => by simp [dnL] at h
 | a :: l, 0, r, h => by simp [dnL] at h; exact ⟨a, by simp, h.symm⟩
 | a :: l, i + 1, r, h => by simp [dnL] at h; obtain ⟨r0, h1, h2⟩ := dnL_get τ l i r h; exact ⟨r0, by simpa using h1, h2⟩
theorem dnR_get (τ : List (Nat × Nat)) : ∀ (l : List (List AV)) (i : Nat) (r : List AV), (dnR τ l)[i]? = some r -> ∃ r0, l[i]? = some r0 /\ r = dnL τ r0
 | [], i, r, h => by simp [dnR] at h
 | a :: l, 0, r, h => by simp [dnR] at h; exact ⟨a, by simp, h.symm⟩
 | a :: l, i + 1, r, h => by simp [dnR] at h; obtain ⟨r0, h1, h2⟩ := dnR_get τ l i r h; exact ⟨r0, by simpa using h1, h2⟩
theorem rnL_get {σ : List (Nat × Nat)} : ∀ {x y : List AV}, rnL σ x = some y -> x.length = y.length /\ ∀ (i : Nat) (r : AV), x[i]? = some r -> ∃ r', y[i]? = some r' /\ rn σ r = some r'
 | [], y, h => by simp [rnL] at h; subst h; exact ⟨rfl, fun i r hi => by simp at hi⟩
 | a :: as, y, h => by
  simp only [rnL] at h;cases h1 : rn σ a with
  | none => rw [h1] at h; cases h
  | some b =>
   cases h2 : rnL σ as with
   | none => rw [h1, h2] at h; cases h
   | some bs =>
    rw [h1, h2] at h;cases h;obtain ⟨k1, k2⟩ := rnL_get h2;refine ⟨by simp [k1], fun i r hi => ?_⟩;cases i with
    | zero => simp at hi; subst hi; exact ⟨b, by simp, h1⟩
    | succ i => simp at hi; obtain ⟨r', hr', hu⟩ := k2 i r hi; exact ⟨r', by simpa using hr', hu⟩
theorem rnR_get {σ : List (Nat × Nat)} : ∀ {x y : List (List AV)}, rnR σ x = some y -> x.length = y.length /\ ∀ (i : Nat) (r : List AV), x[i]? = some r -> ∃ r', y[i]? = some r' /\ rnL σ r = some r'
 | [], y, h => by simp [rnR] at h; subst h; exact ⟨rfl, fun i r hi => by simp at hi⟩
 | a :: as, y, h => by
  simp only [rnR] at h;cases h1 : rnL σ a with
  | none => rw [h1] at h; cases h
  | some b =>
   cases h2 : rnR σ as with
   | none => rw [h1, h2] at h; cases h
   | some bs =>
    rw [h1, h2] at h;cases h;obtain ⟨k1, k2⟩ := rnR_get h2;refine ⟨by simp [k1], fun i r hi => ?_⟩;cases i with
    | zero => simp at hi; subst hi; exact ⟨b, by simp, h1⟩
    | succ i => simp at hi; obtain ⟨r', hr', hu⟩ := k2 i r hi; exact ⟨r', by simpa using hr', hu⟩

theorem rnR_dr' (σ : List (Nat × Nat)) : ∀ l : List (List D), rnR σ (l.map fun r => r.map AV.d) = some (l.map fun r => r.map AV.d)
 | [] => rfl
 | x :: l => by simp only [List.map_cons, rnR, rnL_map, rnR_dr' σ l]
theorem dnR_dr' (τ : List (Nat × Nat)) : ∀ l : List (List D), dnR τ (l.map fun r => r.map AV.d) = l.map fun r => r.map AV.d
 | [] => rfl
 | x :: l => by simp only [List.map_cons, dnR, dnL_map, dnR_dr' τ l]

section
variable {w : World} {g g' : G} {σ : List (Nat × Nat)}
mutual
theorem rn_rep (hu : ∀ i x, find σ i = some x -> g'.used i) (hl : ∀ i x, find σ i = some x -> g'.loc i = g.loc x) (hro : ∀ b, g.ro b -> g'.ro b) : ∀ (x y : AV) (v : Value), rn σ x = some y -> zh g w y v -> zh g' w x v
 | .any, y, v, hx, _ => by simp [rn] at hx
 | .opt _ _, y, v, hx, _ => by simp [rn] at hx
 | .ub _ _, y, v, hx, _ => by simp [rn] at hx
 | .lit u, y, v, hx, h => by simp [rn] at hx; subst hx; simpa [zh] using h
 | .pin _ _, y, v, hx, _ => by simp [rn] at hx
 | .nl, y, v, hx, h => by simp [rn] at hx; subst hx; simpa [zh] using h
 | .d x, y, v, hx, h => by simp [rn] at hx; subst hx; simp only [zh] at h ⊢; exact zr.mono (fun b hb => ⟨hro b hb, rfl⟩) _ _ h
 | .hs id off len, y, v, hx, h => by
  simp only [rn, Option.map_eq_some_iff] at hx;obtain ⟨z, hz, rfl⟩ := hx;simp only [zh] at h ⊢;exact ⟨⟨hu id z hz, h.1.2⟩, fun L hL => h.2 L (by rw [<- hl id z hz]; exact hL)⟩
 | .ptr id i j, y, v, hx, h => by
  simp only [rn, Option.map_eq_some_iff] at hx;obtain ⟨z, hz, rfl⟩ := hx;simp only [zh] at h ⊢;exact ⟨⟨hu id z hz, h.1.2⟩, fun L hL => h.2 L (by rw [<- hl id z hz]; exact hL)⟩
 | .hm id, y, v, hx, h => by
  simp only [rn, Option.map_eq_some_iff] at hx;obtain ⟨z, hz, rfl⟩ := hx;simp only [zh] at h ⊢;exact ⟨⟨hu id z hz, h.1.2⟩, fun L hL => h.2 L (by rw [<- hl id z hz]; exact hL)⟩
 | .agg l, y, v, hx, h => by
  simp only [rn, Option.map_eq_some_iff] at hx;obtain ⟨l', hl', rfl⟩ := hx;simp only [zh] at h ⊢;obtain ⟨vs, hv, ho, hr⟩ := h;exact ⟨vs, hv, ho, zun hu hl hro l l' vs hl' hr⟩
 | .clo f l, y, v, hx, h => by
  simp only [rn, Option.map_eq_some_iff] at hx;obtain ⟨l', hl', rfl⟩ := hx;simp only [zh] at h ⊢;obtain ⟨vs, hv, hr⟩ := h;exact ⟨vs, hv, zun hu hl hro l l' vs hl' hr⟩
 | .tup l, y, v, hx, h => by
  simp only [rn, Option.map_eq_some_iff] at hx;obtain ⟨l', hl', rfl⟩ := hx;simp only [zh] at h ⊢;obtain ⟨vs, hv, hr⟩ := h;exact ⟨vs, hv, zun hu hl hro l l' vs hl' hr⟩
theorem zun (hu : ∀ i x, find σ i = some x -> g'.used i) (hl : ∀ i x, find σ i = some x -> g'.loc i = g.loc x) (hro : ∀ b, g.ro b -> g'.ro b) : ∀ (x y : List AV) (v : List Value), rnL σ x = some y -> zj g w y v -> zj g' w x v
 | [], y, v, hx, h => by simp [rnL] at hx; subst hx; simpa [zj] using h
 | a :: as, y, v, hx, h => by
  simp only [rnL] at hx;cases h1 : rn σ a with
  | none => rw [h1] at hx; cases hx
  | some b =>
   cases h2 : rnL σ as with
   | none => rw [h1, h2] at hx; cases hx
   | some bs =>
    rw [h1, h2] at hx;cases hx;simp only [zj] at h ⊢;obtain ⟨u, us, rfl, k1, k2⟩ := h;exact ⟨u, us, rfl, rn_rep hu hl hro a b u h1 k1, zun hu hl hro as bs us h2 k2⟩
end
mutual
theorem dn_rep {τ : List (Nat × Nat)} (hu : ∀ i x, find τ i = some x -> g'.used x) (hl : ∀ i x, find τ i = some x -> g'.loc x = g.loc i) (hro : ∀ b, g.ro b -> g'.ro b) : ∀ (x : AV) (v : Value), zh g w x v -> zh g' w (dn τ x) v
 | .any, v, h => by simp [dn, zh]
 | .nl, v, h => by simpa [dn, zh] using h
 | .d x, v, h => by simp only [dn, zh] at h ⊢; exact zr.mono (fun b hb => ⟨hro b hb, rfl⟩) _ _ h
 | .ub p q, v, h => by simpa only [dn, zh] using h
 | .lit u, v, h => by simpa only [dn, zh] using h
 | .pin _ _, v, h => by simp [dn, zh]
 | .hs id off len, v, h => by
  simp only [dn];split
  ·rename_i x hx;simp only [zh] at h ⊢;exact ⟨⟨hu id x hx, h.1.2⟩, fun L hL => h.2 L (by rw [<- hl id x hx]; exact hL)⟩
  ·simp [zh]
 | .ptr id i j, v, h => by
  simp only [dn];split
  ·rename_i x hx;simp only [zh] at h ⊢;exact ⟨⟨hu id x hx, h.1.2⟩, fun L hL => h.2 L (by rw [<- hl id x hx]; exact hL)⟩
  ·simp [zh]
 | .hm id, v, h => by
  simp only [dn];split
  ·rename_i x hx;simp only [zh] at h ⊢;exact ⟨⟨hu id x hx, h.1.2⟩, fun L hL => h.2 L (by rw [<- hl id x hx]; exact hL)⟩
  ·simp [zh]
 | .agg l, v, h => by
  simp only [dn, zh] at h ⊢;obtain ⟨vs, hv, ho, hr⟩ := h;exact ⟨vs, hv, ho, zwe hu hl hro l vs hr⟩
 | .clo f l, v, h => by
  simp only [dn, zh] at h ⊢;obtain ⟨vs, hv, hr⟩ := h;exact ⟨vs, hv, zwe hu hl hro l vs hr⟩
 | .tup l, v, h => by
  simp only [dn, zh] at h ⊢;obtain ⟨vs, hv, hr⟩ := h;exact ⟨vs, hv, zwe hu hl hro l vs hr⟩
 | .opt b x, v, h => by
  simp only [dn, zh] at h ⊢;exact ⟨fun hb => dn_rep hu hl hro x v (h.1 hb), h.2⟩
theorem zwe {τ : List (Nat × Nat)} (hu : ∀ i x, find τ i = some x -> g'.used x) (hl : ∀ i x, find τ i = some x -> g'.loc x = g.loc i) (hro : ∀ b, g.ro b -> g'.ro b) : ∀ (x : List AV) (v : List Value), zj g w x v -> zj g' w (dnL τ x) v
 | [], v, h => by simpa [dnL, zj] using h
 | a :: as, v, h => by
  simp only [dnL, zj] at h ⊢;obtain ⟨u, us, rfl, k1, k2⟩ := h;exact ⟨u, us, rfl, dn_rep hu hl hro a u k1, zwe hu hl hro as us k2⟩
end
end

section
variable {w : World} {g g' : G} {σ : List (Nat × Nat)}
theorem rnR_ents (hu : ∀ i x, find σ i = some x -> g'.used i) (hl : ∀ i x, find σ i = some x -> g'.loc i = g.loc x) (hro : ∀ b, g.ro b -> g'.ro b) : ∀ (x y : List (List AV)) (es : List MapEntry), rnR σ x = some y -> zad g w y es -> zad g' w x es
 | [], y, es, h, he => by simp [rnR] at h; subst h; simpa [zad] using he
 | a :: as, y, es, h, he => by
  simp only [rnR] at h;split at h
  ·rename_i x1 y1 hx1 hy1;cases h;simp only [zad] at he ⊢;obtain ⟨e, es', rfl, h1, h2⟩ := he;exact ⟨e, es', rfl, zun hu hl hro a x1 _ hx1 h1, rnR_ents hu hl hro as y1 es' hy1 h2⟩
  ·cases h
theorem dnR_ents {τ : List (Nat × Nat)} (hu : ∀ i x, find τ i = some x -> g'.used x) (hl : ∀ i x, find τ i = some x -> g'.loc x = g.loc i) (hro : ∀ b, g.ro b -> g'.ro b) : ∀ (x : List (List AV)) (es : List MapEntry), zad g w x es -> zad g' w (dnR τ x) es
 | [], es, he => by simpa [dnR, zad] using he
 | a :: as, es, he => by
  simp only [dnR, zad] at he ⊢;obtain ⟨e, es', rfl, h1, h2⟩ := he;exact ⟨e, es', rfl, zwe hu hl hro a _ h1, dnR_ents hu hl hro as es' h2⟩
end

def zjg (P : Program) (f : FuncId) : Prop := ∃ fn, P.funcs[f]? = some fn /\ (fn.name == "runtime.NumGoroutine") = false /\ fn.body.isNone = false

def PX (P : Program) (f : FuncId) (as : List AV) (hp : List (Nat × Ob)) (pin : List (Nat × Nat)) (hp' : List (Nat × Ob)) (r : AV) : Prop :=
 zjg P f /\ ∀ (g : G) (w : World) (vs : List Value), zam g (zkm hp) w -> (∀ id, g.used id -> (find hp id).isSome = true) -> zj g w as vs ->
  Calls P f vs.toArray w fun e w' => ∃ v g', e = .returned v /\ zam g' (zkm hp') w' /\ zh g' w' r v /\ zan g w g' w' /\ ∀ i j, (i, j) ∈ pin -> g'.loc j = g.loc i

structure XC where
 σ : List (Nat × Nat)
 as : List AV
 hp : List (Nat × Ob)
 pin : List (Nat × Nat)
 fr : Option Nat
 hp' : List (Nat × Ob)
 r : AV

def zsb (σ : List (Nat × Nat)) : List (Nat × Nat) -> List (Nat × Nat)
 | [] => []
 | (i, j) :: r => match find σ i with | some x => (x, j) :: zsb σ r | none => zsb σ r
def frT (nid : Nat) : Option Nat -> List (Nat × Nat)
 | some j => [(nid, j)]
 | none => []
def XC.ti (c : XC) (nid : Nat) : List (Nat × Nat) := frT nid c.fr ++ zsb c.σ c.pin

def gone : List (Nat × Nat) -> List (Nat × Option Ob)
 | [] => []
 | (_, x) :: r => (x, none) :: gone r
def zmd (τ : List (Nat × Nat)) (hp' : List (Nat × Ob)) : List (Nat × Nat) -> List (Nat × Option Ob)
 | [] => []
 | (x, j) :: r => (x, (find hp' j).map fun o => ⟨o.elem, o.m, dnR τ o.rows⟩) :: zmd τ hp' r

def zey (σ : List (Nat × Nat)) : List AV -> List AV -> Prop
 | [], [] => True
 | .any :: as, _ :: bs => zey σ as bs
 | a :: as, b :: bs => rn σ a = some b /\ zey σ as bs
 | _, _ => False
def zkz (obj : Nat -> Option Ob) (σ : List (Nat × Nat)) : List (Nat × Ob) -> Prop
 | [] => True
 | (i, o) :: r => (match find σ i with | some x => (match obj x with | some o' => o'.elem = o.elem /\ o'.m = o.m /\ rnR σ o.rows = some o'.rows | none => False) | none => False) /\ zkz obj σ r
def zev : List Nat -> Bool
 | [] => true
 | a :: r => r.all (fun b => !Nat.beq a b) && zev r
theorem zis : ∀ {l : List Nat}, zev l = true -> l.Nodup
 | [], _ => List.nodup_nil
 | a :: r, h => by
  simp only [zev, Bool.and_eq_true, List.all_eq_true, Bool.not_eq_true'] at h;refine List.nodup_cons.2 ⟨fun hm => ?_, zis h.2⟩;have := h.1 a hm;rw [Nat.beq_refl] at this;cases this

def effX (P : Program) (f : FuncId) (c : XC) (nid : Nat) (obj : Nat -> Option Ob) (args : List AV) : Eff :=
 {val := dn (swp (c.ti nid)) c.r, wr := gone c.σ ++ zmd (swp (c.ti nid)) c.hp' (c.ti nid),
  ob := (zey c.σ c.as args /\ zkz obj c.σ c.hp /\ zev (c.σ.map (·.2)) = true /\ c.σ.map (·.1) = c.hp.map (·.1) /\ zev ((c.ti nid).map (·.1)) = true /\ zev ((c.ti nid).map (·.2)) = true) /\ PX P f c.as c.hp c.pin c.hp' c.r }

theorem zro {obj : Nat -> Option Ob} {σ : List (Nat × Nat)} : ∀ {hp : List (Nat × Ob)}, zkz obj σ hp -> ∀ i o, find hp i = some o -> ∃ x o', find σ i = some x /\ obj x = some o' /\ o'.elem = o.elem /\ o'.m = o.m /\ rnR σ o.rows = some o'.rows
 | [], _, i, o, h => by simp [find] at h
 | (k, q) :: r, hk, i, o, h => by
  simp only [zkz] at hk;simp only [find] at h;split at h
  ·rename_i e;subst e;cases h;have h1 := hk.1;split at h1
   ·rename_i x hx;split at h1
    ·rename_i o' ho'; exact ⟨x, o', hx, ho', h1.1, h1.2.1, h1.2.2⟩
    ·exact h1.elim
   ·exact h1.elim
  ·exact zro hk.2 i o h

theorem zmj {w : World} {g g' : G} {σ : List (Nat × Nat)} (hu : ∀ i x, find σ i = some x -> g'.used i) (hl : ∀ i x, find σ i = some x -> g'.loc i = g.loc x) (hro : ∀ b, g.ro b -> g'.ro b) : ∀ {as bs : List AV} {vs : List Value}, zey σ as bs -> zj g w bs vs -> zj g' w as vs
 | [], [], vs, _, h => by simpa [zj] using h
 | a :: as, [], vs, hx, _ => by cases a <;> simp [zey] at hx
 | [], b :: bs, vs, hx, _ => by simp [zey] at hx
 | a :: as, b :: bs, vs, hx, h => by
  simp only [zj] at h ⊢;obtain ⟨v, vs', rfl, h1, h2⟩ := h;by_cases ha : a = .any
  ·subst ha;simp only [zey] at hx;exact ⟨v, vs', rfl, by simp [zh], zmj hu hl hro hx h2⟩
  ·have hx' : rn σ a = some b /\ zey σ as bs := by
    cases a <;> first | exact absurd rfl ha | exact hx
   exact ⟨v, vs', rfl, rn_rep hu hl hro a b v hx'.1 h1, zmj hu hl hro hx'.2 h2⟩

theorem zka {obj : Nat -> Option Ob} : ∀ {l : List (Nat × Option Ob)}, (l.map (·.1)).Nodup -> ∀ x, zcu obj l x = (find l x).getD (obj x)
 | [], _, x => rfl
 | (i, o) :: r, hn, x => by
  simp only [List.map_cons, List.nodup_cons] at hn;simp only [zcu, find];rw [zka hn.2];by_cases e : i = x
  ·subst e;rw [if_pos rfl];cases hf : find r i with
   | none => simp [zbh]
   | some v => exact absurd (zkp hf) hn.1
  ·rw [if_neg e];cases hf : find r x with
   | none => simp [zbh, Ne.symm e]
   | some v => rfl

theorem zlb (obj : Nat -> Option Ob) : ∀ (a b : List (Nat × Option Ob)), zcu obj (a ++ b) = zcu (zcu obj a) b
 | [], b => rfl
 | (i, o) :: r, b => by simp only [List.cons_append, zcu]; exact zlb _ r b

theorem zrq (x : Nat) : ∀ σ : List (Nat × Nat), find (gone σ) x = if x ∈ σ.map (·.2) then some none else none
 | [] => by simp [gone, find]
 | (i, y) :: r => by
  simp only [gone, find, zrq x r];by_cases e : y = x
  ·rw [if_pos e, if_pos (by simp [e])]
  ·have e' : ¬ x = y := fun h => e h.symm;rw [if_neg e];by_cases hm : x ∈ r.map (·.2)
   ·rw [if_pos hm, if_pos (by simp only [List.map_cons]; exact List.mem_cons_of_mem _ hm)]
   ·rw [if_neg hm, if_neg (by simp only [List.map_cons, List.mem_cons, not_or]; exact ⟨e', hm⟩)]
theorem zrp : ∀ σ : List (Nat × Nat), (gone σ).map (·.1) = σ.map (·.2)
 | [] => rfl
 | (i, y) :: r => by simp [gone, zrp r]
theorem zrw (τ : List (Nat × Nat)) (hp' : List (Nat × Ob)) : ∀ l : List (Nat × Nat), (zmd τ hp' l).map (·.1) = l.map (·.1)
 | [] => rfl
 | (i, y) :: r => by simp [zmd, zrw τ hp' r]
theorem zrx (τ : List (Nat × Nat)) (hp' : List (Nat × Ob)) (x : Nat) : ∀ l : List (Nat × Nat), find (zmd τ hp' l) x = (find l x).map fun j => (find hp' j).map fun o => ⟨o.elem, o.m, dnR τ o.rows⟩
 | [] => by simp [zmd, find]
 | (i, y) :: r => by
  simp only [zmd, find, zrx τ hp' x r];by_cases e : i = x <;> simp [e]

theorem zmm {σ : List (Nat × Nat)} {x j : Nat} : ∀ {pin : List (Nat × Nat)}, find (zsb σ pin) x = some j -> ∃ i, (i, j) ∈ pin /\ find σ i = some x
 | [], h => by simp [zsb, find] at h
 | (i, k) :: r, h => by
  simp only [zsb] at h;cases hf : find σ i with
  | none =>
   rw [hf] at h;obtain ⟨i', h1, h2⟩ := zmm h;exact ⟨i', List.mem_cons_of_mem _ h1, h2⟩
  | some y =>
   rw [hf] at h;simp only [find] at h;split at h
   ·rename_i e; subst e; cases h; exact ⟨i, List.mem_cons_self, hf⟩
   ·obtain ⟨i', h1, h2⟩ := zmm h;exact ⟨i', List.mem_cons_of_mem _ h1, h2⟩

theorem ti_find {c : XC} {nid x j : Nat} (h : find (c.ti nid) x = some j) : x = nid \/ ∃ i, (i, j) ∈ c.pin /\ find c.σ i = some x := by
 unfold XC.ti at h;cases hf : c.fr with
 | none => rw [hf] at h; exact .inr (zmm h)
 | some k =>
  rw [hf] at h;simp only [frT, List.cons_append, List.nil_append, find] at h;split at h
  ·rename_i e; exact .inl e.symm
  ·exact .inr (zmm h)

def via (g : G) (σ : List (Nat × Nat)) (hp : List (Nat × Ob)) : G := ⟨g.ro, fun i => (find σ i).bind g.loc, fun i => (find hp i).isSome = true⟩

theorem zni {g : G} {σ : List (Nat × Nat)} {hp : List (Nat × Ob)} {i x : Nat} (h : find σ i = some x) : (via g σ hp).loc i = g.loc x := by simp [via, h]
theorem zme {g : G} {σ : List (Nat × Nat)} {hp : List (Nat × Ob)} {i : Nat} {L : Loc} (h : (via g σ hp).loc i = some L) : ∃ x, find σ i = some x /\ g.loc x = some L := by
 simp only [via] at h;cases hf : find σ i with
 | none => rw [hf] at h; cases h
 | some x => rw [hf] at h; exact ⟨x, rfl, h⟩
theorem zpi {σ : List (Nat × Nat)} {hp : List (Nat × Ob)} (hdom : σ.map (·.1) = hp.map (·.1)) {i x : Nat} (h : find σ i = some x) : (find hp i).isSome = true := by
 have := zkp h;rw [hdom] at this;obtain ⟨v, hv⟩ := zfu this;rw [hv]; rfl

theorem via_rel {g : G} {obj : Nat -> Option Ob} {w : World} (h : zam g obj w) {σ : List (Nat × Nat)} {hp : List (Nat × Ob)} (hhp : zkz obj σ hp) (hσ : (σ.map (·.2)).Nodup) (hdom : σ.map (·.1) = hp.map (·.1)) : zam (via g σ hp) (zkm hp) w := by
 refine ⟨?_, ?_, ?_, ?_, h.ro⟩
 ·intro i o ho;obtain ⟨x, o', h1, h2, h3, h4, h5⟩ := zro hhp i o ho;obtain ⟨L, hL, hok⟩ := h.own x o' h2;obtain ⟨k1, k2⟩ := rnR_get h5;refine ⟨L, by rw [zni h1]; exact hL, by rw [hok.m, h4], hok.pos, by rw [k1]; exact hok.len, fun hv => ?_, fun hv => ?_, fun hv => ?_⟩
  ·have := hok.virt hv;rw [this] at k1;exact List.eq_nil_of_length_eq_zero (by simpa using k1)
  ·obtain ⟨cur, c1, c2, c3, c5⟩ := hok.cells hv;refine ⟨cur, by rw [<- h3]; exact c1, c2, c3, fun k row hi => ?_⟩;obtain ⟨r', hr', hu⟩ := k2 k row hi;obtain ⟨d1, d2⟩ := c5 k r' hr';obtain ⟨q1, q2⟩ := rnL_get hu;refine ⟨by rw [q1]; exact d1, fun j av hj => ?_⟩;obtain ⟨av', hav', huv⟩ := q2 j av hj;obtain ⟨v, hv', ho, hr⟩ := d2 j av' hav';exact ⟨v, hv', ho, rn_rep (g' := via g σ hp) (fun i x hi => zpi hdom hi) (fun i x hi => zni hi) (fun _ hb => hb) av av' v huv hr⟩
  ·obtain ⟨e0, es, clock, e1, e2, e3⟩ := hok.ents hv;exact ⟨e0, es, clock, e1, e2, rnR_ents (g' := via g σ hp) (fun i x hi => zpi hdom hi) (fun i x hi => zni hi) (fun _ hb => hb) _ _ _ h5 e3⟩
 ·intro i hi;cases hf : find σ i with
  | none => simp [via, hf]
  | some x =>
   have := zpi hdom hf;unfold zkm at hi;rw [hi] at this;cases this
 ·intro i L hL;obtain ⟨x, h1, h2⟩ := zme hL;exact ⟨zpi hdom h1, (h.live x L h2).2⟩
 ·intro i i' L L' hL hL' hv hv' hb;obtain ⟨x, h1, h2⟩ := zme hL;obtain ⟨x', h1', h2'⟩ := zme hL';have := h.inj x x' L L' h2 h2' hv hv' hb;subst this;exact zrs hσ h1 h1'

theorem x_sound {P : Program} {f : FuncId} {g : G} {obj : Nat -> Option Ob} {w : World} (h : zam g obj w) {nid : Nat} (hid : ¬ g.used nid) {c : XC} {args : List AV} {us : List Value} (hargs : zj g w args us) (hob : (effX P f c nid obj args).ob) :
  Calls P f us.toArray w fun e w' => ∃ v, e = .returned v /\ zaj g obj w nid (effX P f c nid obj args) v w' := by
 obtain ⟨⟨ha, hhp, hσ0, hdom, ht10, ht20⟩, _, hpx⟩ := hob;have hσ := zis hσ0;have ht1 := zis ht10;have ht2 := zis ht20;have hin : ∀ {i x}, find c.σ i = some x -> (find c.hp i).isSome = true := fun {i x} hi => by
  have := zkp hi;rw [hdom] at this;obtain ⟨v, hv⟩ := zfu this;rw [hv]; rfl
 let g0 : G := via g c.σ c.hp
 have hloc0 : ∀ i x, find c.σ i = some x -> g0.loc i = g.loc x := fun i x hi => zni hi;have hused0 : ∀ i x, find c.σ i = some x -> g0.used i := fun i x hi => hin hi;have hl0 : ∀ i L, g0.loc i = some L -> ∃ x, find c.σ i = some x /\ g.loc x = some L := fun i L hL => zme hL;have hH0 : zam g0 (zkm c.hp) w := via_rel h hhp hσ hdom;refine (hpx g0 w us hH0 (fun _ hk => hk) (zmj hused0 hloc0 (fun _ hb => hb) ha hargs)).mono fun e w' ⟨v, g1, he, hH1, hr1, hs1, hp1⟩ => ⟨v, he, ?_⟩
 have hown0 : ∀ b, g0.owns b -> ∃ x, x ∈ c.σ.map (·.2) /\ ∃ L, g.loc x = some L /\ L.virt = false /\ L.blk = b := by
  rintro b ⟨i, L, hL, hv, hb⟩;obtain ⟨x, h1, h2⟩ := hl0 i L hL;exact ⟨x, zql h1, L, h2, hv, hb⟩
 have hkeep : ∀ x L, x ∉ c.σ.map (·.2) -> g.loc x = some L -> L.virt = false -> ¬ g0.owns L.blk := by
  rintro x L hx hL hv ho;obtain ⟨y, hy, M, hM, hvM, hb⟩ := hown0 _ ho;have := h.inj y x M L hM hL hvM hv hb;exact hx (this ▸ hy)
 let g2 : G := ⟨g1.ro, fun x => match find (c.ti nid) x with | some j => g1.loc j | none => if x ∈ c.σ.map (·.2) then none else g.loc x, fun x => g.used x \/ find (c.ti nid) x ≠ none⟩
 have hg2t : ∀ x j, find (c.ti nid) x = some j -> g2.loc x = g1.loc j := fun x j hx => by simp only [g2, hx]
 have hg2n : ∀ x, find (c.ti nid) x = none -> g2.loc x = if x ∈ c.σ.map (·.2) then none else g.loc x := fun x hx => by simp only [g2, hx]
 have hτ : ∀ i x, find (swp (c.ti nid)) i = some x -> find (c.ti nid) x = some i := fun i x hi => swp_find ht1 ht2 hi;have hlater : zbs g w g2 w' := by
  refine ⟨fun b hb => ⟨hs1.ro b hb, ?_⟩, fun x hx => .inl hx, fun x hx => ?_⟩
  ·refine hs1.block b (h.ro b hb) fun ho => ?_;obtain ⟨y, hy, M, hM, hvM, hbb⟩ := hown0 b ho;exact ((h.live y M hM).2 hvM).2 (hbb ▸ hb)
  ·cases hf : find (c.ti nid) x with
   | none =>
    rw [hg2n x hf];split
    ·exact .inr rfl
    ·exact .inl rfl
   | some j =>
    rcases ti_find hf with rfl | ⟨i, h1, h2⟩
    ·exact absurd hx hid
    ·left
     rw [hg2t x j hf, hp1 i j h1, hloc0 i x h2]
 have hobj2 : ∀ x, zcu obj (effX P f c nid obj args).wr x = match find (c.ti nid) x with
   | some j => (find c.hp' j).map fun o => ⟨o.elem, o.m, dnR (swp (c.ti nid)) o.rows⟩
   | none => if x ∈ c.σ.map (·.2) then none else obj x := by
  intro x;simp only [effX];rw [zlb, zka (by rw [zrw]; exact ht1), zka (by rw [zrp]; exact hσ), zrx, zrq];cases find (c.ti nid) x with
  | some j => rfl
  | none => simp only [Option.map_none, Option.getD_none]; split <;> rfl
 refine ⟨g2, ⟨?_, ?_, ?_, ?_, hH1.ro⟩, ?_, hlater, ?_, ?_⟩
 ·intro x o ho;rw [hobj2] at ho;cases hf : find (c.ti nid) x with
  | some j =>
   rw [hf] at ho;simp only [Option.map_eq_some_iff] at ho;obtain ⟨o1, ho1, rfl⟩ := ho;obtain ⟨L, hL, hok⟩ := hH1.own j o1 ho1;refine ⟨L, by rw [hg2t x j hf]; exact hL, hok.m, hok.pos, by simpa only [zts] using hok.len, fun hv => by simp [hok.virt hv, dnR], fun hv => ?_, fun hv => ⟨(hok.ents hv).1, (hok.ents hv).2.imp fun es he => he.imp fun clock he => ⟨he.1, he.2.1, dnR_ents (fun i y hy => Or.inr (by rw [hτ i y hy]; simp)) (fun i y hy => hg2t y i (hτ i y hy)) (fun _ hb => hb) _ _ he.2.2⟩⟩⟩;obtain ⟨cur, c1, c2, c3, c5⟩ := hok.cells hv;refine ⟨cur, c1, c2, c3, fun k row hi => ?_⟩;obtain ⟨r0, hr0, rfl⟩ := dnR_get _ _ k row hi;obtain ⟨d1, d2⟩ := c5 k r0 hr0;refine ⟨by rw [ztt]; exact d1, fun q av hq => ?_⟩;obtain ⟨a0, ha0, rfl⟩ := dnL_get _ _ q av hq;obtain ⟨u, q1, q2, q3⟩ := d2 q a0 ha0;exact ⟨u, q1, q2, dn_rep (fun i y hy => Or.inr (by rw [hτ i y hy]; simp)) (fun i y hy => hg2t y i (hτ i y hy)) (fun _ hb => hb) _ _ q3⟩
  | none =>
   rw [hf] at ho;simp only at ho;split at ho
   ·cases ho
   ·rename_i hx;obtain ⟨L, hL, hok⟩ := h.own x o ho;exact ⟨L, by rw [hg2n x hf, if_neg hx]; exact hL, hok.later hlater fun hv => hs1.block _ ((h.live x L hL).2 hv).1 (hkeep x L hx hL hv)⟩
 ·intro x hx;rw [hobj2] at hx;cases hf : find (c.ti nid) x with
  | some j =>
   rw [hf] at hx;rw [hg2t x j hf];simp only [Option.map_eq_none_iff] at hx;exact hH1.gone j hx
  | none =>
   rw [hf] at hx;simp only at hx;rw [hg2n x hf];split
   ·rfl
   ·rename_i hn; rw [if_neg hn] at hx; exact h.gone x hx
 ·intro x L hL;cases hf : find (c.ti nid) x with
  | some j =>
   rw [hg2t x j hf] at hL;exact ⟨.inr (by rw [hf]; simp), (hH1.live j L hL).2⟩
  | none =>
   rw [hg2n x hf] at hL;split at hL
   ·cases hL
   ·rename_i hx;refine ⟨.inl (h.live x L hL).1, fun hv => ⟨Nat.lt_of_lt_of_le ((h.live x L hL).2 hv).1 hs1.size, fun hro => ?_⟩⟩;rcases hs1.ro' _ hro with h1 | h1 | h1
    ·exact ((h.live x L hL).2 hv).2 h1
    ·have := ((h.live x L hL).2 hv).1; omega
    ·exact hkeep x L hx hL hv h1
 ·intro x y L L' hL hL' hv hv' hb;have mix : ∀ x y L L', (∃ j, find (c.ti nid) x = some j) -> find (c.ti nid) y = none -> g2.loc x = some L -> g2.loc y = some L' -> L.virt = false -> L'.virt = false -> L.blk = L'.blk -> False := by
   rintro x y L L' ⟨j, hx⟩ hy hL hL' hv hv' hb;rw [hg2t x j hx] at hL;rw [hg2n y hy] at hL';split at hL'
   ·cases hL'
   ·rename_i hny;rcases hs1.own L.blk ⟨j, L, hL, hv, rfl⟩ with h1 | h1
    ·have := ((h.live y L' hL').2 hv').1; omega
    ·exact hkeep y L' hny hL' hv' (hb ▸ h1)
  cases hx : find (c.ti nid) x with
  | some j =>
   cases hy : find (c.ti nid) y with
   | some k =>
    rw [hg2t x j hx] at hL;rw [hg2t y k hy] at hL';have := hH1.inj j k L L' hL hL' hv hv' hb;subst this;exact zrs ht2 hx hy
   | none => exact (mix x y L L' ⟨j, hx⟩ hy hL hL' hv hv' hb).elim
  | none =>
   cases hy : find (c.ti nid) y with
   | some k => exact (mix y x L' L ⟨k, hy⟩ hx hL' hL hv' hv hb.symm).elim
   | none =>
    rw [hg2n x hx] at hL;rw [hg2n y hy] at hL';split at hL
    ·cases hL
    ·split at hL'
     ·cases hL'
     ·exact h.inj x y L L' hL hL' hv hv' hb
 ·refine ⟨hs1.os, hs1.tape, hs1.output, hs1.size, fun b hb hn => hs1.block b hb fun ho => hn ?_, ?_, fun b hb => hs1.ro b hb, fun b hb => ?_⟩
  ·obtain ⟨x, _, L, h1, h2, h3⟩ := hown0 b ho;exact ⟨x, L, h1, h2, h3⟩
  ·rintro b ⟨x, L, hL, hv, hb⟩;cases hf : find (c.ti nid) x with
   | some j =>
    rw [hg2t x j hf] at hL;rcases hs1.own b ⟨j, L, hL, hv, hb⟩ with h1 | h1
    ·exact .inl h1
    ·obtain ⟨y, _, M, q1, q2, q3⟩ := hown0 b h1;exact .inr ⟨y, M, q1, q2, q3⟩
   | none =>
    rw [hg2n x hf] at hL;split at hL
    ·cases hL
    ·exact .inr ⟨x, L, hL, hv, hb⟩
  ·rcases hs1.ro' b hb with h1 | h1 | h1
   ·exact .inl h1
   ·exact .inr (.inl h1)
   ·obtain ⟨y, _, M, q1, q2, q3⟩ := hown0 b h1;exact .inr (.inr ⟨y, M, q1, q2, q3⟩)
 ·intro k hk;rcases hk with hk | hk
  ·exact .inl hk
  ·cases hf : find (c.ti nid) k with
   | none => exact absurd hf hk
   | some j =>
    rcases ti_find hf with rfl | ⟨i, h1, h2⟩
    ·exact .inr rfl
    ·have h3 := hin h2;obtain ⟨o, ho⟩ := Option.isSome_iff_exists.1 h3;obtain ⟨x', o', q1, q2, _⟩ := zro hhp i o ho;rw [h2] at q1;cases q1;obtain ⟨L, hL, _⟩ := h.own k o' q2;exact .inl (h.live k L hL).1
 ·exact dn_rep (fun i y hy => Or.inr (by rw [hτ i y hy]; simp)) (fun i y hy => hg2t y i (hτ i y hy)) (fun _ hb => hb) _ _ hr1
end Go.Abs
