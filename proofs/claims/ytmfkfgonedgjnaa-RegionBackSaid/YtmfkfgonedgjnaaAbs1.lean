/-
  An abstract machine for Go functions that work on plain data: pure data, abstract values, owned objects, and the relation to the model's worlds. No program in sight.
-/
import Derived.WalkKit
import Derived.ProofKit
import Derived.KernelRfl
set_option linter.unusedVariables false
set_option linter.unusedSimpArgs false
namespace Go.Abs

/-! No draw is taken back. -/
theorem ask_drawn {α : Type} : ∀ (c : Ask α) (w : World), w.drawn ≤ (w.ask c).2.drawn
  | .done a, w => Nat.le_refl _
  | .ask what range k, w => by
    unfold World.ask
    simp only
    split
    · exact ask_drawn _ w
    · have := ask_drawn (k ((Question.extern what range).cut (w.tape w.drawn (Question.extern what range)))) { w with drawn := w.drawn + 1 }
      exact Nat.le_trans (Nat.le_succ _) this
theorem sys_drawn (w : World) (c : Sys) : w.drawn ≤ (w.sys c).2.drawn := by
  have h := ask_drawn (Kernel.perform c w.os) w
  unfold World.sys
  split
  · exact Nat.le_refl _
  · rename_i heq
    rw [heq] at h
    exact h
theorem viewStore_drawn {p : Program} {w w' : World} {at_ : Addr} {u : TypeId} {k : Addr} {v : Value} {atomic : Bool} {l : List Addr} (h : w.viewStore p at_ u k v atomic = .ok (w', l)) : w'.drawn = w.drawn := by
  unfold World.viewStore at h
  simp only [bind, Except.bind, throwThe, MonadExcept.throw, MonadExceptOf.throw, pure, Except.pure] at h
  repeat' (split at h)
  all_goals first | (cases h; done) | skip
  all_goals (cases h; rfl)
theorem farStore_drawn {p : Program} {w w' : World} {a : Addr} {v : Value} {atomic : Bool} {l : List Addr} (h : w.farStore p a v atomic = .ok (w', l)) : w'.drawn = w.drawn := by
  unfold World.farStore at h
  split at h
  · split at h
    · rename_i heq
      cases h
      exact viewStore_drawn heq
    · cases h
  · cases h
theorem sem_drawn {α : Type} {P : Program} : ∀ (s : Sem α) (w w' : World) (v : α), s.run P w = .ok v w' → w.drawn ≤ w'.drawn
  | .pure a, w, w', v, h => by simp only [Sem.run] at h; cases h; exact Nat.le_refl _
  | .load m a k, w, w', v, h => by
    simp only [Sem.run] at h
    split at h
    · exact sem_drawn _ _ _ _ h
    · split at h
      · exact sem_drawn _ _ _ _ h
      · cases h
  | .store m a x k, w, w', v, h => by
    have key : (match w.cell? a with
        | some _ => if w.frozen? a then .halt (.unsupported (.unsafePointer "a write to bytes that a string shares")) w else k.run P (w.setCell a x)
        | none => match w.farStore P a x (m == .atomic) with
          | .ok (w, _) => k.run P w
          | .error h => .halt h w) = Result.ok v w' → w.drawn ≤ w'.drawn := by
      intro h
      split at h
      · split at h
        · cases h
        · exact sem_drawn k (w.setCell a x) _ _ h
      · split at h
        · rename_i heq
          rw [← farStore_drawn heq]
          exact sem_drawn k _ _ _ h
        · cases h
    cases x
    case agg => simp only [Sem.run] at h; cases h
    case tuple => simp only [Sem.run] at h; cases h
    all_goals (simp only [Sem.run] at h; exact key h)
  | .new o k, w, w', v, h => by simp only [Sem.run] at h; exact sem_drawn (k _) { w with heap := w.heap.push o } _ _ h
  | .shape r k, w, w', v, h => by simp only [Sem.run] at h; exact sem_drawn _ _ _ _ h
  | .freeze a n k, w, w', v, h => by
    simp only [Sem.run] at h
    have := sem_drawn k (w.freeze a n) _ _ h
    rwa [show (w.freeze a n).drawn = w.drawn from by unfold World.freeze; split <;> rfl] at this
  | .frozen a k, w, w', v, h => by simp only [Sem.run] at h; exact sem_drawn _ _ _ _ h
  | .getObj r k, w, w', v, h => by
    simp only [Sem.run] at h
    split at h
    · cases h
    · exact sem_drawn _ _ _ _ h
    · cases h
  | .setObj r o k, w, w', v, h => by
    simp only [Sem.run] at h
    split at h
    · cases h
    · exact sem_drawn k { w with heap := w.heap.setIfInBounds r o } _ _ h
    · cases h
  | .choose q k, w, w', v, h => by
    simp only [Sem.run] at h
    split at h
    · exact sem_drawn _ _ _ _ h
    · exact Nat.le_trans (Nat.le_succ _) (sem_drawn (k (q.cut (w.tape w.drawn q))) { w with drawn := w.drawn + 1 } _ _ h)
  | .sys c k, w, w', v, h => by
    simp only [Sem.run] at h
    exact Nat.le_trans (sys_drawn w c) (sem_drawn (k (w.sys c).1) (w.sys c).2 _ _ h)
  | .program k, w, w', v, h => by simp only [Sem.run] at h; exact sem_drawn _ _ _ _ h
  | .mark m k, w, w', v, h => by simp only [Sem.run] at h; exact sem_drawn k _ _ _ h
  | .halt x, w, w', v, h => by simp only [Sem.run] at h; cases h

/-- Pure data. A slice is the list of its elements, each the list of its cells. -/
inductive D where
  | bool (b : Bool)
  | int (k : IntKind) (n : Int)
  | str (s : ByteArray)
  | sl (rows : List (List D))
  | agg (cs : List D)
  | tup (cs : List D)
  | rp (cs : List D)
  | fn (f : Fn) (caps : List D)

instance : Inhabited D := ⟨.bool false⟩

/-- Values vs lie in block b from cell o on. -/
def CellsAt (w : World) (b o : Nat) (vs : List Value) : Prop := ∀ j v, vs[j]? = some v → w.cell? ⟨b, o + j, none⟩ = some v ∧ v.oneCell' = true

def OneCells (vs : List Value) : Prop := ∀ v ∈ vs, v.oneCell' = true

mutual
def RepD (ro : Nat → Prop) (w : World) : D → Value → Prop
  | .bool b, v => v = .bool b
  | .int k n, v => v = .int k n
  | .str s, v => v = .string s
  | .sl rows, v => ∃ a cap, v = .slice a rows.length cap ∧ rows.length ≤ cap ∧ cap ≤ maxLen ∧ (rows = [] ∨ ∃ b o m, a = some ⟨b, o, none⟩ ∧ ro b ∧ RepRows ro w b m o rows)
  | .agg cs, v => ∃ vs : List Value, v = .agg vs.toArray ∧ OneCells vs ∧ RepDs ro w cs vs
  | .tup cs, v => ∃ vs : List Value, v = .tuple vs.toArray ∧ RepDs ro w cs vs
  | .rp cs, v => ∃ b o vs, v = .pointer (some ⟨b, o, none⟩) ∧ ro b ∧ RepDs ro w cs vs ∧ CellsAt w b o vs
  | .fn f caps, v => ∃ vs : List Value, v = .func f #[] vs.toArray ∧ RepDs ro w caps vs
def RepDs (ro : Nat → Prop) (w : World) : List D → List Value → Prop
  | [], vs => vs = []
  | d :: ds, vs => ∃ v vs', vs = v :: vs' ∧ RepD ro w d v ∧ RepDs ro w ds vs'
def RepRows (ro : Nat → Prop) (w : World) (b m : Nat) : Nat → List (List D) → Prop
  | _, [] => True
  | o, r :: rs => (∃ vs : List Value, vs.length = m ∧ RepDs ro w r vs ∧ CellsAt w b o vs) ∧ RepRows ro w b m (o + m) rs
end

theorem CellsAt.mono {w w' : World} {b o : Nat} {vs : List Value} (h : CellsAt w b o vs) (hb : w'.heap[b]? = w.heap[b]?) : CellsAt w' b o vs := by
  intro j v hj
  obtain ⟨h1, h2⟩ := h j v hj
  exact ⟨by rw [← h1]; exact World.cell?_of_block (a := ⟨b, o + j, none⟩) hb, h2⟩

/-- A future in which what may be read has not turned. -/
def Fut (ro : Nat → Prop) (w : World) (ro' : Nat → Prop) (w' : World) : Prop := ∀ b, ro b → ro' b ∧ w'.heap[b]? = w.heap[b]?

mutual
theorem RepD.mono {ro ro' : Nat → Prop} {w w' : World} (hf : Fut ro w ro' w') : ∀ (d : D) (v : Value), RepD ro w d v → RepD ro' w' d v
  | .bool b, v, h => by simpa [RepD] using h
  | .int k n, v, h => by simpa [RepD] using h
  | .str s, v, h => by simpa [RepD] using h
  | .sl rows, v, h => by
    simp only [RepD] at h ⊢
    obtain ⟨a, cap, hv, hc, hm, hr⟩ := h
    refine ⟨a, cap, hv, hc, hm, ?_⟩
    rcases hr with hr | ⟨b, o, m, ha, hb, hr⟩
    · exact .inl hr
    · exact .inr ⟨b, o, m, ha, (hf b hb).1, RepRows.mono hf (hf b hb).2 o rows hr⟩
  | .agg cs, v, h => by
    simp only [RepD] at h ⊢
    obtain ⟨vs, hv, ho, hr⟩ := h
    exact ⟨vs, hv, ho, RepDs.mono hf cs vs hr⟩
  | .tup cs, v, h => by
    simp only [RepD] at h ⊢
    obtain ⟨vs, hv, hr⟩ := h
    exact ⟨vs, hv, RepDs.mono hf cs vs hr⟩
  | .rp cs, v, h => by
    simp only [RepD] at h ⊢
    obtain ⟨b, o, vs, hv, hb, hr, hc⟩ := h
    exact ⟨b, o, vs, hv, (hf b hb).1, RepDs.mono hf cs vs hr, hc.mono (hf b hb).2⟩
  | .fn f caps, v, h => by
    simp only [RepD] at h ⊢
    obtain ⟨vs, hv, hr⟩ := h
    exact ⟨vs, hv, RepDs.mono hf caps vs hr⟩
theorem RepDs.mono {ro ro' : Nat → Prop} {w w' : World} (hf : Fut ro w ro' w') : ∀ (ds : List D) (vs : List Value), RepDs ro w ds vs → RepDs ro' w' ds vs
  | [], vs, h => by simpa [RepDs] using h
  | d :: ds, vs, h => by
    simp only [RepDs] at h ⊢
    obtain ⟨v, vs', rfl, h1, h2⟩ := h
    exact ⟨v, vs', rfl, RepD.mono hf d v h1, RepDs.mono hf ds vs' h2⟩
theorem RepRows.mono {ro ro' : Nat → Prop} {w w' : World} (hf : Fut ro w ro' w') {b m : Nat} (hb : w'.heap[b]? = w.heap[b]?) : ∀ (o : Nat) (rows : List (List D)), RepRows ro w b m o rows → RepRows ro' w' b m o rows
  | _, [], _ => by simp [RepRows]
  | o, r :: rs, h => by
    simp only [RepRows] at h ⊢
    obtain ⟨⟨vs, hl, h1, h2⟩, h3⟩ := h
    exact ⟨⟨vs, hl, RepDs.mono hf r vs h1, h2.mono hb⟩, RepRows.mono hf hb (o + m) rs h3⟩
end

theorem RepDs.length {ro : Nat → Prop} {w : World} : ∀ {ds : List D} {vs : List Value}, RepDs ro w ds vs → vs.length = ds.length
  | [], vs, h => by simp only [RepDs] at h; simp [h]
  | d :: ds, vs, h => by
    simp only [RepDs] at h
    obtain ⟨v, vs', rfl, _, h2⟩ := h
    simp [RepDs.length h2]

theorem RepDs.get {ro : Nat → Prop} {w : World} : ∀ {ds : List D} {vs : List Value}, RepDs ro w ds vs → ∀ (j : Nat) (d : D), ds[j]? = some d → ∃ v, vs[j]? = some v ∧ RepD ro w d v
  | [], _, _, j, d, hj => by simp at hj
  | d0 :: ds, vs, h, j, d, hj => by
    simp only [RepDs] at h
    obtain ⟨v, vs', rfl, h1, h2⟩ := h
    cases j with
    | zero => simp at hj; subst hj; exact ⟨v, by simp, h1⟩
    | succ j => simp at hj; obtain ⟨u, hu, hr⟩ := h2.get j d hj; exact ⟨u, by simpa using hu, hr⟩

theorem RepDs.drop {ro : Nat → Prop} {w : World} : ∀ {ds : List D} {vs : List Value} (k : Nat), RepDs ro w ds vs → RepDs ro w (ds.drop k) (vs.drop k)
  | ds, vs, 0, h => by simpa using h
  | [], vs, k + 1, h => by simp only [RepDs] at h; subst h; simp [RepDs]
  | d :: ds, vs, k + 1, h => by
    simp only [RepDs] at h
    obtain ⟨v, vs', rfl, h1, h2⟩ := h
    simpa using h2.drop k

theorem RepDs.take {ro : Nat → Prop} {w : World} : ∀ {ds : List D} {vs : List Value} (k : Nat), RepDs ro w ds vs → RepDs ro w (ds.take k) (vs.take k)
  | ds, vs, 0, h => by simp [RepDs]
  | [], vs, k + 1, h => by simp only [RepDs] at h; subst h; simp [RepDs]
  | d :: ds, vs, k + 1, h => by
    simp only [RepDs] at h
    obtain ⟨v, vs', rfl, h1, h2⟩ := h
    simp only [List.take_succ_cons, RepDs]
    exact ⟨v, vs'.take k, rfl, h1, h2.take k⟩

theorem RepDs.append {ro : Nat → Prop} {w : World} : ∀ {ds es : List D} {vs us : List Value}, RepDs ro w ds vs → RepDs ro w es us → RepDs ro w (ds ++ es) (vs ++ us)
  | [], es, vs, us, h, h' => by simp only [RepDs] at h; subst h; simpa using h'
  | d :: ds, es, vs, us, h, h' => by
    simp only [RepDs] at h
    obtain ⟨v, vs', rfl, h1, h2⟩ := h
    simp only [List.cons_append, RepDs]
    exact ⟨v, vs' ++ us, rfl, h1, h2.append h'⟩

theorem RepDs.of_get {ro : Nat → Prop} {w : World} : ∀ {ds : List D} {vs : List Value}, vs.length = ds.length → (∀ (j : Nat) (d : D), ds[j]? = some d → ∃ v, vs[j]? = some v ∧ RepD ro w d v) → RepDs ro w ds vs
  | [], vs, hl, _ => by simpa [RepDs] using hl
  | d :: ds, [], hl, _ => by simp at hl
  | d :: ds, v :: vs, hl, h => by
    simp only [RepDs]
    obtain ⟨u, hu, hr⟩ := h 0 d (by simp)
    simp at hu
    subst hu
    exact ⟨v, vs, rfl, hr, RepDs.of_get (by simpa using hl) (fun j d hj => by simpa using h (j + 1) d (by simpa using hj))⟩

theorem CellsAt.drop {w : World} {b o : Nat} {vs : List Value} (h : CellsAt w b o vs) (k : Nat) : CellsAt w b (o + k) (vs.drop k) := by
  intro j v hj
  rw [List.getElem?_drop] at hj
  have := h (k + j) v hj
  rwa [← Nat.add_assoc] at this

theorem CellsAt.take {w : World} {b o : Nat} {vs : List Value} (h : CellsAt w b o vs) (k : Nat) : CellsAt w b o (vs.take k) := by
  intro j v hj
  rw [List.getElem?_take] at hj
  split at hj
  · exact h j v hj
  · cases hj

/-- The rows of a slice, one by one. -/
theorem RepRows.get {ro : Nat → Prop} {w : World} {b m : Nat} : ∀ {o : Nat} {rows : List (List D)}, RepRows ro w b m o rows → ∀ (i : Nat) (r : List D), rows[i]? = some r →
    ∃ vs : List Value, vs.length = m ∧ RepDs ro w r vs ∧ CellsAt w b (o + i * m) vs
  | _, [], _, i, r, hi => by simp at hi
  | o, r0 :: rs, h, i, r, hi => by
    simp only [RepRows] at h
    cases i with
    | zero => simp at hi; subst hi; simpa using h.1
    | succ i =>
      simp at hi
      have := h.2.get i r hi
      rwa [show o + m + i * m = o + (i + 1) * m by rw [Nat.add_mul]; omega] at this

theorem RepRows.of_get {ro : Nat → Prop} {w : World} {b m : Nat} : ∀ {o : Nat} {rows : List (List D)}, (∀ (i : Nat) (r : List D), rows[i]? = some r →
    ∃ vs : List Value, vs.length = m ∧ RepDs ro w r vs ∧ CellsAt w b (o + i * m) vs) → RepRows ro w b m o rows
  | _, [], _ => by simp [RepRows]
  | o, r0 :: rs, h => by
    simp only [RepRows]
    refine ⟨by simpa using h 0 r0 (by simp), RepRows.of_get fun i r hi => ?_⟩
    have := h (i + 1) r (by simpa using hi)
    rwa [show o + m + i * m = o + (i + 1) * m by rw [Nat.add_mul]; omega]

theorem RepRows.drop {ro : Nat → Prop} {w : World} {b m o : Nat} {rows : List (List D)} (h : RepRows ro w b m o rows) (k : Nat) : RepRows ro w b m (o + k * m) (rows.drop k) :=
  RepRows.of_get fun i r hi => by
    rw [List.getElem?_drop] at hi
    have := h.get (k + i) r hi
    rwa [Nat.add_mul, ← Nat.add_assoc] at this

theorem RepRows.take {ro : Nat → Prop} {w : World} {b m o : Nat} {rows : List (List D)} (h : RepRows ro w b m o rows) (k : Nat) : RepRows ro w b m o (rows.take k) :=
  RepRows.of_get fun i r hi => by
    rw [List.getElem?_take] at hi
    split at hi
    · exact h.get i r hi
    · cases hi

/-- Data without memory behind it. -/
def D.flat : D → Bool
  | .bool _ | .int _ _ | .str _ => true
  | .agg cs => cs.all fun | .bool _ | .int _ _ | .str _ => true | _ => false
  | _ => false

/-- A datum that takes one cell. -/
def D.cell : D → Bool
  | .agg _ | .tup _ => false
  | _ => true

theorem RepD.cell {ro : Nat → Prop} {w : World} {d : D} {v : Value} (h : RepD ro w d v) (hc : d.cell = true) : v.oneCell' = true := by
  cases d <;> simp only [RepD] at h
  case bool => subst h; rfl
  case int => subst h; rfl
  case str => subst h; rfl
  case sl => obtain ⟨a, cap, rfl, _⟩ := h; rfl
  case agg => simp [D.cell] at hc
  case tup => simp [D.cell] at hc
  case rp => obtain ⟨b, o, vs, rfl, _⟩ := h; rfl
  case fn => obtain ⟨vs, rfl, _⟩ := h; rfl

/-- Where an owned object lies: its block, cells a row, rows of room; 'virt': nowhere (a nil slice). -/
structure Loc where
  blk : Nat
  m : Nat
  cap : Nat
  virt : Bool

/-- Abstract values: 'any' is what nobody looks at; 'opt b x' is x where b; 'ub p q' a bool that is true only where p, false only where q; 'nl' the nil slice; 'hs' a slice over an owned object; 'ptr' a pointer into one (row i, cell j); 'pin' (of no temporary) says where an object lies. -/
inductive AV where
  | any
  | nl
  | d (x : D)
  | hs (id off len : Nat)
  | ptr (id i j : Nat)
  | agg (l : List AV)
  | clo (f : Fn) (caps : List AV)
  | tup (l : List AV)
  | opt (b : Bool) (x : AV)
  | ub (p q : Bool)
  | pin (id : Nat) (L : Loc)

instance : Inhabited AV := ⟨.any⟩

structure G where
  ro : Nat → Prop
  loc : Nat → Option Loc
  used : Nat → Prop

mutual
def RepA (g : G) (w : World) : AV → Value → Prop
  | .any, _ => True
  | .nl, v => v = .slice none 0 0
  | .d x, v => RepD g.ro w x v
  | .hs id off len, v => (g.used id ∧ v.oneCell' = true) ∧ ∀ L, g.loc id = some L → (L.virt = true ∧ off = 0 ∧ len = 0 ∧ v = .slice none 0 0) ∨ (L.virt = false ∧ off + len ≤ L.cap ∧ v = .slice (some ⟨L.blk, off * L.m, none⟩) len (L.cap - off))
  | .ptr id i j, v => (g.used id ∧ v.oneCell' = true) ∧ ∀ L, g.loc id = some L → L.virt = false ∧ v = .pointer (some ⟨L.blk, i * L.m + j, none⟩)
  | .agg l, v => ∃ vs : List Value, v = .agg vs.toArray ∧ OneCells vs ∧ RepAs g w l vs
  | .clo f caps, v => ∃ vs : List Value, v = .func f #[] vs.toArray ∧ RepAs g w caps vs
  | .tup l, v => ∃ vs : List Value, v = .tuple vs.toArray ∧ RepAs g w l vs
  | .opt b x, v => (b = true → RepA g w x v) ∧ (b = false → v = undef)
  | .ub p q, v => ∃ b, v = .bool b ∧ (b = true → p = true) ∧ (b = false → q = true)
  | .pin id L, _ => g.used id ∧ ∀ M, g.loc id = some M → M = L
def RepAs (g : G) (w : World) : List AV → List Value → Prop
  | [], vs => vs = []
  | a :: as, vs => ∃ v vs', vs = v :: vs' ∧ RepA g w a v ∧ RepAs g w as vs'
end

/-- How ghosts go on: what may be read stays, ids stay where they are or are gone. -/
structure Later (g : G) (w : World) (g' : G) (w' : World) : Prop where
  fut : Fut g.ro w g'.ro w'
  used : ∀ id, g.used id → g'.used id
  loc : ∀ id, g.used id → g'.loc id = g.loc id ∨ g'.loc id = none

mutual
theorem RepA.later {g g' : G} {w w' : World} (h : Later g w g' w') : ∀ (a : AV) (v : Value), RepA g w a v → RepA g' w' a v
  | .any, v, _ => by simp [RepA]
  | .nl, v, k => by simpa [RepA] using k
  | .d x, v, k => by simp only [RepA] at k ⊢; exact RepD.mono h.fut x v k
  | .hs id off len, v, k => by
    simp only [RepA] at k ⊢
    refine ⟨⟨h.used id k.1.1, k.1.2⟩, fun L hL => ?_⟩
    rcases h.loc id k.1.1 with e | e
    · exact k.2 L (by rw [← e]; exact hL)
    · rw [e] at hL; cases hL
  | .ptr id i j, v, k => by
    simp only [RepA] at k ⊢
    refine ⟨⟨h.used id k.1.1, k.1.2⟩, fun L hL => ?_⟩
    rcases h.loc id k.1.1 with e | e
    · exact k.2 L (by rw [← e]; exact hL)
    · rw [e] at hL; cases hL
  | .agg l, v, k => by
    simp only [RepA] at k ⊢
    obtain ⟨vs, hv, ho, hr⟩ := k
    exact ⟨vs, hv, ho, RepAs.later h l vs hr⟩
  | .clo f l, v, k => by
    simp only [RepA] at k ⊢
    obtain ⟨vs, hv, hr⟩ := k
    exact ⟨vs, hv, RepAs.later h l vs hr⟩
  | .tup l, v, k => by
    simp only [RepA] at k ⊢
    obtain ⟨vs, hv, hr⟩ := k
    exact ⟨vs, hv, RepAs.later h l vs hr⟩
  | .opt b x, v, k => by
    simp only [RepA] at k ⊢
    exact ⟨fun hb => RepA.later h x v (k.1 hb), k.2⟩
  | .ub p q, v, k => by simpa only [RepA] using k
  | .pin id L, v, k => by
    simp only [RepA] at k ⊢
    refine ⟨h.used id k.1, fun M hM => ?_⟩
    rcases h.loc id k.1 with e | e
    · exact k.2 M (by rw [← e]; exact hM)
    · rw [e] at hM; cases hM
theorem RepAs.later {g g' : G} {w w' : World} (h : Later g w g' w') : ∀ (as : List AV) (vs : List Value), RepAs g w as vs → RepAs g' w' as vs
  | [], vs, k => by simpa [RepAs] using k
  | a :: as, vs, k => by
    simp only [RepAs] at k ⊢
    obtain ⟨v, vs', rfl, h1, h2⟩ := k
    exact ⟨v, vs', rfl, RepA.later h a v h1, RepAs.later h as vs' h2⟩
end

theorem RepAs.length {g : G} {w : World} : ∀ {ds : List AV} {vs : List Value}, RepAs g w ds vs → vs.length = ds.length
  | [], vs, h => by simp only [RepAs] at h; simp [h]
  | d :: ds, vs, h => by
    simp only [RepAs] at h
    obtain ⟨v, vs', rfl, _, h2⟩ := h
    simp [RepAs.length h2]

theorem RepAs.get {g : G} {w : World} : ∀ {ds : List AV} {vs : List Value}, RepAs g w ds vs → ∀ (j : Nat) (d : AV), ds[j]? = some d → ∃ v, vs[j]? = some v ∧ RepA g w d v
  | [], _, _, j, d, hj => by simp at hj
  | d0 :: ds, vs, h, j, d, hj => by
    simp only [RepAs] at h
    obtain ⟨v, vs', rfl, h1, h2⟩ := h
    cases j with
    | zero => simp at hj; subst hj; exact ⟨v, by simp, h1⟩
    | succ j => simp at hj; obtain ⟨u, hu, hr⟩ := h2.get j d hj; exact ⟨u, by simpa using hu, hr⟩

theorem RepAs.of_get {g : G} {w : World} : ∀ {ds : List AV} {vs : List Value}, vs.length = ds.length → (∀ (j : Nat) (d : AV), ds[j]? = some d → ∃ v, vs[j]? = some v ∧ RepA g w d v) → RepAs g w ds vs
  | [], vs, hl, _ => by simpa [RepAs] using hl
  | d :: ds, [], hl, _ => by simp at hl
  | d :: ds, v :: vs, hl, h => by
    simp only [RepAs]
    obtain ⟨u, hu, hr⟩ := h 0 d (by simp)
    simp at hu
    subst hu
    exact ⟨v, vs, rfl, hr, RepAs.of_get (by simpa using hl) (fun j d hj => by simpa using h (j + 1) d (by simpa using hj))⟩

theorem RepAs.of_ds {g : G} {w : World} : ∀ {ds : List D} {vs : List Value}, RepDs g.ro w ds vs → RepAs g w (ds.map AV.d) vs
  | [], vs, h => by simpa [RepAs, RepDs] using h
  | d :: ds, vs, h => by
    simp only [RepDs] at h
    obtain ⟨v, vs', rfl, h1, h2⟩ := h
    simp only [List.map_cons, RepAs]
    exact ⟨v, vs', rfl, by simpa [RepA] using h1, RepAs.of_ds h2⟩

theorem RepAs.to_ds {g : G} {w : World} : ∀ {ds : List D} {vs : List Value}, RepAs g w (ds.map AV.d) vs → RepDs g.ro w ds vs
  | [], vs, h => by simpa [RepAs, RepDs] using h
  | d :: ds, vs, h => by
    simp only [List.map_cons, RepAs] at h
    obtain ⟨v, vs', rfl, h1, h2⟩ := h
    simp only [RepDs]
    exact ⟨v, vs', rfl, by simpa [RepA] using h1, RepAs.to_ds h2⟩

/-- All of a list are data. -/
def allD : List AV → Option (List D)
  | [] => some []
  | .d x :: r => (allD r).map (x :: ·)
  | .nl :: r => (allD r).map (.sl [] :: ·)
  | _ :: _ => none

theorem allD_map (l : List D) : allD (l.map AV.d) = some l := by
  induction l with
  | nil => rfl
  | cons x l ih => simp [allD, ih]

theorem repD_nil {ro : Nat → Prop} {w : World} : RepD ro w (.sl []) (.slice none 0 0) := by
  unfold RepD
  exact ⟨none, 0, rfl, Nat.le_refl _, by simp [maxLen], .inl rfl⟩

theorem RepAs.allD {g : G} {w : World} : ∀ {l : List AV} {ds : List D} {vs : List Value}, Abs.allD l = some ds → RepAs g w l vs → RepDs g.ro w ds vs
  | [], ds, vs, h, k => by simp [Abs.allD] at h; subst h; simpa [RepAs, RepDs] using k
  | .d x :: r, ds, vs, h, k => by
    simp only [Abs.allD, Option.map_eq_some_iff] at h
    obtain ⟨ds', h', rfl⟩ := h
    simp only [RepAs] at k
    obtain ⟨v, vs', rfl, h1, h2⟩ := k
    simp only [RepDs]
    exact ⟨v, vs', rfl, by simpa [RepA] using h1, RepAs.allD h' h2⟩
  | .nl :: r, ds, vs, h, k => by
    simp only [Abs.allD, Option.map_eq_some_iff] at h
    obtain ⟨ds', h', rfl⟩ := h
    simp only [RepAs] at k
    obtain ⟨v, vs', rfl, h1, h2⟩ := k
    simp only [RepA] at h1
    subst h1
    simp only [RepDs]
    exact ⟨_, vs', rfl, repD_nil, RepAs.allD h' h2⟩
  | .any :: _, _, _, h, _ | .hs .. :: _, _, _, h, _ | .ptr .. :: _, _, _, h, _ | .agg _ :: _, _, _, h, _ | .clo .. :: _, _, _, h, _ | .tup _ :: _, _, _, h, _ | .opt .. :: _, _, _, h, _ | .ub .. :: _, _, _, h, _ | .pin .. :: _, _, _, h, _ => by simp [Abs.allD] at h

/-- A struct's value out of its cells. -/
def allS : List AV → Option (List D)
  | [] => some []
  | .d x :: r => (allS r).map (x :: ·)
  | _ :: _ => none
theorem allS_map (l : List D) : allS (l.map AV.d) = some l := by
  induction l with
  | nil => rfl
  | cons x l ih => simp [allS, ih]
theorem allS_eq : ∀ {l : List AV} {ds : List D}, allS l = some ds → l = ds.map AV.d
  | [], ds, h => by simp [allS] at h; subst h; rfl
  | .d x :: r, ds, h => by
    simp only [allS, Option.map_eq_some_iff] at h
    obtain ⟨ds', h', rfl⟩ := h
    rw [allS_eq h']; rfl
  | .any :: _, _, h | .nl :: _, _, h | .hs .. :: _, _, h | .ptr .. :: _, _, h | .agg _ :: _, _, h | .clo .. :: _, _, h | .tup _ :: _, _, h | .opt .. :: _, _, h | .ub .. :: _, _, h | .pin .. :: _, _, h => by simp [allS] at h
def mkAgg (l : List AV) : AV := match allS l with | some ds => .d (.agg ds) | none => .agg l

theorem mkAgg_map (l : List D) : mkAgg (l.map AV.d) = .d (.agg l) := by simp [mkAgg, allS_map]

theorem RepA.mkAgg {g : G} {w : World} {l : List AV} {vs : List Value} (ho : OneCells vs) (h : RepAs g w l vs) : RepA g w (Abs.mkAgg l) (.agg vs.toArray) := by
  unfold Abs.mkAgg
  split
  · rename_i ds hd
    simp only [RepA, RepD]
    rw [allS_eq hd] at h
    exact ⟨vs, rfl, ho, RepAs.to_ds h⟩
  · simp only [RepA]
    exact ⟨vs, rfl, ho, h⟩

/-- An owned object: rows of m cells each, in a block whose element type is 'elem'. -/
structure Ob where
  elem : TypeId
  m : Nat
  rows : List (List AV)

structure OwnOk (g : G) (w : World) (L : Loc) (o : Ob) : Prop where
  m : L.m = o.m
  pos : 0 < L.m
  len : o.rows.length ≤ L.cap
  virt : L.virt = true → o.rows = []
  cells : L.virt = false → ∃ cur, w.heap[L.blk]? = some (.cells cur o.elem (0, 0)) ∧ cur.size = L.cap * L.m ∧ L.cap ≤ maxLen ∧
    ∀ i row, o.rows[i]? = some row → row.length = L.m ∧ ∀ (j : Nat) (av : AV), row[j]? = some av → ∃ v : Value, cur[i * L.m + j]? = some v ∧ v.oneCell' = true ∧ RepA g w av v

/-- The owned objects lie in the world. -/
structure HRel (g : G) (obj : Nat → Option Ob) (w : World) : Prop where
  own : ∀ id o, obj id = some o → ∃ L, g.loc id = some L ∧ OwnOk g w L o
  gone : ∀ id, obj id = none → g.loc id = none
  live : ∀ id L, g.loc id = some L → g.used id ∧ (L.virt = false → L.blk < w.heap.size ∧ ¬ g.ro L.blk)
  inj : ∀ id id' L L', g.loc id = some L → g.loc id' = some L' → L.virt = false → L'.virt = false → L.blk = L'.blk → id = id'
  ro : ∀ b, g.ro b → b < w.heap.size

/-- The state stands for the world: 'get' the temporaries, 'obj' the owned objects. -/
structure Rel (U : Nat → Prop) (g : G) (get : Nat → AV) (obj : Nat → Option Ob) (n : Nat) (a : Act) (w : World) : Prop where
  defers : a.defers = []
  size : a.tmps.size = n
  tmp : ∀ t, RepA g w (get t) (a.tmps.getD t undef)
  used : ∀ id, g.used id → U id
  heap : HRel g obj w

def G.owns (g : G) (b : Nat) : Prop := ∃ id L, g.loc id = some L ∧ L.virt = false ∧ L.blk = b

/-- All that lies below B is as it was; no draw is taken back. -/
structure Below (B : Nat) (w w' : World) : Prop where
  os : w'.os = w.os
  tape : w'.tape = w.tape ∧ w.drawn ≤ w'.drawn
  output : w'.output = w.output
  size : w.heap.size ≤ w'.heap.size
  block : ∀ k, k < B → w'.heap[k]? = w.heap[k]?
theorem Below.kit {B : Nat} {w w' : World} (h : Below B w w') : Go.RowKit.Below B w w' := ⟨h.os, h.tape.1, h.output, h.size, h.block⟩

/-- The frame: blocks that the state does not own stay; what is owned later is owned now, or new. -/
structure Step (g : G) (w : World) (g' : G) (w' : World) : Prop where
  os : w'.os = w.os
  tape : w'.tape = w.tape ∧ w.drawn ≤ w'.drawn
  output : w'.output = w.output
  size : w.heap.size ≤ w'.heap.size
  block : ∀ b, b < w.heap.size → ¬ g.owns b → w'.heap[b]? = w.heap[b]?
  own : ∀ b, g'.owns b → w.heap.size ≤ b ∨ g.owns b
  ro : ∀ b, g.ro b → g'.ro b
  ro' : ∀ b, g'.ro b → g.ro b ∨ w.heap.size ≤ b ∨ g.owns b

theorem Step.refl (g : G) (w : World) : Step g w g w := ⟨rfl, ⟨rfl, Nat.le_refl _⟩, rfl, Nat.le_refl _, fun _ _ _ => rfl, fun _ h => .inr h, fun _ h => h, fun _ h => .inl h⟩

theorem Step.trans {g g' g'' : G} {w w' w'' : World} (h : Step g w g' w') (k : Step g' w' g'' w'') : Step g w g'' w'' where
  os := k.os.trans h.os
  tape := ⟨k.tape.1.trans h.tape.1, Nat.le_trans h.tape.2 k.tape.2⟩
  output := k.output.trans h.output
  size := Nat.le_trans h.size k.size
  block b hb hn := by
    have hn' : ¬ g'.owns b := fun ho => by
      rcases h.own b ho with h1 | h1
      · omega
      · exact hn h1
    rw [k.block b (Nat.lt_of_lt_of_le hb h.size) hn', h.block b hb hn]
  own b hb := by
    rcases k.own b hb with h1 | h1
    · exact .inl (Nat.le_trans h.size h1)
    · exact h.own b h1
  ro b hb := k.ro b (h.ro b hb)
  ro' b hb := by
    rcases k.ro' b hb with h1 | h1 | h1
    · exact h.ro' b h1
    · exact .inr (.inl (Nat.le_trans h.size h1))
    · rcases h.own b h1 with h2 | h2
      · exact .inr (.inl h2)
      · exact .inr (.inr h2)


theorem RepAs.set {g : G} {w : World} {l : List AV} {vs : List Value} (h : RepAs g w l vs) (j : Nat) {x : AV} {v : Value} (hx : RepA g w x v) : RepAs g w (l.set j x) (vs.set j v) := by
  refine RepAs.of_get (by simp [h.length]) fun k d hk => ?_
  rw [List.getElem?_set] at hk ⊢
  have hl := h.length
  by_cases e : j = k
  · subst e
    simp only [if_true] at hk ⊢
    split at hk
    · rename_i hlt
      cases hk
      rw [if_pos (by omega)]
      exact ⟨v, rfl, hx⟩
    · cases hk
  · simp only [e, if_false] at hk ⊢
    exact h.get k d hk

/-- The object table with one row turned. -/
def upd1 (obj : Nat → Option Ob) (id : Nat) (o : Option Ob) : Nat → Option Ob := fun x => if x = id then o else obj x

theorem OwnOk.later {g g' : G} {w w' : World} {L : Loc} {o : Ob} (h : OwnOk g w L o) (hl : Later g w g' w') (hb : L.virt = false → w'.heap[L.blk]? = w.heap[L.blk]?) : OwnOk g' w' L o where
  m := h.m
  pos := h.pos
  len := h.len
  virt := h.virt
  cells hv := by
    obtain ⟨cur, h1, h2, h3, h5⟩ := h.cells hv
    refine ⟨cur, by rw [hb hv]; exact h1, h2, h3, fun i row hi => ⟨(h5 i row hi).1, fun j av hj => ?_⟩⟩
    obtain ⟨v, hv', ho, hr⟩ := (h5 i row hi).2 j av hj
    exact ⟨v, hv', ho, RepA.later hl av v hr⟩

/-- A new object in a new block. -/
theorem HRel.new {g : G} {obj : Nat → Option Ob} {w w' : World} (h : HRel g obj w) {id B cap : Nat} (hid : ¬ g.used id) (o : Ob) (cur : Array Value)
    (hos : w'.os = w.os) (htape : w'.tape = w.tape ∧ w.drawn ≤ w'.drawn) (hout : w'.output = w.output) (hsize : w.heap.size ≤ B) (hB : B < w'.heap.size)
    (hold : ∀ b, b < w.heap.size → w'.heap[b]? = w.heap[b]?) (hnew : w'.heap[B]? = some (.cells cur o.elem (0, 0)))
    (hm : 0 < o.m) (hcs : cur.size = cap * o.m) (hlen : o.rows.length ≤ cap) (hcap : cap ≤ maxLen)
    (hrep : ∀ i row, o.rows[i]? = some row → row.length = o.m ∧ ∀ (j : Nat) (av : AV), row[j]? = some av → ∃ v : Value, cur[i * o.m + j]? = some v ∧ v.oneCell' = true ∧ RepA g w av v) :
    ∃ g', g'.loc id = some ⟨B, o.m, cap, false⟩ ∧ g'.used = (fun x => g.used x ∨ x = id) ∧ g'.ro = g.ro ∧ HRel g' (upd1 obj id (some o)) w' ∧ Step g w g' w' ∧ Later g w g' w' := by
  have hnone : g.loc id = none := by
    cases hl : g.loc id with
    | none => rfl
    | some L => exact absurd (h.live id L hl).1 hid
  let g' : G := ⟨g.ro, fun x => if x = id then some ⟨B, o.m, cap, false⟩ else g.loc x, fun x => g.used x ∨ x = id⟩
  have hloc : ∀ x L, g'.loc x = some L → (x = id ∧ L = ⟨B, o.m, cap, false⟩) ∨ (x ≠ id ∧ g.loc x = some L) := by
    intro x L hx
    simp only [g'] at hx
    split at hx
    · rename_i e; exact .inl ⟨e, by simpa using hx.symm⟩
    · rename_i e; exact .inr ⟨e, hx⟩
  have hlater : Later g w g' w' := by
    refine ⟨fun b hb => ⟨hb, hold b (h.ro b hb)⟩, fun x hx => .inl hx, fun x hx => .inl ?_⟩
    simp only [g']
    rw [if_neg (fun e : x = id => hid (e ▸ hx))]
  refine ⟨g', by simp [g'], rfl, rfl, ?_, ?_, hlater⟩
  · refine ⟨?_, ?_, ?_, ?_, ?_⟩
    · intro x o' hx
      simp only [upd1] at hx
      split at hx
      · rename_i e
        cases hx
        subst e
        refine ⟨⟨B, o.m, cap, false⟩, by simp [g'], ⟨rfl, hm, hlen, by simp, fun _ => ⟨cur, hnew, hcs, hcap, fun i row hi => ⟨(hrep i row hi).1, fun j av hj => ?_⟩⟩⟩⟩
        obtain ⟨v, hv, ho, hr⟩ := (hrep i row hi).2 j av hj
        exact ⟨v, hv, ho, RepA.later hlater av v hr⟩
      · rename_i e
        obtain ⟨L, hL, hok⟩ := h.own x o' hx
        exact ⟨L, by simp [g', e, hL], hok.later hlater fun hv => hold _ ((h.live x L hL).2 hv).1⟩
    · intro x hx
      simp only [upd1] at hx
      split at hx
      · cases hx
      · rename_i e; simp [g', e, h.gone x hx]
    · intro x L hx
      rcases hloc x L hx with ⟨rfl, rfl⟩ | ⟨e, hL⟩
      · exact ⟨.inr rfl, fun _ => ⟨hB, fun hr => by have := h.ro _ hr; simp only at this; omega⟩⟩
      · obtain ⟨h1', h2'⟩ := h.live x L hL
        exact ⟨.inl h1', fun hv => ⟨by have := (h2' hv).1; omega, (h2' hv).2⟩⟩
    · intro x y L L' hx hy hv hv' hb
      rcases hloc x L hx with ⟨rfl, rfl⟩ | ⟨e, hL⟩ <;> rcases hloc y L' hy with ⟨rfl, rfl⟩ | ⟨e', hL'⟩
      · rfl
      · have := ((h.live y L' hL').2 hv').1; simp only at hb; omega
      · have := ((h.live x L hL).2 hv).1; simp only at hb; omega
      · exact h.inj x y L L' hL hL' hv hv' hb
    · intro b hb; have := h.ro b hb; omega
  · refine ⟨hos, htape, hout, by omega, fun b hb _ => hold b hb, ?_, fun b hb => hb, fun b hb => .inl hb⟩
    rintro b ⟨x, L, hx, hv, rfl⟩
    rcases hloc x L hx with ⟨rfl, rfl⟩ | ⟨e, hL⟩
    · exact .inl hsize
    · exact .inr ⟨x, L, hL, hv, rfl⟩

/-- An object written in its own block (and perhaps under a new name). -/
theorem HRel.write {g : G} {obj : Nat → Option Ob} {w w' : World} (h : HRel g obj w) {id id' cap B : Nat} {L : Loc} (hL : g.loc id = some L) (hvirt : L.virt = false) (hid : id' = id ∨ ¬ g.used id') (o : Ob) (cur : Array Value)
    (hos : w'.os = w.os) (htape : w'.tape = w.tape ∧ w.drawn ≤ w'.drawn) (hout : w'.output = w.output) (hsize : w.heap.size ≤ w'.heap.size)
    (hold : ∀ b, b < w.heap.size → b ≠ L.blk → w'.heap[b]? = w.heap[b]?) (hB : B = L.blk ∨ (w.heap.size ≤ B ∧ B < w'.heap.size)) (hnew : w'.heap[B]? = some (.cells cur o.elem (0, 0)))
    (hm : o.m = L.m) (hpos : 0 < L.m) (hcs : cur.size = cap * L.m) (hlen : o.rows.length ≤ cap) (hcap : cap ≤ maxLen) (hkeep : id' = id → cap = L.cap ∧ B = L.blk)
    (hrep : ∀ i row, o.rows[i]? = some row → row.length = L.m ∧ ∀ (j : Nat) (av : AV), row[j]? = some av → ∃ v : Value, cur[i * L.m + j]? = some v ∧ v.oneCell' = true ∧ RepA g w av v) :
    ∃ g', g'.loc id' = some ⟨B, L.m, cap, false⟩ ∧ g'.used = (fun x => g.used x ∨ x = id') ∧ g'.ro = g.ro ∧ HRel g' (upd1 (upd1 obj id none) id' (some o)) w' ∧ Step g w g' w' ∧ Later g w g' w' := by
  obtain ⟨husd, hlv⟩ := h.live id L hL
  obtain ⟨hblt, hnro⟩ := hlv hvirt
  let L' : Loc := ⟨B, L.m, cap, false⟩
  let g' : G := ⟨g.ro, fun x => if x = id' then some L' else if x = id then none else g.loc x, fun x => g.used x ∨ x = id'⟩
  have hloc : ∀ x M, g'.loc x = some M → (x = id' ∧ M = L') ∨ (x ≠ id' ∧ x ≠ id ∧ g.loc x = some M) := by
    intro x M hx
    simp only [g'] at hx
    split at hx
    · rename_i e; exact .inl ⟨e, by simpa using hx.symm⟩
    · rename_i e
      split at hx
      · cases hx
      · rename_i e2; exact .inr ⟨e, e2, hx⟩
  have hlater : Later g w g' w' := by
    refine ⟨fun b hb => ⟨hb, hold b (h.ro b hb) (fun e => hnro (e ▸ hb))⟩, fun x hx => .inl hx, fun x hx => ?_⟩
    simp only [g']
    by_cases e : x = id'
    · rcases hid with rfl | hid
      · subst e
        have hLL : L' = L := by
          obtain ⟨k1, k2⟩ := hkeep rfl
          cases L; simp_all [L']
        simp [hL, hLL]
      · exact absurd hx (e ▸ hid)
    · rw [if_neg e]
      by_cases e2 : x = id
      · rw [if_pos e2]; exact .inr rfl
      · rw [if_neg e2]; exact .inl rfl
  have hne : ∀ x M, x ≠ id → g.loc x = some M → M.virt = false → M.blk ≠ L.blk := fun x M hx hM hv e => hx (h.inj x id M L hM hL hv hvirt e)
  have hneB : ∀ x M, x ≠ id → g.loc x = some M → M.virt = false → M.blk ≠ B := fun x M hx hM hv e => by
    rcases hB with rfl | hB
    · exact hne x M hx hM hv e
    · have := ((h.live x M hM).2 hv).1; omega
  refine ⟨g', by simp [g', L'], rfl, rfl, ?_, ?_, hlater⟩
  · refine ⟨?_, ?_, ?_, ?_, ?_⟩
    · intro x o' hx
      simp only [upd1] at hx
      split at hx
      · rename_i e
        cases hx
        subst e
        refine ⟨L', by simp [g'], ⟨hm.symm, hpos, hlen, by simp [L'], fun _ => ⟨cur, hnew, hcs, hcap, fun i row hi => ⟨(hrep i row hi).1, fun j av hj => ?_⟩⟩⟩⟩
        obtain ⟨v, hv, ho, hr⟩ := (hrep i row hi).2 j av hj
        exact ⟨v, hv, ho, RepA.later hlater av v hr⟩
      · rename_i e
        split at hx
        · cases hx
        · rename_i e2
          obtain ⟨M, hM, hok⟩ := h.own x o' hx
          exact ⟨M, by simp [g', e, e2, hM], hok.later hlater fun hv => hold _ ((h.live x M hM).2 hv).1 (hne x M e2 hM hv)⟩
    · intro x hx
      simp only [upd1] at hx
      split at hx
      · cases hx
      · rename_i e
        split at hx
        · rename_i e2; show (if x = id' then some L' else if x = id then none else g.loc x) = none; rw [if_neg e, if_pos e2]
        · rename_i e2; simp [g', e, e2, h.gone x hx]
    · intro x M hx
      rcases hloc x M hx with ⟨rfl, rfl⟩ | ⟨e, e2, hM⟩
      · refine ⟨.inr rfl, fun _ => ?_⟩
        show B < w'.heap.size ∧ ¬ g.ro B
        rcases hB with rfl | hB
        · exact ⟨by omega, hnro⟩
        · exact ⟨hB.2, fun hr => by have := h.ro B hr; omega⟩
      · obtain ⟨h1', h2'⟩ := h.live x M hM
        exact ⟨.inl h1', fun hv => ⟨by have := (h2' hv).1; omega, (h2' hv).2⟩⟩
    · intro x y M M' hx hy hv hv' hb
      rcases hloc x M hx with ⟨rfl, rfl⟩ | ⟨e, e2, hM⟩ <;> rcases hloc y M' hy with ⟨rfl, rfl⟩ | ⟨e', e2', hM'⟩
      · rfl
      · exact absurd hb.symm (hneB y M' e2' hM' hv')
      · exact absurd hb (hneB x M e2 hM hv)
      · exact h.inj x y M M' hM hM' hv hv' hb
    · intro b hb; have := h.ro b hb; omega
  · refine ⟨hos, htape, hout, hsize, fun b hb hn => hold b hb (fun e => hn ⟨id, L, hL, hvirt, e.symm⟩), ?_, fun b hb => hb, fun b hb => .inl hb⟩
    rintro b ⟨x, M, hx, hv, rfl⟩
    rcases hloc x M hx with ⟨rfl, rfl⟩ | ⟨e, e2, hM⟩
    · show w.heap.size ≤ B ∨ g.owns B
      rcases hB with rfl | hB
      · exact .inr ⟨id, L, hL, hvirt, rfl⟩
      · exact .inl hB.1
    · exact .inr ⟨x, M, hM, hv, rfl⟩

/-- An object forgotten. -/
theorem HRel.drop {g : G} {obj : Nat → Option Ob} {w : World} (h : HRel g obj w) (id : Nat) :
    ∃ g', g'.used = g.used ∧ g'.ro = g.ro ∧ g'.loc = (fun x => if x = id then none else g.loc x) ∧ HRel g' (upd1 obj id none) w ∧ Step g w g' w ∧ Later g w g' w := by
  let g' : G := ⟨g.ro, fun x => if x = id then none else g.loc x, g.used⟩
  have hloc : ∀ x M, g'.loc x = some M → x ≠ id ∧ g.loc x = some M := by
    intro x M hx
    simp only [g'] at hx
    split at hx
    · cases hx
    · rename_i e; exact ⟨e, hx⟩
  have hlater : Later g w g' w := ⟨fun b hb => ⟨hb, rfl⟩, fun _ hx => hx, fun x _ => by simp only [g']; split <;> simp⟩
  refine ⟨g', rfl, rfl, rfl, ⟨?_, ?_, fun x L hx => h.live x L (hloc x L hx).2, fun x y L L' hx hy => h.inj x y L L' (hloc x L hx).2 (hloc y L' hy).2, h.ro⟩, ?_, hlater⟩
  · intro x o hx
    simp only [upd1] at hx
    split at hx
    · cases hx
    · rename_i e
      obtain ⟨L, hL, hok⟩ := h.own x o hx
      exact ⟨L, by simp [g', e, hL], hok.later hlater fun _ => rfl⟩
  · intro x hx
    simp only [upd1] at hx
    split at hx
    · rename_i e; simp [g', e]
    · rename_i e; simp [g', e, h.gone x hx]
  · exact ⟨rfl, ⟨rfl, Nat.le_refl _⟩, rfl, Nat.le_refl _, fun _ _ _ => rfl, fun b ⟨x, L, hx, hv, hb⟩ => .inr ⟨x, L, (hloc x L hx).2, hv, hb⟩, fun _ hb => hb, fun _ hb => .inl hb⟩

/-- A new object that lies nowhere: a nil slice. -/
theorem HRel.newVirt {g : G} {obj : Nat → Option Ob} {w : World} (h : HRel g obj w) {id : Nat} (hid : ¬ g.used id) (e : TypeId) (m : Nat) (hm : 0 < m) :
    ∃ g', g'.loc id = some ⟨0, m, 0, true⟩ ∧ g'.used = (fun x => g.used x ∨ x = id) ∧ g'.ro = g.ro ∧ HRel g' (upd1 obj id (some ⟨e, m, []⟩)) w ∧ Step g w g' w ∧ Later g w g' w := by
  let g' : G := ⟨g.ro, fun x => if x = id then some ⟨0, m, 0, true⟩ else g.loc x, fun x => g.used x ∨ x = id⟩
  have hloc : ∀ x L, g'.loc x = some L → (x = id ∧ L = ⟨0, m, 0, true⟩) ∨ (x ≠ id ∧ g.loc x = some L) := by
    intro x L hx
    simp only [g'] at hx
    split at hx
    · rename_i e; exact .inl ⟨e, by simpa using hx.symm⟩
    · rename_i e; exact .inr ⟨e, hx⟩
  have hlater : Later g w g' w := ⟨fun b hb => ⟨hb, rfl⟩, fun _ hx => .inl hx, fun x hx => .inl (by simp only [g']; rw [if_neg (fun e : x = id => hid (e ▸ hx))])⟩
  refine ⟨g', by simp [g'], rfl, rfl, ⟨?_, ?_, ?_, ?_, h.ro⟩, ?_, hlater⟩
  · intro x o hx
    simp only [upd1] at hx
    split at hx
    · rename_i e'
      cases hx
      exact ⟨⟨0, m, 0, true⟩, by simp [g', e'], ⟨rfl, hm, by simp, fun _ => rfl, by simp⟩⟩
    · rename_i e'
      obtain ⟨L, hL, hok⟩ := h.own x o hx
      exact ⟨L, by simp [g', e', hL], hok.later hlater fun _ => rfl⟩
  · intro x hx
    simp only [upd1] at hx
    split at hx
    · cases hx
    · rename_i e'; simp [g', e', h.gone x hx]
  · intro x L hx
    rcases hloc x L hx with ⟨rfl, rfl⟩ | ⟨_, hL⟩
    · exact ⟨.inr rfl, by simp⟩
    · exact ⟨.inl (h.live x L hL).1, (h.live x L hL).2⟩
  · intro x y L L' hx hy hv hv' hb
    rcases hloc x L hx with ⟨rfl, rfl⟩ | ⟨_, hL⟩
    · cases hv
    · rcases hloc y L' hy with ⟨rfl, rfl⟩ | ⟨_, hL'⟩
      · cases hv'
      · exact h.inj x y L L' hL hL' hv hv' hb
  · refine ⟨rfl, ⟨rfl, Nat.le_refl _⟩, rfl, Nat.le_refl _, fun _ _ _ => rfl, ?_, fun _ hb => hb, fun _ hb => .inl hb⟩
    rintro b ⟨x, L, hx, hv, rfl⟩
    rcases hloc x L hx with ⟨rfl, rfl⟩ | ⟨_, hL⟩
    · cases hv
    · exact .inr ⟨x, L, hL, hv, rfl⟩

/-- Nothing owned has turned: a draw, a call that only makes memory. -/
theorem HRel.idle {g : G} {obj : Nat → Option Ob} {w w' : World} (h : HRel g obj w) (hb : Below w.heap.size w w') : HRel g obj w' ∧ Step g w g w' ∧ Later g w g w' := by
  have hlater : Later g w g w' := ⟨fun b hr => ⟨hr, hb.block b (h.ro b hr)⟩, fun _ hx => hx, fun _ _ => .inl rfl⟩
  refine ⟨⟨fun id o ho => ?_, h.gone, fun id L hL => ⟨(h.live id L hL).1, fun hv => ⟨Nat.lt_of_lt_of_le ((h.live id L hL).2 hv).1 hb.size, ((h.live id L hL).2 hv).2⟩⟩, h.inj, fun b hr => Nat.lt_of_lt_of_le (h.ro b hr) hb.size⟩,
    ⟨hb.os, hb.tape, hb.output, hb.size, fun b hlt _ => hb.block b hlt, fun _ ho => .inr ho, fun _ hr => hr, fun _ hr => .inl hr⟩, hlater⟩
  obtain ⟨L, hL, hok⟩ := h.own id o ho
  exact ⟨L, hL, hok.later hlater fun hv => hb.block _ ((h.live id L hL).2 hv).1⟩

/-- What may be read grows by new blocks. -/
theorem HRel.wide {g : G} {obj : Nat → Option Ob} {w w' : World} (h : HRel g obj w) (hb : Below w.heap.size w w') (new : Nat → Prop) (hnew : ∀ b, new b → w.heap.size ≤ b ∧ b < w'.heap.size) :
    HRel ⟨fun b => g.ro b ∨ new b, g.loc, g.used⟩ obj w' ∧ Step g w ⟨fun b => g.ro b ∨ new b, g.loc, g.used⟩ w' ∧ Later g w ⟨fun b => g.ro b ∨ new b, g.loc, g.used⟩ w' := by
  have hlater : Later g w ⟨fun b => g.ro b ∨ new b, g.loc, g.used⟩ w' := ⟨fun b hr => ⟨.inl hr, hb.block b (h.ro b hr)⟩, fun _ hx => hx, fun _ _ => .inl rfl⟩
  refine ⟨⟨fun id o ho => ?_, h.gone, fun id L hL => ⟨(h.live id L hL).1, fun hv => ?_⟩, h.inj, fun b hr => ?_⟩,
    ⟨hb.os, hb.tape, hb.output, hb.size, fun b hlt _ => hb.block b hlt, fun _ ho => .inr ho, fun _ hr => .inl hr, fun b hr => hr.elim .inl fun hn => .inr (.inl (hnew b hn).1)⟩, hlater⟩
  · obtain ⟨L, hL, hok⟩ := h.own id o ho
    exact ⟨L, hL, hok.later hlater fun hv => hb.block _ ((h.live id L hL).2 hv).1⟩
  · have h1 := ((h.live id L hL).2 hv)
    exact ⟨Nat.lt_of_lt_of_le h1.1 hb.size, fun hr => hr.elim h1.2 fun hn => by have := (hnew _ hn).1; omega⟩
  · rcases hr with hr | hr
    · exact Nat.lt_of_lt_of_le (h.ro b hr) hb.size
    · exact (hnew b hr).2

end Go.Abs
