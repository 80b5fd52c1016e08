/-
  The abstract machine, part 3: new objects (variables, literals, make, append).
-/
import Derived.Test.YtmfkfgonedgjnaaAbs2
import Derived.Laws.OwnMore
set_option linter.unusedVariables false
set_option linter.unusedSimpArgs false
namespace Go.Abs

def updL (obj : Nat → Option Ob) : List (Nat × Option Ob) → Nat → Option Ob
  | [] => obj
  | (i, o) :: r => updL (upd1 obj i o) r

structure Eff where
  val : AV
  wr : List (Nat × Option Ob) := []
  ob : Prop := True

/-- What an operation leaves: its value, the objects that it has turned. -/
def After (g : G) (obj : Nat → Option Ob) (w : World) (nid : Nat) (e : Eff) (v : Value) (w' : World) : Prop :=
  ∃ g', HRel g' (updL obj e.wr) w' ∧ Step g w g' w' ∧ Later g w g' w' ∧ (∀ k, g'.used k → g.used k ∨ k = nid) ∧ RepA g' w' e.val v

theorem After.same {g : G} {obj : Nat → Option Ob} {w : World} {nid : Nat} {v : Value} {x : AV} {p : Prop} (h : HRel g obj w) (hr : RepA g w x v) : After g obj w nid { val := x, ob := p } v w :=
  ⟨g, h, Step.refl g w, ⟨fun b hb => ⟨hb, rfl⟩, fun _ hk => hk, fun _ _ => .inl rfl⟩, fun _ hk => .inl hk, hr⟩

/-- A new block of cells with a new object in it. -/
theorem new_sound {g : G} {obj : Nat → Option Ob} {w : World} (h : HRel g obj w) {nid : Nat} (hid : ¬ g.used nid) (o : Ob) (cur : Array Value) (cap : Nat)
    (hm : 0 < o.m) (hcs : cur.size = cap * o.m) (hlen : o.rows.length ≤ cap) (hcap : cap ≤ maxLen)
    (hrep : ∀ i row, o.rows[i]? = some row → row.length = o.m ∧ ∀ (j : Nat) (av : AV), row[j]? = some av → ∃ v : Value, cur[i * o.m + j]? = some v ∧ v.oneCell' = true ∧ RepA g w av v) (w1 : World)
    (hw1 : w1 = w ∨ w1 = w.drew) :
    ∃ g', g'.loc nid = some ⟨w.heap.size, o.m, cap, false⟩ ∧ g'.used nid ∧ HRel g' (upd1 obj nid (some o)) (w1.alloc (.cells cur o.elem)) ∧ Step g w g' (w1.alloc (.cells cur o.elem)) ∧ Later g w g' (w1.alloc (.cells cur o.elem)) ∧ (∀ k, g'.used k → g.used k ∨ k = nid) := by
  have hheap : (w1.alloc (.cells cur o.elem)).heap = w.heap.push (.cells cur o.elem) := by rcases hw1 with rfl | rfl <;> rfl
  obtain ⟨g', h1, h2, h3, h4, h5, h6⟩ := HRel.new (w' := w1.alloc (.cells cur o.elem)) (B := w.heap.size) (cap := cap) h hid o cur (by rcases hw1 with rfl | rfl <;> rfl) (by rcases hw1 with rfl | rfl <;> first | exact ⟨rfl, Nat.le_refl _⟩ | exact ⟨rfl, Nat.le_succ _⟩) (by rcases hw1 with rfl | rfl <;> rfl) (Nat.le_refl _)
    (by rw [hheap]; simp) (fun b hb => by rw [hheap, Array.getElem?_push, if_neg (by omega)]) (by rw [hheap]; simp) hm hcs hlen hcap hrep
  exact ⟨g', h1, by rw [h2]; exact .inr rfl, h4, h5, h6, fun k hk => by rw [h2] at hk; exact hk⟩

theorem rep_ptr {g : G} {w : World} {id : Nat} {L : Loc} (hu : g.used id) (hL : g.loc id = some L) (hv : L.virt = false) : RepA g w (.ptr id 0 0) (.pointer (some ⟨L.blk, 0, none⟩)) := by
  simp only [RepA]
  refine ⟨⟨hu, rfl⟩, fun M hM => ?_⟩
  rw [hL] at hM; cases hM
  exact ⟨hv, by simp⟩

theorem rep_hs {g : G} {w : World} {id len : Nat} {L : Loc} (hu : g.used id) (hL : g.loc id = some L) (hv : L.virt = false) (hle : len ≤ L.cap) : RepA g w (.hs id 0 len) (.slice (some ⟨L.blk, 0, none⟩) len L.cap) := by
  simp only [RepA]
  refine ⟨⟨hu, rfl⟩, fun M hM => ?_⟩
  rw [hL] at hM; cases hM
  exact .inr ⟨hv, by omega, by simp⟩

/-- One row in a box. -/
theorem box_sound {g : G} {obj : Nat → Option Ob} {w : World} (h : HRel g obj w) {nid : Nat} (hid : ¬ g.used nid) (t : TypeId) (l : List AV) (cs : Array Value) (hr : RepAs g w l cs.toList) (ho : OneCells cs.toList) (hpos : 0 < l.length) :
    After g obj w nid { val := .ptr nid 0 0, wr := [(nid, some ⟨t, l.length, [l]⟩)] } (.pointer (some ⟨w.heap.size, 0, none⟩)) (w.alloc (.cells cs t)) := by
  have hl := hr.length
  obtain ⟨g', h1, h2, h3, h4, h5, h6⟩ := new_sound h hid ⟨t, l.length, [l]⟩ cs 1 hpos (by simp only [Array.length_toList] at hl; simp only [Nat.one_mul]; exact hl) (by simp) (by simp [maxLen]) (fun i row hi => by
    cases i with
    | succ i => simp at hi
    | zero =>
      simp at hi; subst hi
      refine ⟨rfl, fun j av hj => ?_⟩
      obtain ⟨v, hv, hr'⟩ := hr.get j av hj
      exact ⟨v, by simpa using hv, ho v (List.mem_of_getElem? hv), hr'⟩) w (.inl rfl)
  exact ⟨g', h3, h4, h5, h6, rep_ptr h2 h1 rfl⟩

theorem TOk.zero {P : Program} {t : TypeId} {ti : TI} (h : TOk P t ti) (g : G) (w : World) : ∃ z, (zeroValue t).run P w = .ok z w ∧ RepAs g w ti.zero z.cells.toList ∧ OneCells z.cells.toList ∧ ti.zero.length = ti.size ∧ z.cells.size = ti.size := by
  obtain ⟨i, z, hi, hs, hb, hz, hc, hsz, ho⟩ := h.info
  refine ⟨z, by simp [zeroValue, typeInfo, hi, hz], ?_, fun v hv => List.all_eq_true.1 ho v hv, by rw [← hc]; simpa using hsz, hsz⟩
  rw [← hc]
  refine RepAs.of_get (by simp) fun j d hj => ?_
  rw [List.getElem?_map] at hj
  cases hv : z.cells.toList[j]? with
  | none => rw [hv] at hj; cases hj
  | some v => rw [hv] at hj; cases hj; exact ⟨v, rfl, zav_rep g w v⟩

theorem alloc_sound {P : Program} {t : TypeId} {ti : TI} (ht : TOk P t ti) (hpos : 0 < ti.size) {g : G} {obj : Nat → Option Ob} {w : World} (h : HRel g obj w) {nid : Nat} (hid : ¬ g.used nid) :
    ∃ v w', (Instr.alloc t true (.tuple #[])).run P w = .ok v w' ∧ After g obj w nid { val := .ptr nid 0 0, wr := [(nid, some ⟨t, ti.zero.length, [ti.zero]⟩)] } v w' := by
  obtain ⟨z, hz, hr, ho, hl, hs⟩ := ht.zero g w
  refine ⟨.pointer (some ⟨w.heap.size, 0, none⟩), w.alloc (.cells z.cells t), ?_, box_sound h hid t ti.zero z.cells hr ho (by omega)⟩
  simp [Instr.alloc, hz, newVar, newRow]

/-! ### Literals -/
theorem foldSet_get (off : Nat) : ∀ (vs : List Value) (s : Nat) (cs : Array Value) (p : Nat), off + s + vs.length ≤ cs.size →
    ((vs.zipIdx s).foldl (fun cs (x : Value × Nat) => cs.setIfInBounds (off + x.2) x.1) cs)[p]? = if off + s ≤ p ∧ p < off + s + vs.length then vs[p - (off + s)]? else cs[p]?
  | [], s, cs, p, _ => by simp only [List.zipIdx_nil, List.foldl_nil, List.length_nil]; rw [if_neg (by omega)]
  | v :: vs, s, cs, p, h => by
    simp only [List.length_cons] at h ⊢
    rw [List.zipIdx_cons, List.foldl_cons, foldSet_get off vs (s + 1) _ p (by simp; omega)]
    simp only [Array.getElem?_setIfInBounds]
    by_cases e : off + s = p
    · subst e
      rw [if_neg (by omega), if_pos rfl, if_pos (by omega), if_pos (by omega)]
      simp
    · by_cases e2 : off + (s + 1) ≤ p ∧ p < off + (s + 1) + vs.length
      · rw [if_pos e2, if_pos (by omega), show p - (off + s) = (p - (off + (s + 1))) + 1 by omega, List.getElem?_cons_succ]
      · rw [if_neg e2, if_neg e, if_neg (by omega)]

theorem foldSet_size (off : Nat) : ∀ (l : List (Value × Nat)) (cs : Array Value), (l.foldl (fun cs (x : Value × Nat) => cs.setIfInBounds (off + x.2) x.1) cs).size = cs.size
  | [], _ => rfl
  | x :: l, cs => by rw [List.foldl_cons, foldSet_size off l]; simp

def fillA (place : Nat → Option (Nat × Nat)) : List AV → List (Nat × AV) → Option (List AV)
  | l, [] => some l
  | l, (i, x) :: rest =>
    match place i, cellsA x with
    | some (off, size), some c => if c.length = size ∧ off + size ≤ l.length then fillA place (putCells l off c) rest else none
    | _, _ => none

theorem fill_sound {g : G} {w : World} {place : Nat → Option (Nat × Nat)} : ∀ (parts : List (Nat × AV)) (vals : List (Nat × Value)) (l l' : List AV) (cs : Array Value),
    vals.map (·.1) = parts.map (·.1) → RepAs g w (parts.map (·.2)) (vals.map (·.2)) → RepAs g w l cs.toList → OneCells cs.toList → fillA place l parts = some l' →
    ∃ cs', Instr.fill place cs vals = some cs' ∧ RepAs g w l' cs'.toList ∧ OneCells cs'.toList ∧ cs'.size = cs.size
  | [], [], l, l', cs, _, _, hr, ho, h => by simp [fillA] at h; subst h; exact ⟨cs, rfl, hr, ho, rfl⟩
  | [], _ :: _, _, _, _, h, _, _, _, _ => by simp at h
  | _ :: _, [], _, _, _, h, _, _, _, _ => by simp at h
  | (i, x) :: parts, (i', v) :: vals, l, l', cs, hk, hv, hr, ho, h => by
    simp only [List.map_cons, List.cons.injEq] at hk
    obtain ⟨hi, hk⟩ := hk
    subst hi
    simp only [List.map_cons, RepAs] at hv
    obtain ⟨_, _, heq, hx, hv⟩ := hv
    simp only [List.cons.injEq] at heq
    obtain ⟨rfl, rfl⟩ := heq
    simp only [fillA] at h
    cases hp : place i' with
    | none => simp [hp] at h
    | some os =>
      obtain ⟨off, size⟩ := os
      cases hc : cellsA x with
      | none => simp [hp, hc] at h
      | some c =>
        simp only [hp, hc] at h
        split at h
        · rename_i hsz
          obtain ⟨hrep, hone⟩ := cellsA_rep hx hc
          have hlc := hrep.length
          have hll := hr.length
          have hvs : v.cells.size = size := by have := hlc; simp only [Array.length_toList] at this; omega
          have hsize : off + v.cells.size ≤ cs.size := by simp only [Array.length_toList] at hll; omega
          have hfold : v.cells.zipIdx.foldl (fun cs (x : Value × Nat) => cs.setIfInBounds (off + x.2) x.1) cs = (v.cells.toList.zipIdx 0).foldl (fun cs (x : Value × Nat) => cs.setIfInBounds (off + x.2) x.1) cs := by
            rw [← Array.foldl_toList, Array.toList_zipIdx]
          have hget := fun p => foldSet_get off v.cells.toList 0 cs p (by simp only [Nat.add_zero, Array.length_toList]; exact hsize)
          obtain ⟨cs', h1, h2, h3, h4⟩ := fill_sound parts vals (putCells l off c) l' ((v.cells.toList.zipIdx 0).foldl (fun cs (x : Value × Nat) => cs.setIfInBounds (off + x.2) x.1) cs) hk hv (by
            refine RepAs.of_get (by rw [Array.length_toList, foldSet_size, putCells_length]; simpa using hll) fun k d hkd => ?_
            rw [putCells_get _ _ _ _ (by omega)] at hkd
            rw [Array.getElem?_toList, hget]
            simp only [Nat.add_zero]
            by_cases e : off ≤ k ∧ k < off + c.length
            · rw [if_pos e] at hkd
              rw [if_pos (by rw [hlc]; exact e)]
              exact hrep.get _ _ hkd
            · rw [if_neg e] at hkd
              rw [if_neg (by rw [hlc]; exact e)]
              have := hr.get _ _ hkd
              simpa using this) (fun u hu => by
            obtain ⟨k, hk'⟩ := List.mem_iff_getElem?.1 hu
            rw [Array.getElem?_toList, hget] at hk'
            split at hk'
            · exact hone u (List.mem_of_getElem? hk')
            · exact ho u (List.mem_of_getElem? (by simpa using hk'))) h
          refine ⟨cs', ?_, h2, h3, by rw [h4, foldSet_size]⟩
          have hno : (decide (v.cells.size ≠ size) || decide (off + v.cells.size > cs.size)) = false := by simp; omega
          simp only [Instr.fill, hp, hno, Bool.false_eq_true, if_false]
          rw [hfold]
          exact h1
        · cases h

def chunk : Nat → Nat → List AV → List (List AV)
  | 0, _, _ => []
  | n + 1, m, l => l.take m :: chunk n m (l.drop m)

theorem chunk_length : ∀ (n m : Nat) (l : List AV), (chunk n m l).length = n
  | 0, _, _ => rfl
  | n + 1, m, l => by simp [chunk, chunk_length]

theorem chunk_get : ∀ (n m : Nat) (l : List AV) (i : Nat) (row : List AV), l.length = n * m → (chunk n m l)[i]? = some row → row.length = m ∧ ∀ j, j < m → row[j]? = l[i * m + j]?
  | 0, _, _, i, row, _, h => by simp [chunk] at h
  | n + 1, m, l, i, row, hl, h => by
    rw [Nat.succ_mul] at hl
    cases i with
    | zero =>
      simp [chunk] at h; subst h
      refine ⟨by simp; omega, fun j hj => ?_⟩
      rw [List.getElem?_take, if_pos hj]; simp
    | succ i =>
      simp only [chunk, List.getElem?_cons_succ] at h
      obtain ⟨h1, h2⟩ := chunk_get n m (l.drop m) i row (by simp; omega) h
      refine ⟨h1, fun j hj => ?_⟩
      rw [h2 j hj, List.getElem?_drop]
      congr 1
      rw [Nat.succ_mul]; omega

def rep : Nat → List AV → List AV
  | 0, _ => []
  | n + 1, l => l ++ rep n l

theorem rep_length : ∀ (n : Nat) (l : List AV), (rep n l).length = n * l.length
  | 0, l => by simp [rep]
  | n + 1, l => by simp only [rep, List.length_append, rep_length n l, Nat.succ_mul]; omega

theorem rep_get : ∀ (n : Nat) (l : List AV) (p : Nat), p < n * l.length → (rep n l)[p]? = l[p % l.length]?
  | 0, l, p, h => by simp at h
  | n + 1, l, p, h => by
    rw [Nat.succ_mul] at h
    simp only [rep, List.getElem?_append]
    by_cases e : p < l.length
    · rw [if_pos e, Nat.mod_eq_of_lt e]
    · rw [if_neg e, rep_get n l _ (by omega)]
      rw [← Nat.mod_eq_sub_mod (by omega)]

theorem made_rep {g : G} {w : World} {l : List AV} {z : Array Value} (hr : RepAs g w l z.toList) (ho : OneCells z.toList) (n : Nat) (hpos : 0 < l.length) :
    RepAs g w (rep n l) (madeCells z (n * l.length)).toList ∧ OneCells (madeCells z (n * l.length)).toList := by
  have hl : z.size = l.length := by have := hr.length; simpa using this
  have hget : ∀ p, p < n * l.length → (madeCells z (n * l.length))[p]? = z[p % z.size]? := fun p hp => by
    have hlt : p % z.size < z.size := Nat.mod_lt _ (by omega)
    simp [madeCells, Array.getElem?_map, Array.getElem?_range, hp, hlt, getElem!_pos]
  constructor
  · refine RepAs.of_get (by simp [size_madeCells, rep_length]) fun j d hj => ?_
    have hlt : j < n * l.length := by rw [← rep_length]; exact (List.getElem?_eq_some_iff.1 hj).1
    rw [rep_get n l j hlt] at hj
    rw [Array.getElem?_toList, hget j hlt, hl]
    have := hr.get _ _ hj
    simpa using this
  · intro v hv
    obtain ⟨j, hj⟩ := List.mem_iff_getElem?.1 hv
    have hlt : j < n * l.length := by have := (List.getElem?_eq_some_iff.1 hj).1; simpa [size_madeCells] using this
    rw [Array.getElem?_toList, hget j hlt] at hj
    exact ho v (List.mem_of_getElem? (by simpa using hj))

/-- Rows out of flat cells. -/
theorem rows_of_flat {g : G} {w : World} {l : List AV} {cs : Array Value} (hr : RepAs g w l cs.toList) (ho : OneCells cs.toList) (n m : Nat) (hl : l.length = n * m) :
    ∀ i row, (chunk n m l)[i]? = some row → row.length = m ∧ ∀ (j : Nat) (av : AV), row[j]? = some av → ∃ v : Value, cs[i * m + j]? = some v ∧ v.oneCell' = true ∧ RepA g w av v := by
  intro i row hi
  obtain ⟨h1, h2⟩ := chunk_get n m l i row hl hi
  refine ⟨h1, fun j av hj => ?_⟩
  have hjm : j < m := by rw [← h1]; exact (List.getElem?_eq_some_iff.1 hj).1
  rw [h2 j hjm] at hj
  obtain ⟨v, hv, hrep⟩ := hr.get _ _ hj
  exact ⟨v, by simpa using hv, ho v (List.mem_of_getElem? hv), hrep⟩

theorem buildSlice_sound {P : Program} {t e : TypeId} {ti te : TI} (ht : TOk P t ti) (hk : ti.kind = .slice e) (he : TOk P e te) (hpos : 0 < te.size) {g : G} {obj : Nat → Option Ob} {w : World} (h : HRel g obj w) {nid : Nat} (hid : ¬ g.used nid)
    {len : Nat} {parts : List (Nat × AV)} {vals : List (Nat × Value)} {l' : List AV} (hkeys : vals.map (·.1) = parts.map (·.1)) (hvals : RepAs g w (parts.map (·.2)) (vals.map (·.2))) (hsmall : len * te.size ≤ 2 ^ 24)
    (hfill : fillA (fun i => some (i * te.size, te.size)) (rep len te.zero) parts = some l') :
    ∃ v w', (Instr.buildSlice t len vals.toArray).run P w = .ok v w' ∧ After g obj w nid { val := .hs nid 0 len, wr := [(nid, some ⟨e, te.size, chunk len te.size l'⟩)] } v w' := by
  obtain ⟨z, hz, hr, ho, hl, hs⟩ := he.zero g w
  have hu : P.underlying t = some (.slice e) := by have := ht.kind; rw [hk] at this; exact this
  obtain ⟨hmr, hmo⟩ := made_rep hr ho len (by omega)
  obtain ⟨cs', hf, hr', ho', hsz'⟩ := fill_sound parts vals (rep len te.zero) l' (madeCells z.cells (len * te.zero.length)) hkeys hvals hmr hmo hfill
  have hl' : l'.length = len * te.size := by
    have := hr'.length
    simp only [Array.length_toList, hsz', size_madeCells, hl] at this
    exact this.symm
  have hcs : cs'.size = len * te.size := by rw [hsz', size_madeCells, hl]
  obtain ⟨g', h1, h2, h3, h4, h5, h6⟩ := new_sound h hid ⟨e, te.size, chunk len te.size l'⟩ cs' len hpos hcs (by simp [chunk_length]) (by
    have : len ≤ len * te.size := Nat.le_mul_of_pos_right _ hpos
    simp only [maxLen]; omega) (rows_of_flat hr' ho' len te.size hl') w (.inl rfl)
  refine ⟨.slice (some ⟨w.heap.size, 0, none⟩) len len, w.alloc (.cells cs' e), ?_, g', h3, h4, h5, h6, ?_⟩
  · simp only [Instr.buildSlice, Sem.run_bind, run_underlying hu, Result.andThen_ok, he.sizeOf]
    rw [if_neg (by omega)]
    by_cases e0 : len * te.size = 0
    · have hmade : (Array.range (len * te.size)).map ((#[] : Array Value)[· % (#[] : Array Value).size]!) = madeCells z.cells (len * te.zero.length) := by
        rw [hl, e0]; simp [madeCells]
      rw [if_pos e0]
      simp only [pure_bind, hmade, hf, Sem.run_bind, newRow, run_newObj, Sem.run_pure, Result.andThen_ok]
      rfl
    · have hmade : (Array.range (len * te.size)).map (z.cells[· % z.cells.size]!) = madeCells z.cells (len * te.zero.length) := by
        rw [hl]; rfl
      rw [if_neg e0]
      simp only [pure_bind, hmade, hf, Sem.run_bind, newRow, run_newObj, Sem.run_pure, Result.andThen_ok, hz]
      rfl
  · exact rep_hs h2 h1 rfl (Nat.le_refl _)

end Go.Abs
