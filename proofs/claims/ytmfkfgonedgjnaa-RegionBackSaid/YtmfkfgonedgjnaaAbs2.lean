/-
  The abstract machine, part 2: types' facts, and what single operations do to owned objects (load, store, new objects, append), each proved sound against the model.
-/
import Derived.Test.YtmfkfgonedgjnaaAbs1
import Derived.Maps.AppendAt
set_option linter.unusedVariables false
set_option linter.unusedSimpArgs false
namespace Go.Abs

inductive TK where
  | slice (e : TypeId)
  | struct (fs : List (Nat × Nat × Bool))
  | arr (n : Nat) (e : TypeId)
  | int (k : IntKind)
  | bool
  | str
  | one

structure TI where
  kind : TK
  size : Nat
  bytes : Nat
  zero : List AV
  eqs : Nat := 0

def TI.isAgg (ti : TI) : Bool := match ti.kind with | .struct _ | .arr _ _ => true | _ => false

/-- The abstract value of a constant. -/
def zav : Value → AV
  | .bool b => .d (.bool b)
  | .int k n => .d (.int k n)
  | .string s => .d (.str s)
  | .slice none 0 0 => .nl
  | _ => .any

theorem zav_rep (g : G) (w : World) (v : Value) : RepA g w (zav v) v := by
  unfold zav
  split <;> simp [RepA, RepD]

def descAgg : TypeDesc → Bool | .struct _ | .array _ _ => true | _ => false

/-- A field that '==' compares as a number (1) or as a bool (2). -/
def eqKind (P : Program) (t : TypeId) (q : Nat) : Bool := match P.underlying t with | some (.int _) => q == 1 | some .bool => q == 2 | _ => false

structure TOk (P : Program) (t : TypeId) (ti : TI) : Prop where
  info : ∃ i z, P.info? t = some i ∧ i.size = ti.size ∧ i.bytes = ti.bytes ∧ i.zero = some z ∧ z.cells.toList.map zav = ti.zero ∧ z.cells.size = ti.size ∧ z.cells.toList.all Value.oneCell' = true
  kind : match ti.kind with
    | .slice e => P.underlying t = some (.slice e)
    | .struct l => ∃ fs, P.underlying t = some (.struct fs) ∧ fs.toList.map (fun f => (f.offset, P.cellsOf f.type, (P.underlying f.type).any descAgg)) = l ∧ fs.toList.all (fun f => (P.underlying f.type).isSome && decide (P.cellsOf f.type ≠ 0)) = true
    | .arr n e => P.underlying t = some (.array n e)
    | .int k => P.underlying t = some (.int k)
    | .bool => P.underlying t = some .bool
    | .str => P.underlying t = some .string
    | .one => (P.underlying t).any (fun d => !descAgg d) = true
  eqs : ti.eqs ≠ 0 → P.stoodInHeld t = false ∧ P.eqGuardType P.depth t = false ∧ ∃ fs, P.underlying t = some (.struct fs) ∧ fs.toList.zipIdx.all (fun x => decide (x.1.offset = x.2) && decide (x.1.name ≠ "_") && eqKind P x.1.type ti.eqs) = true ∧ fs.toList.length = ti.size

def Does (P : Program) (o : Oper) (a : Act) (w : World) (R : Value → World → Prop) : Prop :=
  ∀ (K : Act → World → Prop) (Q : Exit → Act → World → Prop), (∀ v w', R v w' → K (a.put o.dst v) w') → o.wp P a w K Q

theorem does_value {P : Program} {o : Oper} {a : Act} {w w' : World} {v : Value} {R : Value → World → Prop} (h : (execOp a.eval o).run P w = .ok (.value v) w') (hr : R v w') : Does P o a w R := by
  intro K Q hK
  unfold Oper.wp
  rw [h, Oper.upon_value]
  exact hK v w' hr

theorem does_skip {P : Program} {o : Oper} {a : Act} {w w' : World} {R : Value → World → Prop} (h : (execOp a.eval o).run P w = .ok .skip w') (hr : R undef w') : Does P o a w R := by
  intro K Q hK
  unfold Oper.wp
  rw [h, Oper.upon_skip]
  exact hK undef w' hr

theorem does_calls {P : Program} {o : Oper} {a : Act} {w w' : World} {f : FuncId} {args : Array Value} {R : Value → World → Prop} (h : (execOp a.eval o).run P w = .ok (.enter f args) w')
    (hc : Calls P f args w' fun e w'' => ∃ v, e = .returned v ∧ R v w'') : Does P o a w R := by
  intro K Q hK
  unfold Oper.wp
  rw [h, Oper.upon_enter]
  refine hc.mono fun e w'' ⟨v, he, hr⟩ => ?_
  subst he
  exact hK v w'' hr

theorem TOk.agg {P : Program} {t : TypeId} {ti : TI} (h : TOk P t ti) (w : World) : (isAgg t).run P w = .ok ti.isAgg w := by
  have hk := h.kind
  unfold isAgg TI.isAgg
  cases hti : ti.kind <;> rw [hti] at hk <;> simp only at hk
  case slice e => simp [run_underlying hk]
  case struct l => obtain ⟨fs, hu, _⟩ := hk; simp [run_underlying hu]
  case arr n e => simp [run_underlying hk]
  case int k => simp [run_underlying hk]
  case bool => simp [run_underlying hk]
  case str => simp [run_underlying hk]
  case one =>
    cases hu : P.underlying t with
    | none => rw [hu] at hk; simp at hk
    | some d =>
      rw [hu] at hk
      simp at hk
      rw [Sem.run_bind, run_underlying hu]
      cases d <;> simp [descAgg] at hk ⊢

theorem TOk.sizeOf {P : Program} {t : TypeId} {ti : TI} (h : TOk P t ti) (w : World) : (Go.sizeOf t).run P w = .ok ti.size w := by
  obtain ⟨i, z, hi, hs, _⟩ := h.info
  simp [Go.sizeOf, typeInfo, hi, hs]

/-- One value out of a row's cells. -/
def takeRow (ti : TI) (row : List AV) : Option AV :=
  if ti.isAgg then (if ti.size ≤ row.length then some (mkAgg (row.take ti.size)) else none) else row.head?

theorem RepAs.take {g : G} {w : World} {l : List AV} {vs : List Value} (h : RepAs g w l vs) (k : Nat) : RepAs g w (l.take k) (vs.take k) :=
  RepAs.of_get (by simp [h.length]) fun j d hj => by
    rw [List.getElem?_take] at hj ⊢
    split at hj
    · rename_i e; rw [if_pos e]; exact h.get j d hj
    · cases hj

theorem RepAs.drop {g : G} {w : World} {l : List AV} {vs : List Value} (h : RepAs g w l vs) (k : Nat) : RepAs g w (l.drop k) (vs.drop k) :=
  RepAs.of_get (by simp [h.length]) fun j d hj => by
    rw [List.getElem?_drop] at hj ⊢
    exact h.get _ d hj

theorem RepAs.append {g : G} {w : World} {l l' : List AV} {vs vs' : List Value} (h : RepAs g w l vs) (h' : RepAs g w l' vs') : RepAs g w (l ++ l') (vs ++ vs') :=
  RepAs.of_get (by simp [h.length, h'.length]) fun j d hj => by
    rw [List.getElem?_append] at hj ⊢
    rw [h.length]
    split at hj
    · rename_i e; rw [if_pos e]; exact h.get _ d hj
    · rename_i e; rw [if_neg e]; exact h'.get _ d hj

theorem CellsAt.one {w : World} {b o : Nat} {vs : List Value} (h : CellsAt w b o vs) : OneCells vs := fun v hv => by
  obtain ⟨j, hj⟩ := List.mem_iff_getElem?.1 hv
  exact (h j v hj).2

theorem load_sound {P : Program} {t : TypeId} {ti : TI} (ht : TOk P t ti) {g : G} {w : World} {b o : Nat} {us : List Value} {row : List AV} {x : AV} (hc : CellsAt w b o us) (hr : RepAs g w row us) (hx : takeRow ti row = some x) :
    ∃ v, (Instr.loadAt t (.pointer (some ⟨b, o, none⟩))).run P w = .ok v w ∧ RepA g w x v := by
  have hl := hr.length
  unfold takeRow at hx
  by_cases hagg : ti.isAgg = true
  · simp only [hagg, if_true] at hx
    split at hx
    · rename_i hsz
      cases hx
      have hc' := hc.take ti.size
      have hlen : (us.take ti.size).length = ti.size := by simp; omega
      refine ⟨.agg (us.take ti.size).toArray, ?_, RepA.mkAgg hc'.one (hr.take ti.size)⟩
      have hrun := run_loadCells_list (P := P) w ⟨b, o, none⟩ (us.take ti.size) (fun j v hj => by rw [Addr.add_lit]; exact (hc' j v hj).1)
      rw [hlen] at hrun
      simp only [Instr.loadAt, Instr.sureAddr, loadVar, Sem.run_bind, Sem.run_pure, Result.andThen_ok, ht.agg, hagg, if_true, ht.sizeOf, hrun]
    · cases hx
  · simp only [Bool.not_eq_true] at hagg
    simp only [hagg, Bool.false_eq_true, if_false] at hx
    cases row with
    | nil => simp at hx
    | cons y row =>
      simp at hx
      subst hx
      simp only [RepAs] at hr
      obtain ⟨v, vs', rfl, h1, h2⟩ := hr
      have h0 := (hc 0 v (by simp)).1
      simp only [Nat.add_zero] at h0
      refine ⟨v, ?_, h1⟩
      simp only [Instr.loadAt, Instr.sureAddr, loadVar, Sem.run_bind, Sem.run_pure, Result.andThen_ok, ht.agg, hagg, Bool.false_eq_true, if_false, run_load, h0]

theorem OwnOk.row {g : G} {w : World} {L : Loc} {o : Ob} (h : OwnOk g w L o) (hv : L.virt = false) {i : Nat} {row : List AV} (hi : o.rows[i]? = some row) :
    ∃ us : List Value, us.length = L.m ∧ RepAs g w row us ∧ CellsAt w L.blk (i * L.m) us := by
  obtain ⟨cur, h1, h2, h3, h5⟩ := h.cells hv
  obtain ⟨hl, hr⟩ := h5 i row hi
  have hlt : i < o.rows.length := (List.getElem?_eq_some_iff.1 hi).1
  have hcap : i * L.m + L.m ≤ cur.size := by
    rw [h2, ← Nat.succ_mul]
    exact Nat.mul_le_mul_right _ (Nat.le_trans hlt h.len)
  have hlen : ((cur.toList.drop (i * L.m)).take L.m).length = L.m := by simp; omega
  refine ⟨(cur.toList.drop (i * L.m)).take L.m, hlen, RepAs.of_get (by rw [hlen, hl]) fun j av hj => ?_, fun j v hj => ?_⟩
  · obtain ⟨v, hv', ho, hr'⟩ := hr j av hj
    refine ⟨v, ?_, hr'⟩
    have hjm : j < L.m := by rw [← hl]; exact (List.getElem?_eq_some_iff.1 hj).1
    rw [List.getElem?_take, if_pos hjm, List.getElem?_drop]
    simpa using hv'
  · have hjm : j < L.m := by rw [← hlen]; exact (List.getElem?_eq_some_iff.1 hj).1
    rw [List.getElem?_take, if_pos hjm, List.getElem?_drop] at hj
    have hrow : ∃ av, row[j]? = some av := ⟨row[j]'(by omega), List.getElem?_eq_getElem _⟩
    obtain ⟨av, hav⟩ := hrow
    obtain ⟨v', hv', ho, _⟩ := hr j av hav
    have : v' = v := by
      have e1 : cur[i * L.m + j]? = some v := by simpa using hj
      rw [e1] at hv'
      exact (Option.some.inj hv').symm
    subst this
    refine ⟨?_, ho⟩
    simp only [World.cell?, h1]
    simpa using hv'

/-- The cells of a value, as memory holds them. -/
def cellsA : AV → Option (List AV)
  | .d (.agg cs) => some (cs.map .d)
  | .d (.tup _) => none
  | .agg l => some l
  | .any => none
  | .tup _ => none
  | .opt _ _ => none
  | .ub _ _ => none
  | .pin _ _ => none
  | x => some [x]

theorem cellsA_rep {g : G} {w : World} {x : AV} {v : Value} {l : List AV} (h : RepA g w x v) (hl : cellsA x = some l) : RepAs g w l v.cells.toList ∧ OneCells v.cells.toList := by
  have single : ∀ u : Value, u.oneCell' = true → u.cells.toList = [u] := fun u hu => by cases u <;> simp_all [Value.cells, Value.oneCell']
  cases x with
  | any => simp [cellsA] at hl
  | tup _ => simp [cellsA] at hl
  | opt _ _ => simp [cellsA] at hl
  | ub _ _ => simp [cellsA] at hl
  | pin _ _ => simp [cellsA] at hl
  | agg k =>
    simp [cellsA] at hl; subst hl
    simp only [RepA] at h
    obtain ⟨vs, rfl, ho, hr⟩ := h
    exact ⟨by simpa [Value.cells] using hr, by simpa [Value.cells] using ho⟩
  | d y =>
    cases y with
    | agg cs =>
      simp [cellsA] at hl; subst hl
      simp only [RepA, RepD] at h
      obtain ⟨vs, rfl, ho, hr⟩ := h
      exact ⟨by simpa [Value.cells] using RepAs.of_ds hr, by simpa [Value.cells] using ho⟩
    | tup cs => simp [cellsA] at hl
    | _ =>
      simp [cellsA] at hl; subst hl
      have ho : v.oneCell' = true := by simp only [RepA] at h; exact RepD.cell h rfl
      rw [single v ho]
      exact ⟨by simp only [RepAs]; exact ⟨v, [], rfl, h, rfl⟩, fun u hu => by simp at hu; subst hu; exact ho⟩
  | nl =>
    simp [cellsA] at hl; subst hl
    have h' := h
    simp only [RepA] at h; subst h
    exact ⟨by simp only [Value.cells, RepAs]; exact ⟨_, [], rfl, h', rfl⟩, fun u hu => by simp [Value.cells] at hu; subst hu; rfl⟩
  | hs id off len =>
    simp [cellsA] at hl; subst hl
    have h' := h
    simp only [RepA] at h
    rw [single v h.1.2]
    exact ⟨by simp only [RepAs]; exact ⟨v, [], rfl, h', rfl⟩, fun u hu => by simp at hu; subst hu; exact h.1.2⟩
  | ptr id i j =>
    simp [cellsA] at hl; subst hl
    have h' := h
    simp only [RepA] at h
    rw [single v h.1.2]
    exact ⟨by simp only [RepAs]; exact ⟨v, [], rfl, h', rfl⟩, fun u hu => by simp at hu; subst hu; exact h.1.2⟩
  | clo f caps =>
    simp [cellsA] at hl; subst hl
    have h' := h
    simp only [RepA] at h
    obtain ⟨vs, rfl, _⟩ := h
    exact ⟨by simp only [Value.cells, RepAs]; exact ⟨_, [], rfl, h', rfl⟩, fun u hu => by simp [Value.cells] at hu; subst hu; rfl⟩


/-- Cells j, j+1, .. of a row turned. -/
def putCells : List AV → Nat → List AV → List AV
  | row, _, [] => row
  | row, j, x :: xs => putCells (row.set j x) (j + 1) xs

theorem putCells_length : ∀ (row : List AV) (j : Nat) (l : List AV), (putCells row j l).length = row.length
  | _, _, [] => rfl
  | row, j, x :: xs => by simp only [putCells]; rw [putCells_length]; simp

theorem putCells_get : ∀ (row : List AV) (j : Nat) (l : List AV) (k : Nat), j + l.length ≤ row.length →
    (putCells row j l)[k]? = if j ≤ k ∧ k < j + l.length then l[k - j]? else row[k]?
  | row, j, [], k, _ => by simp only [putCells, List.length_nil, Nat.add_zero]; rw [if_neg (by omega)]
  | row, j, x :: xs, k, h => by
    simp only [putCells]
    simp only [List.length_cons] at h ⊢
    rw [putCells_get _ _ _ _ (by simp; omega), List.getElem?_set]
    by_cases e : j = k
    · subst e
      rw [if_neg (by omega), if_pos rfl, if_pos (by omega), if_pos (by omega)]
      simp
    · rw [if_neg e]
      by_cases e2 : j + 1 ≤ k ∧ k < j + 1 + xs.length
      · rw [if_pos e2, if_pos (by omega), show k - j = (k - (j + 1)) + 1 by omega, List.getElem?_cons_succ]
      · rw [if_neg e2]
        rw [if_neg (by omega)]

theorem splice_get {α : Type} (cs vs : List α) (o k : Nat) (h : o + vs.length ≤ cs.length) :
    (cs.take o ++ vs ++ cs.drop (o + vs.length))[k]? = if o ≤ k ∧ k < o + vs.length then vs[k - o]? else cs[k]? := by
  have hlo : (cs.take o).length = o := by simp; omega
  rw [List.append_assoc, List.getElem?_append, hlo]
  by_cases e : k < o
  · rw [if_pos e, if_neg (by omega), List.getElem?_take, if_pos e]
  · rw [if_neg e, List.getElem?_append]
    by_cases e2 : k - o < vs.length
    · rw [if_pos e2, if_pos (by omega)]
    · rw [if_neg e2, if_neg (by omega), List.getElem?_drop]
      congr 1
      omega

/-- A store into an owned object. -/
theorem store_sound {P : Program} {t : TypeId} {ti : TI} (ht : TOk P t ti) {g : G} {obj : Nat → Option Ob} {w : World} (h : HRel g obj w) {id i j : Nat} {o : Ob} {row l : List AV} {x : AV} {p v : Value}
    (ho : obj id = some o) (hrow : o.rows[i]? = some row) (hp : RepA g w (.ptr id i j) p) (hx : RepA g w x v) (hl : cellsA x = some l) (hsz : l.length = ti.size) (hfit : j + l.length ≤ row.length) :
    ∃ w' g', (Instr.storeAt t p v).run P w = .ok () w' ∧ HRel g' (upd1 obj id (some ⟨o.elem, o.m, o.rows.set i (putCells row j l)⟩)) w' ∧ Step g w g' w' ∧ Later g w g' w' ∧ (∀ k, g'.used k → g.used k) := by
  obtain ⟨L, hL, hok⟩ := h.own id o ho
  simp only [RepA] at hp
  obtain ⟨hvirt, rfl⟩ := hp.2 L hL
  obtain ⟨hrep, hone⟩ := cellsA_rep hx hl
  have hvl : v.cells.toList.length = l.length := hrep.length
  obtain ⟨cur, h1, h2, h3, h5⟩ := hok.cells hvirt
  obtain ⟨hrl, _⟩ := h5 i row hrow
  have hlt : i < o.rows.length := (List.getElem?_eq_some_iff.1 hrow).1
  have hcap : i * L.m + L.m ≤ cur.size := by
    rw [h2, ← Nat.succ_mul]
    exact Nat.mul_le_mul_right _ (Nat.le_trans hlt hok.len)
  have hrun := run_storeCells_at P L.blk (i * L.m + j) o.elem v.cells.toList 0 cur w h1 (by rw [hvl]; omega) hone
  simp only [Nat.add_zero] at hrun
  have hsize : v.cells.size = ti.size := by rw [← hsz, ← hvl]; simp
  have hstore : (Instr.storeAt t (.pointer (some ⟨L.blk, i * L.m + j, none⟩)) v).run P w = .ok () (w.setRow L.blk (cur.toList.take (i * L.m + j) ++ v.cells.toList ++ cur.toList.drop (i * L.m + j + v.cells.toList.length)).toArray) := by
    simp only [Instr.storeAt, Instr.sureAddr, storeVar, Sem.run_bind, Sem.run_pure, Result.andThen_ok, ht.sizeOf, hsize, ne_eq, not_true_eq_false, if_false, hrun]
  have hw := HRel.write (w' := w.setRow L.blk (cur.toList.take (i * L.m + j) ++ v.cells.toList ++ cur.toList.drop (i * L.m + j + v.cells.toList.length)).toArray) h hL hvirt (.inl rfl)
    ⟨o.elem, o.m, o.rows.set i (putCells row j l)⟩ (cur.toList.take (i * L.m + j) ++ v.cells.toList ++ cur.toList.drop (i * L.m + j + v.cells.toList.length)).toArray rfl ⟨rfl, Nat.le_refl _⟩ rfl (by simp [World.setRow])
    (fun b _ hb => setRow_other w L.blk b _ hb) (.inl rfl) (setRow_heap w L.blk cur _ o.elem _ h1) hok.m.symm hok.pos (cap := L.cap) (by rw [← h2]; simp only [List.size_toArray, List.length_append, List.length_take, List.length_drop, Array.length_toList]; omega) (by simpa using hok.len) h3 (fun _ => ⟨rfl, rfl⟩) ?_
  · obtain ⟨g', _, hu, hro, hH, hS, hLt⟩ := hw
    refine ⟨_, g', hstore, ?_, hS, hLt, fun k hk => ?_⟩
    · have : upd1 (upd1 obj id none) id (some ⟨o.elem, o.m, o.rows.set i (putCells row j l)⟩) = upd1 obj id (some ⟨o.elem, o.m, o.rows.set i (putCells row j l)⟩) := by
        funext k; simp only [upd1]; split <;> rfl
      rw [← this]; exact hH
    · rw [hu] at hk
      rcases hk with hk | rfl
      · exact hk
      · exact (h.live _ L hL).1
  · intro i' row' hi'
    rw [List.getElem?_set] at hi'
    have hbound : ∀ k, k < row.length → i * L.m + k < cur.size := fun k hk => by omega
    have hget : ∀ p : Nat, (cur.toList.take (i * L.m + j) ++ v.cells.toList ++ cur.toList.drop (i * L.m + j + v.cells.toList.length)).toArray[p]? =
        if i * L.m + j ≤ p ∧ p < i * L.m + j + v.cells.toList.length then v.cells.toList[p - (i * L.m + j)]? else cur[p]? := fun p => by
      rw [List.getElem?_toArray, splice_get _ _ _ _ (by simp only [Array.length_toList]; omega)]
      simp
    by_cases e : i = i'
    · subst e
      rw [if_pos rfl, if_pos hlt] at hi'
      cases hi'
      refine ⟨by rw [putCells_length]; exact hrl, fun k av hk => ?_⟩
      rw [putCells_get _ _ _ _ hfit] at hk
      rw [hget]
      by_cases e2 : j ≤ k ∧ k < j + l.length
      · rw [if_pos e2] at hk
        rw [if_pos (by omega), show i * L.m + k - (i * L.m + j) = k - j by omega]
        obtain ⟨u, hu, hr⟩ := hrep.get _ _ hk
        exact ⟨u, hu, hone u (List.mem_of_getElem? hu), hr⟩
      · rw [if_neg e2] at hk
        rw [if_neg (by omega)]
        exact (h5 i row hrow).2 k av hk
    · rw [if_neg e] at hi'
      obtain ⟨hrl', hr'⟩ := h5 i' row' hi'
      refine ⟨hrl', fun k av hk => ?_⟩
      rw [hget]
      have hkm : k < L.m := by rw [← hrl']; exact (List.getElem?_eq_some_iff.1 hk).1
      have hne : ¬ (i * L.m + j ≤ i' * L.m + k ∧ i' * L.m + k < i * L.m + j + v.cells.toList.length) := by
        rintro ⟨a1, a2⟩
        rcases Nat.lt_or_gt_of_ne e with hlt' | hlt'
        · have := Nat.mul_le_mul_right L.m (show i + 1 ≤ i' from hlt')
          rw [Nat.succ_mul] at this
          omega
        · have := Nat.mul_le_mul_right L.m (show i' + 1 ≤ i from hlt')
          rw [Nat.succ_mul] at this
          omega
      rw [if_neg hne]
      exact hr' k av hk


/-- Rows of data. -/
def dr (l : List (List D)) : List (List AV) := l.map (·.map AV.d)

end Go.Abs
