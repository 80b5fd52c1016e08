/-
  The abstract machine, part 6: the effect of each operation, and its soundness.
-/
import Derived.Test.YtmfkfgonedgjnaaAbs5
import Derived.WalkSpells
set_option linter.unusedVariables false
set_option linter.unusedSimpArgs false
namespace Go.Abs
open Go.RowKit

def effMove : List AV → Option Eff
  | [x] => some { val := x }
  | _ => none

def pickA (c : Bool) : AV → AV → AV
  | .d (.bool x), .d (.bool y) => .d (.bool (bif c then x else y))
  | x, y => bif c then x else y

/-- What stands behind an 'opt'. -/
def strip : AV → AV
  | .opt _ x => x
  | x => x

/-- An 'opt' is there where c. -/
def optOb (c : Bool) : AV → Prop
  | .opt g _ => c = true → g = true
  | _ => True

def effPick : List AV → Option Eff
  | [.d (.bool c), x, y] => some { val := pickA c (strip x) (strip y), ob := optOb c x ∧ optOb (!c) y }
  | _ => none

def effAlloc (ty : TypeId → Option TI) (t : TypeId) (nid : Nat) : List AV → Option Eff
  | [] => (ty t).bind fun ti => if ti.size = 0 then none else some { val := .ptr nid 0 0, wr := [(nid, some ⟨t, ti.zero.length, [ti.zero]⟩)] }
  | _ => none

def effBox (t : TypeId) (nid : Nat) : List AV → Option Eff
  | [x] => (cellsA x).bind fun l => if l.length = 0 then none else some { val := .ptr nid 0 0, wr := [(nid, some ⟨t, l.length, [l]⟩)] }
  | _ => none

def effBuild (ty : TypeId → Option TI) (t : TypeId) (keys : List Nat) (args : List AV) : Option Eff :=
  (ty t).bind fun ti =>
    match ti.kind with
    | .struct fs => (fillA (fun i => (fs[i]?).map fun f => (f.1, f.2.1)) ti.zero (keys.zip args)).map fun l => { val := mkAgg l }
    | .arr _ e => (ty e).bind fun te => (fillA (fun i => some (i * te.size, te.size)) ti.zero (keys.zip args)).map fun l => { val := mkAgg l }
    | _ => none

def effBuildSlice (ty : TypeId → Option TI) (t : TypeId) (len : Nat) (keys : List Nat) (nid : Nat) (args : List AV) : Option Eff :=
  (ty t).bind fun ti =>
    match ti.kind with
    | .slice e => (ty e).bind fun te => if te.size = 0 ∨ len * te.size > 2 ^ 24 then none else
        (fillA (fun i => some (i * te.size, te.size)) (rep len te.zero) (keys.zip args)).map fun l => { val := .hs nid 0 len, wr := [(nid, some ⟨e, te.size, chunk len te.size l⟩)] }
    | _ => none

def effLoad (ty : TypeId → Option TI) (t : TypeId) (hp : Nat → Option Ob) : List AV → Option Eff
  | [.ptr id i j] => (ty t).bind fun ti => (hp id).bind fun o => (o.rows[i]?).bind fun row => (takeRow ti (row.drop j)).map fun x => { val := x }
  | [.d (.rp cs)] => (ty t).bind fun ti => (takeRow ti (cs.map .d)).map fun x => { val := x }
  | _ => none

def effStore (ty : TypeId → Option TI) (t : TypeId) (hp : Nat → Option Ob) : List AV → Option Eff
  | [.ptr id i j, x] => (ty t).bind fun ti => (hp id).bind fun o => (o.rows[i]?).bind fun row => (cellsA x).bind fun l =>
      if l.length = ti.size ∧ j + l.length ≤ row.length then some { val := .any, wr := [(id, some ⟨o.elem, o.m, o.rows.set i (putCells row j l)⟩)] } else none
  | _ => none

def effNilCheck (hp : Nat → Option Ob) : List AV → Option Eff
  | [.d (.rp cs)] => some { val := .d (.rp cs) }
  | [.ptr id i j] => (hp id).map fun _ => { val := .ptr id i j }
  | [.d (.fn (.func f) caps)] => some { val := .d (.fn (.func f) caps) }
  | [.clo (.func f) caps] => some { val := .clo (.func f) caps }
  | _ => none

def eqD (q : Nat) : List D → List D → Option Bool
  | [], [] => some true
  | .int k a :: r, .int k' b :: r' => if q = 1 ∧ k = k' then (eqD q r r').map fun c => (a == b) && c else none
  | .bool a :: r, .bool b :: r' => if q = 2 then (eqD q r r').map fun c => (a == b) && c else none
  | _, _ => none

/-- Whether a slice is nil. -/
def isNil (obj : Nat → Option Ob) : AV → Option AV
  | .nl => some (.d (.bool true))
  | .d (.sl rows) => some (.ub rows.isEmpty true)
  | .hs id _ len => (obj id).map fun _ => .ub (len == 0) true
  | _ => none

def notA : AV → AV
  | .d (.bool b) => .d (.bool (!b))
  | .ub p q => .ub q p
  | x => x

def effBin (ty : TypeId → Option TI) (op : BinOp) (t : TypeId) (obj : Nat → Option Ob) : List AV → Option Eff
  | [x, .nl] => (ty t).bind fun ti => match ti.kind with
    | .slice _ => (isNil obj x).bind fun c => match op with
      | .eql => some { val := c }
      | .neq => some { val := notA c }
      | _ => none
    | _ => none
  | [.d (.int k a), .d (.int k' b)] =>
    if k = k' then
      match op with
      | .add => some { val := .d (.int k (k.wrap (a + b))) }
      | .sub => some { val := .d (.int k (k.wrap (a - b))) }
      | .mul => some { val := .d (.int k (k.wrap (a * b))) }
      | .quo => some { val := .d (.int k (k.wrap (a.tdiv b))), ob := b ≠ 0 }
      | .rem => some { val := .d (.int k (a.tmod b)), ob := b ≠ 0 }
      | .shr => some { val := .d (.int k (a.fdiv (2 ^ (min b.toNat k.bits)))), ob := ¬ b < 0 }
      | .eql => some { val := .d (.bool (a == b)) }
      | .neq => some { val := .d (.bool (a != b)) }
      | .lss => some { val := .d (.bool (decide (a < b))) }
      | .leq => some { val := .d (.bool (decide (a ≤ b))) }
      | .gtr => some { val := .d (.bool (decide (a > b))) }
      | .geq => some { val := .d (.bool (decide (a ≥ b))) }
      | _ => none
    else none
  | [.d (.bool a), .d (.bool b)] =>
    (ty t).bind fun ti => match ti.kind with
      | .bool => match op with
        | .eql => some { val := .d (.bool (a == b)) }
        | .neq => some { val := .d (.bool (a != b)) }
        | _ => none
      | _ => none
  | [.d (.agg xs), .d (.agg ys)] =>
    (ty t).bind fun ti => if ti.eqs ≠ 0 ∧ xs.length = ti.size then
      match op with
      | .eql => (eqD ti.eqs xs ys).map fun c => { val := .d (.bool c) }
      | .neq => (eqD ti.eqs xs ys).map fun c => { val := .d (.bool (!c)) }
      | _ => none
    else none
  | _ => none

def effUn (op : UnOp) : List AV → Option Eff
  | [.d (.bool b)] => match op with | .not => some { val := .d (.bool (!b)) } | _ => none
  | [.d (.int k n)] => match op with | .neg => some { val := .d (.int k (k.wrap (0 - n))) } | _ => none
  | _ => none

def effConvert (ty : TypeId → Option TI) (src dst : TypeId) : List AV → Option Eff
  | [.d (.int _ n)] => (ty src).bind fun _ => (ty dst).bind fun ti => match ti.kind with
    | .int k => some { val := .d (.int k (k.wrap n)) }
    | _ => none
  | _ => none

/-- The cells of a struct's value. -/
def aggList : AV → Option (List AV)
  | .d (.agg cs) => some (cs.map AV.d)
  | .agg l => some l
  | _ => none

def effField (ty : TypeId → Option TI) (t : TypeId) (f : Nat) : List AV → Option Eff
  | [x] => (ty t).bind fun ti => match ti.kind with
    | .struct fs => (fs[f]?).bind fun fi => (aggList x).bind fun l =>
        if fi.2.2 then (if fi.1 + fi.2.1 ≤ l.length then some { val := mkAgg ((l.drop fi.1).take fi.2.1) } else none) else (l[fi.1]?).map fun y => { val := y }
    | _ => none
  | _ => none

def effFieldAddr (ty : TypeId → Option TI) (t : TypeId) (f : Nat) (hp : Nat → Option Ob) : List AV → Option Eff
  | [.ptr id i j] => (ty t).bind fun ti => match ti.kind with
    | .struct fs => (hp id).bind fun _ => (fs[f]?).map fun fi => { val := .ptr id i (j + fi.1) }
    | _ => none
  | [.d (.rp cs)] => (ty t).bind fun ti => match ti.kind with
    | .struct fs => (fs[f]?).map fun fi => { val := .d (.rp (cs.drop fi.1)) }
    | _ => none
  | _ => none

def effIndexAddr (ty : TypeId → Option TI) (t : TypeId) (hp : Nat → Option Ob) : List AV → Option Eff
  | [.hs id off len, .d (.int _ i)] => (ty t).bind fun ti => match ti.kind with
    | .slice e => (ty e).bind fun te => (hp id).bind fun o => if o.m = te.size then some { val := .ptr id (off + i.toNat) 0, ob := 0 ≤ i ∧ i < (len : Int) } else none
    | _ => none
  | [.d (.sl rows), .d (.int _ i)] => (ty t).bind fun ti => match ti.kind with
    | .slice e => (ty e).bind fun te => (rows[i.toNat]?).map fun r => { val := .d (.rp r), ob := 0 ≤ i ∧ r.length = te.size }
    | _ => none
  | [.ptr id i0 j, .d (.int _ i)] => (ty t).bind fun ti => match ti.kind with
    | .arr n e => (ty e).bind fun te => if n ≤ 1 then none else (hp id).map fun _ => { val := .ptr id i0 (j + i.toNat * te.size), ob := 0 ≤ i ∧ i < (n : Int) }
    | _ => none
  | [.d (.rp cs), .d (.int _ i)] => (ty t).bind fun ti => match ti.kind with
    | .arr n e => (ty e).bind fun te => if n ≤ 1 then none else some { val := .d (.rp (cs.drop (i.toNat * te.size))), ob := 0 ≤ i ∧ i < (n : Int) }
    | _ => none
  | _ => none

def effIndex (ty : TypeId → Option TI) (t : TypeId) : List AV → Option Eff
  | [.d (.agg cs), .d (.int _ i)] => (ty t).bind fun ti => match ti.kind with
    | .arr n e => (ty e).bind fun te =>
        if te.isAgg then some { val := .d (.agg ((cs.drop (i.toNat * te.size)).take te.size)), ob := 0 ≤ i ∧ i < (n : Int) ∧ i.toNat * te.size + te.size ≤ cs.length }
        else (cs[i.toNat * te.size]?).map fun x => { val := .d x, ob := 0 ≤ i ∧ i < (n : Int) }
    | _ => none
  | _ => none

def effExtract (ix : Nat) : List AV → Option Eff
  | [.d (.tup cs)] => (cs[ix]?).map fun x => { val := .d x }
  | [.tup cs] => (cs[ix]?).map fun x => { val := x }
  | _ => none

def effMakeFunc (fn : Fn) (first : Nat) (args : List AV) : Option Eff := if first = 0 then some { val := .clo fn args } else none

def effMakeSlice (ty : TypeId → Option TI) (t : TypeId) (nid : Nat) : List AV → Option Eff
  | [.d (.int _ l), .d (.int _ c)] => (ty t).bind fun ti => match ti.kind with
    | .slice e => (ty e).bind fun te => if te.size = 0 then none else
      some { val := .hs nid 0 l.toNat, wr := [(nid, some ⟨e, te.size, List.replicate l.toNat te.zero⟩)], ob := 0 ≤ l ∧ l ≤ c ∧ (te.bytes : Int) * c ≤ 281474976710656 ∧ c ≤ 9223372036854775807 }
    | _ => none
  | _ => none

def sliceArgs : Bool → Bool → List AV → Option (Option Int × Option Int)
  | false, false, [] => some (none, none)
  | true, false, [.d (.int _ l)] => some (some l, none)
  | false, true, [.d (.int _ h)] => some (none, some h)
  | true, true, [.d (.int _ l), .d (.int _ h)] => some (some l, some h)
  | _, _, _ => none

def chunkD : Nat → Nat → List D → List (List D)
  | 0, _, _ => []
  | n + 1, m, l => l.take m :: chunkD n m (l.drop m)

/-- The whole of an array as a slice: what nobody will write any more. -/
def effSliceArr (ty : TypeId → Option TI) (n : Nat) (e : TypeId) (hp : Nat → Option Ob) (b : Option Int × Option Int) : AV → Option Eff
  | .ptr id i j => (ty e).bind fun te => (hp id).bind fun o => (o.rows[i]?).bind fun row => (allD (row.drop j)).bind fun ds =>
      if b.1.isNone ∧ b.2.isNone ∧ te.size ≠ 0 ∧ n ≠ 0 ∧ n ≤ 65536 ∧ n * te.size ≤ ds.length then some { val := .d (.sl (chunkD n te.size ds)), wr := [(id, none)] } else none
  | _ => none

/-- x[lo:hi]; lo, hi given or not. -/
def effSlice (ty : TypeId → Option TI) (t : TypeId) (hp : Nat → Option Ob) (lo hi : Bool) : List AV → Option Eff
  | x :: rest =>
    (sliceArgs lo hi rest).bind fun b => (ty t).bind fun ti => match ti.kind with
      | .slice e => (ty e).bind fun te => match x with
        | .d (.sl rows) =>
          some { val := .d (.sl ((rows.take ((b.2.getD rows.length).toNat)).drop ((b.1.getD 0).toNat))), ob := 0 ≤ b.1.getD 0 ∧ b.1.getD 0 ≤ b.2.getD rows.length ∧ b.2.getD rows.length ≤ rows.length ∧ ∀ r ∈ rows, r.length = te.size }
        | .hs id off len => (hp id).bind fun o => if o.m = te.size then
            some { val := if b.1.getD 0 = 0 ∨ b.1.getD 0 < len then .hs id (off + (b.1.getD 0).toNat) ((b.2.getD len).toNat - (b.1.getD 0).toNat) else .d (.sl []), ob := 0 ≤ b.1.getD 0 ∧ b.1.getD 0 ≤ b.2.getD len ∧ b.2.getD len ≤ len } else none
        | _ => none
      | .arr n e => effSliceArr ty n e hp b x
      | _ => none
  | _ => none

def lenA (hp : Nat → Option Ob) : TK → AV → Option Eff
  | .slice _, .nl => some { val := .d (.int .i64 0) }
  | .slice _, .d (.sl rows) => some { val := .d (.int .i64 rows.length) }
  | .slice _, .hs id _ n => (hp id).map fun _ => { val := .d (.int .i64 n) }
  | .str, .d (.str s) => some { val := .d (.int .i64 s.size) }
  | .arr n _, _ => some { val := .d (.int .i64 n) }
  | _, _ => none

def effBuiltin (ty : TypeId → Option TI) (b : Builtin) (ats : List TypeId) (hp : Nat → Option Ob) (nid : Nat) (args : List AV) : Option Eff :=
  match b, ats, args with
  | .len, [t], [x] => (ty t).bind fun ti => lenA hp ti.kind x
  | .append, [t, t'], [s, x] => if t = t' then (ty t).bind fun ti => match ti.kind with
    | .slice e => (ty e).bind fun te => if te.size = 0 ∨ te.bytes = 0 then none else
      (dstRows hp e te.size s).bind fun d => (srcRows hp te.size x).map fun r =>
        { val := .hs nid 0 (d.1.length + r.1.length), wr := d.2.1 ++ [(nid, some ⟨e, te.size, d.1 ++ r.1⟩)], ob := d.2.2 ∧ r.2 ∧ (d.1.length + r.1.length) * te.bytes ≤ 140737488355328 }
    | _ => none
    else none
  | .copy, [t, t'], [.hs id 0 len, x] => if t = t' then (ty t).bind fun ti => match ti.kind with
    | .slice e => (ty e).bind fun te => (hp id).bind fun o => (srcRows hp te.size x).bind fun r =>
      if o.m = te.size then some { val := .d (.int .i64 r.1.length), wr := [(id, some ⟨o.elem, o.m, r.1 ++ o.rows.drop r.1.length⟩)], ob := r.2 ∧ r.1.length ≤ len ∧ len ≤ o.rows.length } else none
    | _ => none
    else none
  | .min, _, [.d (.int k a), .d (.int k' b)] => if k = k' then some { val := .d (.int k (min a b)) } else none
  | .max, _, [.d (.int k a), .d (.int k' b)] => if k = k' then some { val := .d (.int k (max a b)) } else none
  | _, _, _ => none

/-- THE EFFECT OF AN OPERATION. 'args': its operands' values, 'hp' the owned objects, 'nid' a name for a new object, 'orc' the result of a call. -/
def eff0 (ty : TypeId → Option TI) (P : Program) (orc : Option Res) (op : Op) (hp : Nat → Option Ob) (nid : Nat) (args : List AV) : Option Eff :=
  match op with
  | .move _ => effMove args
  | .assign _ => effMove args
  | .pick _ _ _ => effPick args
  | .alloc t => effAlloc ty t nid args
  | .box t _ => effBox t nid args
  | .build t ps => effBuild ty t (ps.toList.map (·.1)) args
  | .buildSlice t len ps => effBuildSlice ty t len (ps.toList.map (·.1)) nid args
  | .load t _ => effLoad ty t hp args
  | .nilCheck _ => effNilCheck hp args
  | .store t _ _ => effStore ty t hp args
  | .binOp op t _ _ _ => effBin ty op t hp args
  | .unOp op _ _ => effUn op args
  | .convert src dst _ => effConvert ty src dst args
  | .field t _ f => effField ty t f args
  | .fieldAddr t _ f => effFieldAddr ty t f hp args
  | .indexAddr t _ _ => effIndexAddr ty t hp args
  | .index t _ _ => effIndex ty t args
  | .extract _ ix => effExtract ix args
  | .makeFunc fn first _ => effMakeFunc fn first.size args
  | .makeSlice t _ _ => effMakeSlice ty t nid args
  | .slice t _ lo hi mx => if mx.isSome then none else effSlice ty t hp lo.isSome hi.isSome args
  | .call { callee := .builtin b, argTypes := ats, .. } => effBuiltin ty b ats.toList hp nid args
  | .call { callee := .value _, .. } => effCall P orc hp nid args
  | _ => none

/-- A bool of which a part is known: the other part is shown. -/
def fixU (b : Bool) (e : Eff) : Option Eff := match e.val with
  | .ub p q => some { e with val := .d (.bool b), ob := e.ob ∧ (bif b then q else p) = false }
  | _ => none

/-- What an operation has made is plain data at once. -/
def frzE (nid : Nat) (d : D) (e : Eff) : Option Eff := match e.val, e.wr with
  | .hs id 0 len, [(k, some o)] => if id = nid ∧ k = nid then some { val := .d d, ob := e.ob ∧ (match rowsD o.rows with | some R => d = .sl (R.take len) ∧ len ≤ R.length | none => False) } else none
  | _, _ => none

/-- 'skip': a guarded operation that is not carried out; its effect is not looked at. -/
def eff (ty : TypeId → Option TI) (P : Program) (orc : Option Res) (op : Op) (hp : Nat → Option Ob) (nid : Nat) (args : List AV) : Option Eff :=
  match orc with
  | some .skip => none
  | some (.ub b) => (eff0 ty P none op hp nid args).bind (fixU b)
  | some (.f d) => match op with
    | .buildSlice _ _ _ => (eff0 ty P none op hp nid args).bind (frzE nid d)
    | .makeSlice _ _ _ => (eff0 ty P none op hp nid args).bind (frzE nid d)
    | _ => eff0 ty P (some (.f d)) op hp nid args
  | r => eff0 ty P r op hp nid args

structure Ctx (P : Program) (ty : TypeId → Option TI) : Prop where
  ok : ∀ t ti, ty t = some ti → TOk P t ti

section
variable {P : Program} {ty : TypeId → Option TI} {o : Oper} {a : Act} {g : G} {obj : Nat → Option Ob} {w : World} {nid : Nat} {args : List AV} {e : Eff}

theorem one_arg {x : AV} {v : Value} (h : RepAs g w [x] [v]) : RepA g w x v := by
  simp only [RepAs] at h
  obtain ⟨_, _, heq, h1, _⟩ := h
  cases heq
  exact h1

theorem two_args {x y : AV} {v u : Value} (h : RepAs g w [x, y] [v, u]) : RepA g w x v ∧ RepA g w y u := by
  simp only [RepAs] at h
  obtain ⟨_, _, heq, h1, _, _, heq', h2, _⟩ := h
  cases heq
  cases heq'
  exact ⟨h1, h2⟩

theorem three_args {x y z : AV} {v u t : Value} (h : RepAs g w [x, y, z] [v, u, t]) : RepA g w x v ∧ RepA g w y u ∧ RepA g w z t := by
  simp only [RepAs] at h
  obtain ⟨_, _, heq, h1, _, _, heq', h2, _, _, heq'', h3, _⟩ := h
  cases heq
  cases heq'
  cases heq''
  exact ⟨h1, h2, h3⟩

theorem args_len (h : RepAs g w args (o.op.operands.toList.map a.eval)) : args.length = o.op.operands.size := by
  have := h.length
  simpa using this.symm

theorem move_sound {x : Operand} (hH : HRel g obj w) (ho : o.op = .move x ∨ o.op = .assign x) (hargs : RepAs g w args [a.eval x]) (he : effMove args = some e) : Does P o a w (After g obj w nid e) := by
  match args, he with
  | [y], he =>
    simp [effMove] at he; subst he
    have hy := one_arg hargs
    refine does_value (v := a.eval x) (w' := w) ?_ (After.same hH hy)
    rcases ho with ho | ho <;> simp [execOp, ho]

theorem strip_rep {x : AV} {v : Value} {c : Bool} (h : RepA g w x v) (hc : c = true) (ho : optOb c x) : RepA g w (strip x) v := by
  cases x with
  | opt b y => simp only [RepA] at h; exact h.1 (ho hc)
  | _ => exact h

theorem pickA_rep {c : Bool} {x y : AV} {u v : Value} (hx : c = true → RepA g w x u) (hy : c = false → RepA g w y v) : RepA g w (pickA c x y) (if c then u else v) := by
  unfold pickA
  split
  · cases c
    · have := hy rfl
      simp only [RepA, RepD] at this ⊢
      subst this; rfl
    · have := hx rfl
      simp only [RepA, RepD] at this ⊢
      subst this; rfl
  · cases c
    · simpa using hy rfl
    · simpa using hx rfl

theorem pick_sound {c x y : Operand} (hH : HRel g obj w) (ho : o.op = .pick c x y) (hargs : RepAs g w args [a.eval c, a.eval x, a.eval y]) (he : effPick args = some e) (hob : e.ob) : Does P o a w (After g obj w nid e) := by
  match args, he with
  | [.d (.bool b), p, q], he =>
    simp [effPick] at he; subst he
    obtain ⟨h1, h2, h3⟩ := three_args hargs
    simp only [RepA, RepD] at h1
    refine does_value (v := if b then a.eval x else a.eval y) (w' := w) ?_ (After.same hH (pickA_rep (fun hb => strip_rep h2 hb hob.1) (fun hb => strip_rep h3 (by rw [hb]; rfl) hob.2)))
    simp [execOp, ho, h1, asBool]

theorem part_one {P : Program} {w : World} {t : TypeId} {d : TypeDesc} (ht : P.underlying t = some d) (hd : descAgg d = false) {us : List Value} {i : Nat} {v : Value} (hv : us[i]? = some v) : (part t us.toArray i).run P w = .ok v w := by
  have : us.toArray[i]? = some v := by simpa using hv
  cases d <;> simp [descAgg] at hd <;> simp [part, isAgg, run_underlying ht, this]

theorem eqFields_run (P : Program) (w : World) {g : G} (q : Nat) : ∀ (fs : List Field) (s : Nat) (us vs : List Value) (xs ys : List D) (c : Bool),
    (fs.zipIdx s).all (fun x => decide (x.1.offset = x.2) && decide (x.1.name ≠ "_") && eqKind P x.1.type q) = true → fs.length = xs.length →
    RepDs g.ro w xs (us.drop s) → RepDs g.ro w ys (vs.drop s) → eqD q xs ys = some c → (Op.eqFields 9999 us.toArray vs.toArray fs).run P w = .ok c w
  | [], s, us, vs, xs, ys, c, _, hl, _, _, he => by
    have : xs = [] := List.eq_nil_of_length_eq_zero (by simpa using hl.symm)
    subst this
    cases ys with
    | nil => simp [eqD] at he; subst he; simp [Op.eqFields]
    | cons y ys => simp [eqD] at he
  | f :: fs, s, us, vs, xs, ys, c, hall, hl, hx, hy, he => by
    cases xs with
    | nil => simp at hl
    | cons x xs =>
      cases ys with
      | nil => cases x <;> simp [eqD] at he
      | cons y ys =>
        simp only [List.zipIdx_cons, List.all_cons, Bool.and_eq_true, decide_eq_true_eq] at hall
        obtain ⟨⟨⟨hoff, hname⟩, hty⟩, hall⟩ := hall
        have fin : ∀ (a b : Value) (e c' : Bool), us[s]? = some a → vs[s]? = some b → (∀ d, P.underlying f.type = some d → descAgg d = false) → (Op.equalIn 9999 f.type a b).run P w = .ok e w → eqD q xs ys = some c' → c = (e && c') → (Op.eqFields 9999 us.toArray vs.toArray (f :: fs)).run P w = .ok c w := by
          intro a b e c' hu hv hda hrun hc' hc
          have ih := eqFields_run P w q fs (s + 1) us vs xs ys c' (by simpa using hall) (by simpa using hl) (by have := hx.drop 1; simpa [List.drop_drop, Nat.add_comm] using this) (by have := hy.drop 1; simpa [List.drop_drop, Nat.add_comm] using this) hc'
          obtain ⟨d, hd⟩ : ∃ d, P.underlying f.type = some d := by
            unfold eqKind at hty
            cases hq : P.underlying f.type with
            | none => rw [hq] at hty; cases hty
            | some d => exact ⟨d, rfl⟩
          simp only [Op.eqFields, if_pos hname, hoff, Sem.run_bind, part_one hd (hda d hd) hu, part_one hd (hda d hd) hv, Result.andThen_ok, Sem.run_ite, hrun]
          subst hc
          cases e
          · simp
          · simpa using ih
        cases x with
        | int ka a =>
          cases y with
          | int kb b =>
            simp only [eqD] at he
            split at he
            · rename_i hkk
              obtain ⟨rfl, rfl⟩ := hkk
              simp only [Option.map_eq_some_iff] at he
              unfold eqKind at hty
              obtain ⟨c', hc', rfl⟩ := he
              obtain ⟨u, hu, hru⟩ := hx.get 0 _ rfl
              obtain ⟨v, hv, hrv⟩ := hy.get 0 _ rfl
              simp only [RepD] at hru hrv
              subst hru; subst hrv
              rw [List.getElem?_drop, Nat.add_zero] at hu hv
              cases hq : P.underlying f.type with
              | none => rw [hq] at hty; cases hty
              | some d =>
                cases d with
                | int k => exact fin _ _ (a == b) c' hu hv (fun d hd => by rw [hq] at hd; cases hd; rfl) (run_equalIn_int w 9998 f.type ka k a b hq) hc' rfl
                | bool => rw [hq] at hty; cases hty
                | _ => rw [hq] at hty; cases hty
            · cases he
          | _ => simp [eqD] at he
        | bool a =>
          cases y with
          | bool b =>
            simp only [eqD] at he
            split at he
            case isFalse => cases he
            rename_i hq2
            subst hq2
            simp only [Option.map_eq_some_iff] at he
            unfold eqKind at hty
            obtain ⟨c', hc', rfl⟩ := he
            obtain ⟨u, hu, hru⟩ := hx.get 0 _ rfl
            obtain ⟨v, hv, hrv⟩ := hy.get 0 _ rfl
            simp only [RepD] at hru hrv
            subst hru; subst hrv
            rw [List.getElem?_drop, Nat.add_zero] at hu hv
            cases hq : P.underlying f.type with
            | none => rw [hq] at hty; cases hty
            | some d =>
              cases d with
              | bool => exact fin _ _ (a == b) c' hu hv (fun d hd => by rw [hq] at hd; cases hd; rfl) (run_equalIn_bool w 9998 f.type a b hq) hc' rfl
              | int k => rw [hq] at hty; cases hty
              | _ => rw [hq] at hty; cases hty
          | _ => simp [eqD] at he
        | _ => simp [eqD] at he

theorem bin_sound {op : BinOp} {t yt : TypeId} {x y : Operand} (hc : Ctx P ty) (hH : HRel g obj w) (ho : o.op = .binOp op t x y yt) (hargs : RepAs g w args [a.eval x, a.eval y]) (he : effBin ty op t obj args = some e) (hob : e.ob) : Does P o a w (After g obj w nid e) := by
  unfold effBin at he
  split at he
  · rename_i x0
    cases hty : ty t with
    | none => rw [hty] at he; cases he
    | some ti =>
      rw [hty] at he
      simp only [Option.bind_some] at he
      split at he
      · rename_i et hk
        have hu : P.underlying t = some (.slice et) := by have := (hc.ok t ti hty).kind; rw [hk] at this; exact this
        obtain ⟨h1, h2⟩ := two_args hargs
        simp only [RepA] at h2
        cases hn : isNil obj x0 with
        | none => rw [hn] at he; cases he
        | some c =>
          rw [hn] at he
          simp only [Option.bind_some] at he
          obtain ⟨aa, nn, cc, hv, hrep, hrep'⟩ : ∃ aa nn cc, a.eval x = .slice aa nn cc ∧ RepA g w c (.bool aa.isNone) ∧ RepA g w (notA c) (.bool (!aa.isNone)) := by
            unfold isNil at hn
            split at hn
            · cases hn
              simp only [RepA] at h1
              exact ⟨none, 0, 0, h1, by simp [RepA, RepD], by simp [RepA, RepD, notA]⟩
            · cases hn
              simp only [RepA, RepD] at h1
              obtain ⟨aa, cap, hv, hle, hmax, hrows⟩ := h1
              refine ⟨aa, _, cap, hv, ?_⟩
              rcases hrows with rfl | ⟨b, o, m, rfl, _⟩
              · cases aa <;> simp [RepA, notA]
              · simp [RepA, notA]
            · rename_i id off len
              simp only [Option.map_eq_some_iff] at hn
              obtain ⟨ob, hob', rfl⟩ := hn
              obtain ⟨L, hL, _⟩ := hH.own id ob hob'
              simp only [RepA] at h1
              rcases h1.2 L hL with ⟨_, h3, h4, h5⟩ | ⟨_, _, h5⟩
              · exact ⟨none, 0, 0, h5, by simp [RepA, h4], by simp [RepA, notA, h4]⟩
              · exact ⟨_, _, _, h5, by simp [RepA], by simp [RepA, notA]⟩
            · cases hn
          cases op <;> simp only [Option.some.injEq, reduceCtorEq] at he
          · subst he
            refine does_value (v := .bool aa.isNone) (w' := w) ?_ (After.same hH hrep)
            simp only [execOp, ho, hv, h2, eqGuard_at_slice, pure_bind, Sem.run_bind, Lib.run_eql_slice_nil w t et aa nn cc 0 0 hu, Result.andThen_ok, Sem.run_pure]
          · subst he
            refine does_value (v := .bool (!aa.isNone)) (w' := w) ?_ (After.same hH hrep')
            simp only [execOp, ho, hv, h2, eqGuard_at_slice, pure_bind, Sem.run_bind, run_neq_slice_nil_any w t et aa nn cc 0 0 hu, Result.andThen_ok, Sem.run_pure]
      · cases he
  · rename_i k m k' n
    obtain ⟨h1, h2⟩ := two_args hargs
    simp only [RepA, RepD] at h1 h2
    split at he
    · rename_i hk
      subst hk
      have key : ∀ (v : Value) (z : D), (binOp op t (.int k m) (.int k n)).run P w = .ok v w → RepD g.ro w z v → e.val = .d z → e.wr = [] → Does P o a w (After g obj w nid e) := by
        intro v z hrun hz hv hw
        refine does_value (v := v) (w' := w) ?_ ?_
        · simp only [execOp, ho, h1, h2, eqGuard_at_int, pure_bind, Sem.run_bind, hrun, Result.andThen_ok, Sem.run_pure]
        · obtain ⟨val, wr, ob⟩ := e
          simp only at hv hw
          subst hv; subst hw
          exact After.same hH (by simpa only [RepA] using hz)
      cases op <;> simp only [Option.some.injEq, reduceCtorEq] at he <;> subst he <;>
        first
          | exact key _ _ (by simp [go_sem, Op.intArith]; rfl) (by simp only [RepD]) rfl rfl
          | (simp only at hob
             exact key _ _ (by simp [go_sem, Op.intDiv, hob]; rfl) (by simp only [RepD]) rfl rfl)
          | (simp only at hob
             exact key (.int k (m.fdiv (2 ^ (min n.toNat k.bits)))) _ (by simp only [binOp, Op.shift, if_neg hob, Sem.run_pure]) (by simp only [RepD]) rfl rfl)
    · cases he
  · rename_i m n
    cases hty : ty t with
    | none => rw [hty] at he; cases he
    | some ti =>
      rw [hty] at he
      simp only [Option.bind_some] at he
      split at he
      · rename_i hk
        obtain ⟨h1, h2⟩ := two_args hargs
        simp only [RepA, RepD] at h1 h2
        have hu : P.underlying t = some .bool := by have := (hc.ok t ti hty).kind; rw [hk] at this; exact this
        have heq : (Op.equal t (.bool m) (.bool n)).run P w = .ok (m == n) w := by
          show (Op.equalIn (9999 + 1) t (.bool m) (.bool n)).run P w = _
          exact run_equalIn_bool w 9999 t m n hu
        cases op <;> simp only [Option.some.injEq, reduceCtorEq] at he
        · subst he
          refine does_value (v := .bool (m == n)) (w' := w) ?_ (After.same hH (by simp only [RepA, RepD]))
          simp only [execOp, ho, h1, h2, eqGuard_at_bool, pure_bind, binOp, Sem.run_bind, heq, Result.andThen_ok, Sem.run_pure]
        · subst he
          refine does_value (v := .bool (!(m == n))) (w' := w) ?_ (After.same hH (by simp only [RepA, RepD]; rfl))
          simp only [execOp, ho, h1, h2, eqGuard_at_bool, pure_bind, binOp, Sem.run_bind, heq, Result.andThen_ok, Sem.run_pure]
      · cases he
  · rename_i xs ys
    obtain ⟨h1, h2⟩ := two_args hargs
    simp only [RepA, RepD] at h1 h2
    obtain ⟨us, hu, _, hru⟩ := h1
    obtain ⟨vs, hv, _, hrv⟩ := h2
    cases hty : ty t with
    | none => rw [hty] at he; cases he
    | some ti =>
      rw [hty] at he
      simp only [Option.bind_some] at he
      split at he
      · rename_i heqs
        obtain ⟨hst, hgt, fs, hfs, hall, hfl⟩ := (hc.ok t ti hty).eqs heqs.1
        have hlen : fs.toList.length = xs.length := by rw [hfl, heqs.2]
        have hfo : P.fieldsOf t = fs := by simp [Program.fieldsOf, hfs]
        have hrun : ∀ c, eqD ti.eqs xs ys = some c → (Op.equalIn 10000 t (.agg us.toArray) (.agg vs.toArray)).run P w = .ok c w := by
          intro c hc'
          rw [show (10000 : Nat) = 9999 + 1 from rfl, run_equalIn_agg w 9999 t us.toArray vs.toArray (by rw [hfo]; exact hfs) hst, hfo]
          exact eqFields_run P w ti.eqs fs.toList 0 us vs xs ys c hall hlen (by simpa using hru) (by simpa using hrv) hc'
        cases op <;> simp only [Option.map_eq_some_iff, reduceCtorEq] at he
        · obtain ⟨c, hc', rfl⟩ := he
          refine does_value (v := .bool c) (w' := w) ?_ (After.same hH (by simp only [RepA, RepD]))
          simp only [execOp, ho, hu, hv, Sem.run_bind, run_eqGuard_agg w _ t x y _ _ hgt, Result.andThen_ok, run_eql_struct, hrun c hc', Sem.run_pure]
        · obtain ⟨c, hc', rfl⟩ := he
          refine does_value (v := .bool (!c)) (w' := w) ?_ (After.same hH (by simp only [RepA, RepD]))
          simp only [execOp, ho, hu, hv, Sem.run_bind, run_eqGuard_agg w _ t x y _ _ hgt, Result.andThen_ok, run_neq_struct, hrun c hc', Sem.run_pure]
      · cases he
  · cases he

end
end Go.Abs
