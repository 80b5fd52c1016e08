/-
  The abstract machine, part 9: states, regions in the order of the text, the rules for code.
-/
import Derived.Test.YtmfkfgonedgjnaaAbs8
import Derived.Scope
set_option linter.unusedVariables false
set_option linter.unusedSimpArgs false
namespace Go.Abs
open Go.RowKit

structure St where
  n : Nat
  tm : List (Nat × AV)
  hp : List (Nat × Option Ob)
  nxt : Nat

def St.get (s : St) (t : Nat) : AV := (find s.tm t).getD .any
def St.obj (s : St) (id : Nat) : Option Ob := (find s.hp id).getD none

def pushL (hp : List (Nat × Option Ob)) : List (Nat × Option Ob) → List (Nat × Option Ob)
  | [] => hp
  | x :: r => pushL (x :: hp) r

def St.put (s : St) (dst : Option Tmp) (v : AV) : St := match dst with | some d => { s with tm := (d, v) :: s.tm } | none => s
def St.app (s : St) (dst : Option Tmp) (e : Eff) : St := { s.put dst e.val with hp := pushL s.hp e.wr }

theorem find_pushL : ∀ (wr hp : List (Nat × Option Ob)) (id : Nat), (find (pushL hp wr) id).getD none = updL (fun x => (find hp x).getD none) wr id
  | [], hp, id => rfl
  | (i, o) :: r, hp, id => by
    simp only [pushL, updL]
    rw [find_pushL r]
    congr 1
    funext x
    simp only [find, upd1]
    by_cases e : i = x
    · subst e; simp
    · simp [e, Ne.symm e]

/-- A constant's abstract value. -/
def cav : Value → AV
  | .agg cs => if cs.toList.all Value.oneCell' then mkAgg (cs.toList.map zav) else .any
  | .nilFunc => .any
  | v => zav v

theorem cav_rep (g : G) (w : World) (v : Value) : RepA g w (cav v) v := by
  unfold cav
  split
  · rename_i cs
    split
    · rename_i h
      have := RepA.mkAgg (g := g) (w := w) (vs := cs.toList) (fun v hv => List.all_eq_true.1 h v hv) (RepAs.of_get (ds := cs.toList.map zav) (by simp) fun j d hj => by
        rw [List.getElem?_map] at hj
        cases hv : cs.toList[j]? with
        | none => rw [hv] at hj; cases hj
        | some v => rw [hv] at hj; cases hj; exact ⟨v, rfl, zav_rep g w v⟩)
      simpa using this
    · simp [RepA]
  · simp [RepA]
  · exact zav_rep g w _

def St.eval (s : St) : Operand → AV
  | .tmp t => s.get t
  | .const v => cav v
  | .global _ => .any
  | .func f => .d (.fn (.func f) [])

theorem eval_rep {U : Nat → Prop} {g : G} {get : Nat → AV} {obj : Nat → Option Ob} {n : Nat} {a : Act} {w : World} (h : Rel U g get obj n a w) {s : St} (hs : ∀ t, s.get t = get t) (x : Operand) : RepA g w (s.eval x) (a.eval x) := by
  cases x with
  | tmp t => simp only [St.eval, hs]; exact h.tmp t
  | const v => exact cav_rep g w v
  | global i => simp [St.eval, RepA]
  | func f => simp only [St.eval, RepA, RepD, Act.eval]; exact ⟨[], rfl, by simp [RepDs]⟩

/-- The state stands for the world. -/
def RelS (s : St) (g : G) (a : Act) (w : World) : Prop := Rel (· < s.nxt) g s.get s.obj s.n a w

def putG (get : Nat → AV) (dst : Option Tmp) (v : AV) : Nat → AV := fun t => if dst = some t then v else get t

theorem St.get_put (s : St) (dst : Option Tmp) (v : AV) (t : Nat) : (s.put dst v).get t = putG s.get dst v t := by
  unfold St.put putG
  cases dst with
  | none => simp
  | some d =>
    simp only [St.get, find, Option.some.injEq]
    by_cases e : d = t <;> simp [e]

theorem rel_put {U U' : Nat → Prop} {g g' : G} {get : Nat → AV} {obj obj' : Nat → Option Ob} {n : Nat} {a : Act} {w w' : World} {dst : Option Tmp} {v : AV} {u : Value} (h : Rel U g get obj n a w) (hH : HRel g' obj' w') (hl : Later g w g' w') (hu : ∀ k, g'.used k → U' k) (hv : RepA g' w' v u)
    (hd : ∀ d, dst = some d → d < n) : Rel U' g' (putG get dst v) obj' n (a.put dst u) w' where
  defers := by cases dst <;> exact h.defers
  size := by cases dst <;> simp [Act.put, h.size]
  tmp t := by
    cases dst with
    | none => simp only [putG, Act.put, reduceCtorEq, if_false]; exact RepA.later hl _ _ (h.tmp t)
    | some d =>
      simp only [putG, Act.put, Option.some.injEq]
      by_cases e : d = t
      · subst e
        have : d < a.tmps.size := by rw [h.size]; exact hd d rfl
        simp [this]
        exact hv
      · rw [if_neg e]
        have : (a.tmps.setIfInBounds d u).getD t undef = a.tmps.getD t undef := by simp [Array.getElem?_setIfInBounds_ne e]
        rw [this]
        exact RepA.later hl _ _ (h.tmp t)
  used := hu
  heap := hH

/-- ONE OPERATION, in whatever place of the schedule it stands. -/
theorem op_step {P : Program} {ty : TypeId → Option TI} (hc : Ctx P ty) {U : Nat → Prop} {g : G} {get : Nat → AV} {obj : Nat → Option Ob} {n nid : Nat} {a : Act} {w : World} {o : Oper} {e : Eff} {orc : Option Res} {args : List AV} (h : Rel U g get obj n a w) (hid : ¬ U nid)
    (hargs : RepAs g w args (o.op.operands.toList.map a.eval)) (he : eff ty P orc o.op obj nid args = some e) (hob : e.ob) (hd : ∀ d, o.dst = some d → d < n) {K : Act → World → Prop} {Q : Exit → Act → World → Prop}
    (hK : ∀ g' a' w', Rel (fun k => U k ∨ k = nid) g' (putG get o.dst e.val) (updL obj e.wr) n a' w' → Step g w g' w' → K a' w') : o.wp P a w K Q := by
  refine eff_sound hc h.heap (fun hu => hid (h.used _ hu)) hargs he hob K Q fun v w' hA => ?_
  obtain ⟨g', h1, h2, h3, h4, h5⟩ := hA
  exact hK g' _ w' (rel_put h h1 h3 (fun k hk => (h4 k hk).imp (h.used k) fun x => x) h5 hd) h2

/-- Whether a guarded operation is carried out. -/
def St.guard (s : St) (gs : List (Option Tmp)) (j : Nat) (want : Bool) : Option Bool :=
  match gs[j]? with
  | some (some t) => match s.get t with
    | .d (.bool b) => some (b == want)
    | .opt g (.d (.bool b)) => some (g && (b == want))
    | _ => none
  | _ => none

/-- What is only there on a condition is there. -/
def stripOk : List AV → Prop
  | [] => True
  | .opt g _ :: r => g = true ∧ stripOk r
  | _ :: r => stripOk r

/-- What a guarded operation looks at: a choice looks at its two values by itself. -/
def stripG (op : Op) (l : List AV) : List AV := match op, l with
  | .pick _ _ _, c :: r => strip c :: r
  | _, l => l.map strip
def stripOkG (op : Op) (l : List AV) : Prop := match op, l with
  | .pick _ _ _, c :: _ => stripOk [c]
  | _, l => stripOk l

theorem sg_move {x} {l : List AV} : stripG (.move x) l = l.map strip := rfl
theorem so_move {x} {l : List AV} : stripOkG (.move x) l = stripOk l := rfl
theorem sg_assign {x} {l : List AV} : stripG (.assign x) l = l.map strip := rfl
theorem so_assign {x} {l : List AV} : stripOkG (.assign x) l = stripOk l := rfl
theorem sg_alloc {x} {l : List AV} : stripG (.alloc x) l = l.map strip := rfl
theorem so_alloc {x} {l : List AV} : stripOkG (.alloc x) l = stripOk l := rfl
theorem sg_box {x y} {l : List AV} : stripG (.box x y) l = l.map strip := rfl
theorem so_box {x y} {l : List AV} : stripOkG (.box x y) l = stripOk l := rfl
theorem sg_build {x y} {l : List AV} : stripG (.build x y) l = l.map strip := rfl
theorem so_build {x y} {l : List AV} : stripOkG (.build x y) l = stripOk l := rfl
theorem sg_buildSlice {x y z} {l : List AV} : stripG (.buildSlice x y z) l = l.map strip := rfl
theorem so_buildSlice {x y z} {l : List AV} : stripOkG (.buildSlice x y z) l = stripOk l := rfl
theorem sg_load {x y} {l : List AV} : stripG (.load x y) l = l.map strip := rfl
theorem so_load {x y} {l : List AV} : stripOkG (.load x y) l = stripOk l := rfl
theorem sg_store {x y z} {l : List AV} : stripG (.store x y z) l = l.map strip := rfl
theorem so_store {x y z} {l : List AV} : stripOkG (.store x y z) l = stripOk l := rfl
theorem sg_nilCheck {x} {l : List AV} : stripG (.nilCheck x) l = l.map strip := rfl
theorem so_nilCheck {x} {l : List AV} : stripOkG (.nilCheck x) l = stripOk l := rfl
theorem sg_binOp {a x y z b} {l : List AV} : stripG (.binOp a x y z b) l = l.map strip := rfl
theorem so_binOp {a x y z b} {l : List AV} : stripOkG (.binOp a x y z b) l = stripOk l := rfl
theorem sg_unOp {x y z} {l : List AV} : stripG (.unOp x y z) l = l.map strip := rfl
theorem so_unOp {x y z} {l : List AV} : stripOkG (.unOp x y z) l = stripOk l := rfl
theorem sg_convert {x y z} {l : List AV} : stripG (.convert x y z) l = l.map strip := rfl
theorem so_convert {x y z} {l : List AV} : stripOkG (.convert x y z) l = stripOk l := rfl
theorem sg_makeFunc {x y z} {l : List AV} : stripG (.makeFunc x y z) l = l.map strip := rfl
theorem so_makeFunc {x y z} {l : List AV} : stripOkG (.makeFunc x y z) l = stripOk l := rfl
theorem sg_makeSlice {x y z} {l : List AV} : stripG (.makeSlice x y z) l = l.map strip := rfl
theorem so_makeSlice {x y z} {l : List AV} : stripOkG (.makeSlice x y z) l = stripOk l := rfl
theorem sg_slice {a x y z b} {l : List AV} : stripG (.slice a x y z b) l = l.map strip := rfl
theorem so_slice {a x y z b} {l : List AV} : stripOkG (.slice a x y z b) l = stripOk l := rfl
theorem sg_fieldAddr {x y z} {l : List AV} : stripG (.fieldAddr x y z) l = l.map strip := rfl
theorem so_fieldAddr {x y z} {l : List AV} : stripOkG (.fieldAddr x y z) l = stripOk l := rfl
theorem sg_field {x y z} {l : List AV} : stripG (.field x y z) l = l.map strip := rfl
theorem so_field {x y z} {l : List AV} : stripOkG (.field x y z) l = stripOk l := rfl
theorem sg_indexAddr {x y z} {l : List AV} : stripG (.indexAddr x y z) l = l.map strip := rfl
theorem so_indexAddr {x y z} {l : List AV} : stripOkG (.indexAddr x y z) l = stripOk l := rfl
theorem sg_index {x y z} {l : List AV} : stripG (.index x y z) l = l.map strip := rfl
theorem so_index {x y z} {l : List AV} : stripOkG (.index x y z) l = stripOk l := rfl
theorem sg_extract {x y} {l : List AV} : stripG (.extract x y) l = l.map strip := rfl
theorem so_extract {x y} {l : List AV} : stripOkG (.extract x y) l = stripOk l := rfl
theorem sg_call {x} {l : List AV} : stripG (.call x) l = l.map strip := rfl
theorem so_call {x} {l : List AV} : stripOkG (.call x) l = stripOk l := rfl
theorem sg_lookup {a x y z} {l : List AV} : stripG (.lookup a x y z) l = l.map strip := rfl
theorem so_lookup {a x y z} {l : List AV} : stripOkG (.lookup a x y z) l = stripOk l := rfl
theorem sg_mapUpdate {a x y z} {l : List AV} : stripG (.mapUpdate a x y z) l = l.map strip := rfl
theorem so_mapUpdate {a x y z} {l : List AV} : stripOkG (.mapUpdate a x y z) l = stripOk l := rfl
theorem sg_makeInterface {x y} {l : List AV} : stripG (.makeInterface x y) l = l.map strip := rfl
theorem so_makeInterface {x y} {l : List AV} : stripOkG (.makeInterface x y) l = stripOk l := rfl
theorem sg_makeMap {x y} {l : List AV} : stripG (.makeMap x y) l = l.map strip := rfl
theorem so_makeMap {x y} {l : List AV} : stripOkG (.makeMap x y) l = stripOk l := rfl
theorem sg_pick {x y z} {c : AV} {l : List AV} : stripG (.pick x y z) (c :: l) = strip c :: l := rfl
theorem so_pick {x y z} {c : AV} {l : List AV} : stripOkG (.pick x y z) (c :: l) = stripOk [c] := rfl

section
variable (ty : TypeId → Option TI) (P : Program) (orc : List (Nat × Res)) (gs : List (Option Tmp)) (base : Nat)

/-- One operation in the text's order. -/
def doOp (i : Nat) (o : Oper) (s : St) (K : St → Prop) : Prop :=
  match eff ty P (find orc i) o.op s.obj (base + i) (o.op.operands.toList.map s.eval) with
  | some e => e.ob ∧ (match o.dst with | some d => d < s.n | none => True) ∧ K (s.app o.dst e)
  | none => False

/-- A region in the text's order. -/
def wpT : Nat → List Oper → St → (St → Prop) → Prop
  | _, [], s, Q => Q s
  | i, o :: rest, s, Q =>
    match o.guard with
    | none => doOp ty P orc base i o s fun s' => wpT (i + 1) rest s' Q
    | some (j, want) =>
      match s.guard gs j want with
      | some x =>
        (match o.dst with | some d => d < s.n | none => True) ∧
        (match eff ty P (find orc i) o.op s.obj (base + i) (stripG o.op (o.op.operands.toList.map s.eval)) with
        | some e => (match e.wr with
          | [] => (x = true → stripOkG o.op (o.op.operands.toList.map s.eval) ∧ e.ob) ∧ wpT (i + 1) rest (s.put o.dst (.opt x e.val)) Q
          | _ => x = true ∧ stripOkG o.op (o.op.operands.toList.map s.eval) ∧ e.ob ∧ wpT (i + 1) rest (s.app o.dst e) Q)
        | none => x = false ∧ wpT (i + 1) rest (s.put o.dst (.opt false (.d (.bool false)))) Q)
      | none => False
end

/-- AFTER a piece of code: the way it ends, and the state. -/
def AWp (P : Program) (c : Code) (Q : Exit → St → Prop) (s : St) : Prop :=
  ∀ g a w, RelS s g a w → c.wp P (fun e a' w' => ∃ s' g', RelS s' g' a' w' ∧ Step g w g' w' ∧ Q e s') a w

theorem RelS.bump {s : St} {g : G} {a : Act} {w : World} (h : RelS s g a w) (k : Nat) : RelS { s with nxt := s.nxt + k } g a w :=
  ⟨h.defers, h.size, h.tmp, fun id hu => by have := h.used id hu; show id < s.nxt + k; omega, h.heap⟩

theorem Rel.congr {U : Nat → Prop} {g : G} {get get' : Nat → AV} {obj obj' : Nat → Option Ob} {n : Nat} {a : Act} {w : World} (h : Rel U g get obj n a w) (h1 : ∀ t, get' t = get t) (h2 : ∀ t, obj' t = obj t) : Rel U g get' obj' n a w := by
  have e1 : get' = get := funext h1
  have e2 : obj' = obj := funext h2
  rw [e1, e2]; exact h

theorem app_get (s : St) (dst : Option Tmp) (e : Eff) (t : Nat) : (s.app dst e).get t = putG s.get dst e.val t := by
  rw [← St.get_put]
  cases dst <;> rfl

theorem app_obj (s : St) (dst : Option Tmp) (e : Eff) (id : Nat) : (s.app dst e).obj id = updL s.obj e.wr id := by
  unfold St.app St.obj
  cases dst <;> exact find_pushL e.wr s.hp id

theorem put_obj (s : St) (dst : Option Tmp) (v : AV) (id : Nat) : (s.put dst v).obj id = s.obj id := by cases dst <;> rfl

theorem strips_rep {g : G} {w : World} : ∀ {l : List AV} {vs : List Value}, RepAs g w l vs → stripOk l → RepAs g w (l.map strip) vs
  | [], vs, h, _ => by simpa [RepAs] using h
  | x :: l, vs, h, ho => by
    simp only [RepAs] at h
    obtain ⟨v, vs', rfl, h1, h2⟩ := h
    simp only [List.map_cons, RepAs]
    cases x with
    | opt b y =>
      simp only [stripOk] at ho
      simp only [RepA] at h1
      exact ⟨v, vs', rfl, h1.1 ho.1, strips_rep h2 ho.2⟩
    | _ => exact ⟨v, vs', rfl, h1, strips_rep h2 ho⟩

theorem strips_repG {op : Op} {g : G} {w : World} {l : List AV} {vs : List Value} (h : RepAs g w l vs) (ho : stripOkG op l) : RepAs g w (stripG op l) vs := by
  cases op
  case pick =>
    cases l with
    | nil => simpa [stripG] using h
    | cons c r =>
      simp only [stripG, stripOkG, RepAs] at h ho ⊢
      obtain ⟨v, vs', rfl, h1, h2⟩ := h
      refine ⟨v, vs', rfl, ?_, h2⟩
      have := strips_rep (l := [c]) (vs := [v]) (by simp only [RepAs]; exact ⟨v, [], rfl, h1, rfl⟩) ho
      simp only [List.map_cons, List.map_nil, RepAs] at this
      obtain ⟨u, us, heq, hu, _⟩ := this
      cases heq
      exact hu
  all_goals exact strips_rep h ho

theorem Rel.opt {U : Nat → Prop} {g : G} {get : Nat → AV} {obj : Nat → Option Ob} {n : Nat} {a : Act} {w : World} {dst : Option Tmp} {v : AV} (h : Rel U g (putG get dst v) obj n a w) : Rel U g (putG get dst (.opt true v)) obj n a w := by
  refine ⟨h.defers, h.size, fun t => ?_, h.used, h.heap⟩
  have := h.tmp t
  unfold putG at this ⊢
  split
  · rename_i e
    rw [if_pos e] at this
    simp only [RepA]
    exact ⟨fun _ => this, fun hb => by cases hb⟩
  · rename_i e
    rw [if_neg e] at this
    exact this

/-- A guard's word is the model's. -/
theorem guard_wanted {g : G} {w : World} {a : Act} {s : St} {ops : Array Oper} {gs : List (Option Tmp)} (hgs : ∀ j : Nat, gs[j]? = (ops[j]?).map fun o : Oper => o.dst) (htmp : ∀ t, RepA g w (s.get t) (a.tmps.getD t undef)) {o : Oper} {j : Nat} {want x : Bool} (hg : o.guard = some (j, want)) (hx : s.guard gs j want = some x) :
    Region.wanted o (yielded ops a.tmps) = x := by
  unfold St.guard at hx
  split at hx
  · rename_i t ht
    have hdst : (ops[j]?).bind (fun o => o.dst) = some t := by
      rw [hgs j] at ht
      cases ho : ops[j]? with
      | none => rw [ho] at ht; cases ht
      | some oj => rw [ho] at ht; simpa using ht
    have isb : ∀ b, a.tmps.getD t undef = .bool b → yielded ops a.tmps j = some b := by
      intro b hb
      have hlt : t < a.tmps.size := by
        rcases Nat.lt_or_ge t a.tmps.size with hlt | hge
        · exact hlt
        · simp [Array.getElem?_eq_none hge, undef] at hb
      have : a.tmps[t]? = some (.bool b) := by
        simp [hlt] at hb
        simp [hlt, hb]
      simp [yielded, hdst, this]
    have isu : a.tmps.getD t undef = undef → yielded ops a.tmps j = none := by
      intro hb
      rcases Nat.lt_or_ge t a.tmps.size with hlt | hge
      · have : a.tmps[t]? = some undef := by
          simp [hlt] at hb
          simp [hlt, hb]
        simp [yielded, hdst, this, undef]
      · simp [yielded, hdst, Array.getElem?_eq_none hge]
    have hv := htmp t
    split at hx
    · rename_i b hb
      cases hx
      rw [hb] at hv
      simp only [RepA, RepD] at hv
      simp only [Region.wanted, hg, isb b hv]
      cases b <;> cases want <;> rfl
    · rename_i q b hb
      cases hx
      rw [hb] at hv
      simp only [RepA, RepD] at hv
      cases q with
      | true =>
        simp only [Region.wanted, hg, isb b (hv.1 rfl)]
        cases b <;> cases want <;> rfl
      | false =>
        simp only [Region.wanted, hg, isu (hv.2 rfl)]
        cases want <;> rfl
    · cases hx
  · cases hx

theorem wpT_sound {P : Program} {ty : TypeId → Option TI} (hc : Ctx P ty) {orc : List (Nat × Res)} {gs : List (Option Tmp)} {ops : Array Oper} (hgs : ∀ j : Nat, gs[j]? = (ops[j]?).map fun o : Oper => o.dst) {base nxt : Nat} {Q : Exit → Act → World → Prop} {K : St → Prop} {g0 : G} {w0 : World}
    (hQ : ∀ s g a w, RelS s g a w → Step g0 w0 g w → K s → Q .normal a w) :
    ∀ (l : List Oper) (i : Nat) (s : St) (g : G) (a : Act) (w : World), base + i + l.length ≤ nxt → s.nxt = nxt → Rel (· < base + i) g s.get s.obj s.n a w → Step g0 w0 g w → wpT ty P orc gs base i l s K → wpList P ops Q l a w
  | [], i, s, g, a, w, hle, hnx, h, hs, hk => hQ s g a w ⟨h.defers, h.size, h.tmp, fun id hu => by have := h.used id hu; simp at hle; show id < s.nxt; omega, h.heap⟩ hs hk
  | o :: rest, i, s, g, a, w, hle, hnx, h, hs, hk => by
    simp only [List.length_cons] at hle
    have hargs : RepAs g w (o.op.operands.toList.map s.eval) (o.op.operands.toList.map a.eval) := by
      refine RepAs.of_get (by simp) fun j av hj => ?_
      rw [List.getElem?_map] at hj ⊢
      cases hx : o.op.operands.toList[j]? with
      | none => rw [hx] at hj; cases hj
      | some x => rw [hx] at hj; cases hj; exact ⟨a.eval x, rfl, eval_rep h (fun _ => rfl) x⟩
    have relapp : ∀ (e : Eff) (g' : G) (a' : Act) (w' : World), Rel (fun k => k < base + i ∨ k = base + i) g' (putG s.get o.dst e.val) (updL s.obj e.wr) s.n a' w' → Rel (· < base + (i + 1)) g' (s.app o.dst e).get (s.app o.dst e).obj (s.app o.dst e).n a' w' := by
      intro e g' a' w' hr
      have hn : (s.app o.dst e).n = s.n := by unfold St.app St.put; cases o.dst <;> rfl
      rw [hn]
      exact ⟨hr.defers, hr.size, fun t => by rw [app_get]; exact hr.tmp t, fun id hu => by
        have := hr.used id hu
        show id < base + (i + 1)
        rcases this with hh | hh <;> omega, by
        have : (s.app o.dst e).obj = updL s.obj e.wr := funext (app_obj s o.dst e)
        rw [this]; exact hr.heap⟩
    have hnapp : ∀ e, (s.app o.dst e).nxt = nxt := fun e => by rw [← hnx]; unfold St.app St.put; cases o.dst <;> rfl
    have hnput : ∀ v, (s.put o.dst v).nxt = nxt := fun v => by rw [← hnx]; unfold St.put; cases o.dst <;> rfl
    have hnn : ∀ v, (s.put o.dst v).n = s.n := fun v => by unfold St.put; cases o.dst <;> rfl
    have relput : ∀ (v : AV) (g' : G) (a' : Act) (w' : World) (U : Nat → Prop), (∀ k, U k → k < base + (i + 1)) → Rel U g' (putG s.get o.dst v) s.obj s.n a' w' → Rel (· < base + (i + 1)) g' (s.put o.dst v).get (s.put o.dst v).obj (s.put o.dst v).n a' w' := by
      intro v g' a' w' U hU hr
      rw [hnn]
      have := hr.congr (get' := (s.put o.dst v).get) (obj' := (s.put o.dst v).obj) (fun t => St.get_put s o.dst v t) (fun id => put_obj s o.dst v id)
      exact ⟨this.defers, this.size, this.tmp, fun k hk => hU k (this.used k hk), this.heap⟩
    have skipped : ∀ v, (∀ d, o.dst = some d → d < s.n) → RepA g w v undef → wpT ty P orc gs base (i + 1) rest (s.put o.dst v) K → wpList P ops Q rest (a.put o.dst undef) w := by
      intro v hd hv hrest
      have hr := rel_put (U' := (· < base + i)) (dst := o.dst) (v := v) (u := undef) h h.heap ⟨fun b hb => ⟨hb, rfl⟩, fun _ hx => hx, fun _ _ => .inl rfl⟩ (fun k hk => h.used k hk) hv hd
      exact wpT_sound (nxt := nxt) hc hgs hQ rest (i + 1) _ g _ w (by omega) (hnput v) (relput v g _ w _ (fun k hk => by omega) hr) hs hrest
    simp only [wpList]
    unfold wpT at hk
    split at hk
    · rename_i hg
      have hw : Region.wanted o (yielded ops a.tmps) = true := by simp [Region.wanted, hg]
      rw [if_pos hw]
      left
      unfold doOp at hk
      split at hk
      · rename_i e he
        obtain ⟨hob, hd, hrest⟩ := hk
        exact op_step hc (nid := base + i) h (by simp) hargs he hob (fun d hd' => by rw [hd'] at hd; exact hd) fun g' a' w' hr hst =>
          wpT_sound (nxt := nxt) hc hgs hQ rest (i + 1) (s.app o.dst e) g' a' w' (by omega) (hnapp e) (relapp e g' a' w' hr) (hs.trans hst) hrest
      · exact hk.elim
    · rename_i j want hg
      split at hk
      · rename_i x hgv
        have hw := guard_wanted (a := a) hgs h.tmp hg hgv
        rw [hw]
        obtain ⟨hd, hk⟩ := hk
        have hd' : ∀ d, o.dst = some d → d < s.n := fun d hd' => by rw [hd'] at hd; exact hd
        split at hk
        · rename_i e he
          split at hk
          · rename_i hwr
            obtain ⟨hexec, hrest⟩ := hk
            cases x with
            | true =>
              rw [if_pos rfl]
              left
              obtain ⟨hso, hob⟩ := hexec rfl
              refine op_step hc (nid := base + i) h (by simp) (strips_repG hargs hso) he hob hd' fun g' a' w' hr hst => ?_
              rw [hwr] at hr
              exact wpT_sound (nxt := nxt) hc hgs hQ rest (i + 1) _ g' a' w' (by omega) (hnput _) (relput _ g' a' w' _ (fun k hk => by rcases hk with hh | hh <;> omega) hr.opt) (hs.trans hst) hrest
            | false =>
              rw [if_neg (by simp)]
              exact skipped _ hd' (by simp [RepA]) hrest
          · obtain ⟨rfl, hso, hob, hrest⟩ := hk
            rw [if_pos rfl]
            left
            exact op_step hc (nid := base + i) h (by simp) (strips_repG hargs hso) he hob hd' fun g' a' w' hr hst =>
              wpT_sound (nxt := nxt) hc hgs hQ rest (i + 1) (s.app o.dst e) g' a' w' (by omega) (hnapp e) (relapp e g' a' w' hr) (hs.trans hst) hrest
        · obtain ⟨rfl, hrest⟩ := hk
          rw [if_neg (by simp)]
          exact skipped _ hd' (by simp [RepA]) hrest
      · exact hk.elim

theorem awp_region {P : Program} {ty : TypeId → Option TI} (hc : Ctx P ty) (orc : List (Nat × Res)) {id : Nat} {l : List Oper} {Q : Exit → St → Prop} {s : St}
    (h : ∀ K : St → Prop, (∀ s', Q .normal s' → K s') → wpT ty P orc (l.map (·.dst)) s.nxt 0 l { s with nxt := s.nxt + l.length } K) : AWp P (.region id l.toArray false) Q s := by
  intro g a w hr
  refine wp_region ?_
  have hw := wpT_sound (P := P) hc (orc := orc) (gs := l.map (·.dst)) (ops := l.toArray) (by intro j; simp) (base := s.nxt) (nxt := s.nxt + l.length)
    (Q := fun e a' w' => ∃ s' g', RelS s' g' a' w' ∧ Step g w g' w' ∧ Q e s') (K := fun s' => Q .normal s') (g0 := g) (w0 := w)
    (fun s' g' a' w' h1 h2 h3 => ⟨s', g', h1, h2, h3⟩) l 0 { s with nxt := s.nxt + l.length } g a w (by simp) rfl ⟨hr.defers, hr.size, hr.tmp, fun id hu => by have := hr.used id hu; simpa using this, hr.heap⟩ (Step.refl g w) (h _ fun _ hq => hq)
  have := wpOps_eq_wpList (P := P) (ops := l.toArray) (Q := fun e a' w' => ∃ s' g', RelS s' g' a' w' ∧ Step g w g' w' ∧ Q e s') l 0 (by intro j; simp)
  rw [show List.range l.toArray.size = List.range' 0 l.length by simp [List.range_eq_range'], this]
  exact hw

/-! ### Rules for code -/
section
variable {P : Program} {Q : Exit → St → Prop} {s : St}

theorem awp_mono {c : Code} {Q' : Exit → St → Prop} (h : AWp P c Q s) (hq : ∀ e s, Q e s → Q' e s) : AWp P c Q' s :=
  fun g a w hr => wp_mono (h g a w hr) fun e a' w' ⟨s', g', h1, h2, h3⟩ => ⟨s', g', h1, h2, hq _ _ h3⟩

def seqQ (K : St → Prop) (Q : Exit → St → Prop) : Exit → St → Prop
  | .normal, s => K s
  | e, s => Q e s

theorem awp_seq {x y : Code} (h : AWp P x (seqQ (fun s' => AWp P y Q s') Q) s) : AWp P (.seq x y) Q s := by
  intro g a w hr
  refine wp_seq (wp_mono (h g a w hr) fun e a' w' ⟨s', g', h1, h2, h3⟩ => ?_)
  cases e with
  | normal => exact wp_mono (h3 g' a' w' h1) fun e2 a2 w2 ⟨s2, g2, k1, k2, k3⟩ => ⟨s2, g2, k1, h2.trans k2, k3⟩
  | _ => exact ⟨s', g', h1, h2, h3⟩

theorem awp_skip (h : Q .normal s) : AWp P .skip Q s := fun g a w hr => wp_skip ⟨s, g, hr, Step.refl g w, h⟩
theorem awp_label {l : Nat} (h : Q .normal s) : AWp P (.label l) Q s := fun g a w hr => wp_label ⟨s, g, hr, Step.refl g w, h⟩
theorem awp_exit {id : Nat} (h : Q (.exit id) s) : AWp P (.exit id) Q s := fun g a w hr => wp_exit ⟨s, g, hr, Step.refl g w, h⟩
theorem awp_ret (h : Q .ret s) : AWp P .ret Q s := fun g a w hr => wp_ret ⟨s, g, hr, Step.refl g w, h⟩

theorem awp_cond {c : Operand} {x y : Code} {b : Bool} (hc : s.eval c = .d (.bool b)) (ht : b = true → AWp P x Q s) (hf : b = false → AWp P y Q s) : AWp P (.cond c x y) Q s := by
  intro g a w hr
  have h1 := eval_rep hr (fun _ => rfl) c
  rw [hc] at h1
  simp only [RepA, RepD] at h1
  exact wp_cond_split h1 (fun hb => ht hb g a w hr) (fun hb => hf hb g a w hr)

theorem awp_rs {ty : TypeId → Option TI} (hc : Ctx P ty) (orc : List (Nat × Res)) {id : Nat} {l : List Oper} {y : Code}
    (h : ∀ K : St → Prop, (∀ s', AWp P y Q s' → K s') → wpT ty P orc (l.map (·.dst)) s.nxt 0 l { s with nxt := s.nxt + l.length } K) : AWp P (.seq (.region id l.toArray false) y) Q s :=
  awp_seq (awp_region hc orc fun K hK => h K hK)

def blockQ (id : Nat) (Q : Exit → St → Prop) : Exit → St → Prop
  | .exit id', s => if id' = id then Q .normal s else Q (.exit id') s
  | e, s => Q e s

theorem awp_block {id : Nat} {c : Code} (h : AWp P c (blockQ id Q) s) : AWp P (.block id c) Q s := by
  intro g a w hr
  refine wp_block (wp_mono (h g a w hr) fun e a' w' ⟨s', g', h1, h2, h3⟩ => ?_)
  cases e with
  | exit id' =>
    simp only [blockQ] at h3
    simp only [Exit.inBlock]
    split at h3
    · rename_i he; rw [if_pos he]; exact ⟨s', g', h1, h2, h3⟩
    · rename_i he; rw [if_neg he]; exact ⟨s', g', h1, h2, h3⟩
  | _ => exact ⟨s', g', h1, h2, h3⟩

def scopeQ (Q : Exit → St → Prop) : Exit → St → Prop
  | .goto _, _ => False
  | e, s => Q e s

theorem awp_scope {c : Code} (h : AWp P c (scopeQ Q) s) : AWp P (.scope c) Q s := by
  intro g a w hr
  refine wp_scope_straight (wp_mono (h g a w hr) fun e a' w' ⟨s', g', h1, h2, h3⟩ => ?_)
  cases e with
  | goto l => exact h3.elim
  | _ => exact ⟨s', g', h1, h2, h3⟩

/-- s can be seen as s'. -/
def Weak (s s' : St) : Prop := ∀ g a w, RelS s g a w → ∃ g', RelS s' g' a w ∧ Step g w g' w

theorem Weak.refl (s : St) : Weak s s := fun g a w hr => ⟨g, hr, Step.refl g w⟩

theorem awp_weak {c : Code} {s' : St} (hw : Weak s s') (h : AWp P c Q s') : AWp P c Q s := by
  intro g a w hr
  obtain ⟨g', hr', hs⟩ := hw g a w hr
  exact wp_mono (h g' a w hr') fun e a' w' ⟨s2, g2, h1, h2, h3⟩ => ⟨s2, g2, h1, hs.trans h2, h3⟩

theorem wp_loop_rel {c : Code} {Q : Exit → Act → World → Prop} (R : Nat → Act → World → Prop) (round : ∀ n a w, R n a w → c.wp P (Exit.then (fun a' w' => ∃ m, m < n ∧ R m a' w') Q) a w) {n : Nat} {a : Act} {w : World} (h : R n a w) : (Code.loop c).wp P Q a w := by
  intro b k cs
  have key : ∀ n a w, R n a w → ∃ e a' w', Q e a' w' ∧ Arrives P (lone (b.at a (.code c :: .inLoop c :: k)) cs w) b k cs e a' w' := by
    intro n
    induction n using Nat.strongRecOn with
    | _ n ih =>
      intro a w hR
      obtain ⟨e, a₁, w₁, hq, harr⟩ := round n a w hR b (.inLoop c :: k) cs
      cases e with
      | normal =>
        obtain ⟨m, hlt, hR₁⟩ := hq
        obtain ⟨e₂, a₂, w₂, hq₂, harr₂⟩ := ih m hlt a₁ w₁ hR₁
        exact ⟨e₂, a₂, w₂, hq₂, .of_steps (Steps.trans harr (.one step_inLoop)) harr₂⟩
      | exit id => exact ⟨_, a₁, w₁, hq, .pass (x := .inLoop c) rfl (fun _ _ => .inl (by simp)) harr⟩
      | goto l => exact ⟨_, a₁, w₁, hq, .pass (x := .inLoop c) rfl (fun _ _ => .inl (by simp)) harr⟩
      | ret => exact ⟨_, a₁, w₁, hq, .pass (x := .inLoop c) rfl (fun _ _ => .inl (by simp)) harr⟩
      | panic ch => exact ⟨_, a₁, w₁, hq, .pass (x := .inLoop c) rfl (fun _ _ => .inl (by simp)) harr⟩
      | outgrown => exact ⟨_, a₁, w₁, hq, .pass (x := .inLoop c) rfl (fun _ _ => .inl (by simp)) harr⟩
  obtain ⟨e, a', w', hq, harr⟩ := key n a w h
  exact ⟨e, a', w', hq, .of_steps (.one step_loop) harr⟩

theorem awp_loop {c : Code} {β : Type} (I : β → St) (inv : β → Prop) (meas : β → Nat) (b0 : β) (h0 : Weak s (I b0)) (hi : inv b0)
    (round : ∀ b, inv b → AWp P c (seqQ (fun s' => ∃ b', inv b' ∧ meas b' < meas b ∧ Weak s' (I b')) Q) (I b)) : AWp P (.loop c) Q s := by
  refine awp_weak h0 ?_
  intro g a w hr
  refine wp_loop_rel (fun n a' w' => ∃ b g', inv b ∧ meas b = n ∧ RelS (I b) g' a' w' ∧ Step g w g' w') ?_ (n := meas b0) ⟨b0, g, hi, rfl, hr, Step.refl g w⟩
  rintro n a1 w1 ⟨b, g1, hb, rfl, hr1, hs1⟩
  refine wp_mono (round b hb g1 a1 w1 hr1) fun e a2 w2 ⟨s2, g2, h1, h2, h3⟩ => ?_
  cases e with
  | normal =>
    obtain ⟨b', k1, k2, k3⟩ := h3
    obtain ⟨g3, h4, h5⟩ := k3 g2 a2 w2 h1
    exact ⟨meas b', k2, b', g3, k1, rfl, h4, hs1.trans (h2.trans h5)⟩
  | _ => exact ⟨s2, g2, h1, hs1.trans h2, h3⟩

end
end Go.Abs
