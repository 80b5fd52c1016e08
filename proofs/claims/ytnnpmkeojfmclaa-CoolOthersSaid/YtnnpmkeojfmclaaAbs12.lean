/-
  The abstract machine, part 12: a region whose order is drawn: every order leaves what the text's order leaves, where the operations that meet the same memory are ordered.
-/
import Derived.Test.YtnnpmkeojfmclaaAbs11
set_option linter.unusedVariables false
set_option linter.unusedSimpArgs false
namespace Go.Abs
open Go.RowKit

/-! ### The last write counts -/
def stAt {V : Type} (W : Nat → Nat → Option V) (S : Nat → Bool) (s0 : Nat → V) (k : Nat) : Nat → V
  | 0 => s0 k
  | m + 1 => match (if S m then W m k else none) with | some v => v | none => stAt W S s0 k m

section
variable {V : Type} {W : Nat → Nat → Option V} {S S' : Nat → Bool} {s0 : Nat → V} {k : Nat}

theorem stAt_agree : ∀ {m : Nat}, (∀ i, i < m → W i k ≠ none → S i = S' i) → stAt W S s0 k m = stAt W S' s0 k m
  | 0, _ => rfl
  | m + 1, h => by
    simp only [stAt]
    rw [stAt_agree (m := m) fun i hi hw => h i (by omega) hw]
    cases hw : W m k with
    | none => simp
    | some v => rw [h m (by omega) (by rw [hw]; simp)]

theorem stAt_skip {j : Nat} : ∀ {m : Nat}, j ≤ m → (∀ i, j ≤ i → i < m → S i = true → W i k = none) → stAt W S s0 k m = stAt W S s0 k j
  | 0, hj, _ => by have : j = 0 := by omega
                   subst this; rfl
  | m + 1, hj, h => by
    by_cases e : j = m + 1
    · subst e; rfl
    · simp only [stAt]
      rw [stAt_skip (m := m) (by omega) fun i h1 h2 h3 => h i h1 (by omega) h3]
      cases hs : S m with
      | false => simp
      | true => rw [h m (by omega) (by omega) hs]; simp

theorem stAt_add {j : Nat} {v : V} (hw : W j k = some v) : ∀ {m : Nat}, j < m → (∀ i, j < i → i < m → S i = true → W i k = none) → stAt W (fun i => S i || i == j) s0 k m = v
  | 0, hj, _ => by omega
  | m + 1, hj, h => by
    simp only [stAt]
    by_cases e : m = j
    · subst e; simp [hw]
    · rw [stAt_add hw (m := m) (by omega) fun i h1 h2 h3 => h i h1 (by omega) h3]
      have : (m == j) = false := by simpa using e
      simp only [this, Bool.or_false]
      cases hs : S m with
      | false => simp
      | true => rw [h m (by omega) (by omega) hs]; simp

theorem stAt_add_none {j : Nat} (hw : W j k = none) : ∀ {m : Nat}, stAt W (fun i => S i || i == j) s0 k m = stAt W S s0 k m := by
  intro m
  refine stAt_agree fun i _ hn => ?_
  have : i ≠ j := fun e => hn (e ▸ hw)
  simp [this]

end

/-! ### Names that a value mentions -/
mutual
def ids : AV → List Nat
  | .hs id _ _ => [id]
  | .ptr id _ _ => [id]
  | .agg l => idsL l
  | .clo _ l => idsL l
  | .tup l => idsL l
  | .opt _ x => ids x
  | _ => []
def idsL : List AV → List Nat
  | [] => []
  | a :: as => ids a ++ idsL as
end

mutual
theorem snap_congr {hp hp' : Nat → Option Ob} : ∀ (x : AV), (∀ id ∈ ids x, hp id = hp' id) → snap hp x = snap hp' x
  | .any, _ => rfl
  | .opt _ _, _ => rfl
  | .ub _ _, _ => rfl
  | .nl, _ => rfl
  | .d _, _ => rfl
  | .hs id off len, h => by simp only [snap]; rw [h id (by simp [ids])]
  | .ptr id i j, h => by simp only [snap]; rw [h id (by simp [ids])]
  | .agg l, h => by simp only [snap]; rw [snaps_congr l (by simpa [ids] using h)]
  | .clo f l, h => by simp only [snap]; rw [snaps_congr l (by simpa [ids] using h)]
  | .tup l, h => by simp only [snap]; rw [snaps_congr l (by simpa [ids] using h)]
theorem snaps_congr {hp hp' : Nat → Option Ob} : ∀ (x : List AV), (∀ id ∈ idsL x, hp id = hp' id) → snaps hp x = snaps hp' x
  | [], _ => rfl
  | a :: as, h => by
    simp only [snaps]
    rw [snap_congr a fun id hi => h id (by simp [idsL, hi]), snaps_congr as fun id hi => h id (by simp [idsL, hi])]
end

theorem eff_congr {ty : TypeId → Option TI} {P : Program} {orc : Option Res} {op : Op} {hp hp' : Nat → Option Ob} {nid : Nat} {args : List AV} (h : ∀ id ∈ idsL args, hp id = hp' id) : eff ty P orc op hp nid args = eff ty P orc op hp' nid args := by
  have one : ∀ (x : AV) (r : List AV), args = x :: r → ∀ id ∈ ids x, hp id = hp' id := fun x r e id hi => h id (by rw [e]; simp [idsL, hi])
  have two : ∀ (x y : AV) (r : List AV), args = x :: y :: r → ∀ id ∈ ids y, hp id = hp' id := fun x y r e id hi => h id (by rw [e]; simp [idsL, hi])
  unfold eff
  split <;> try rfl
  · unfold effLoad
    split
    · rw [one _ _ rfl _ (by simp [ids])]
    · rfl
    · rfl
  · unfold effStore
    split
    · rw [one _ _ rfl _ (by simp [ids])]
    · rfl
  · unfold effBin
    split
    · rename_i x0
      have hx := one _ _ rfl
      have : isNil hp x0 = isNil hp' x0 := by
        unfold isNil
        split
        · rfl
        · rfl
        · rw [hx _ (by simp [ids])]
        · rfl
      rw [this]
    all_goals rfl
  · unfold effFieldAddr
    split
    · rw [one _ _ rfl _ (by simp [ids])]
    · rfl
    · rfl
  · unfold effIndexAddr
    split
    · rw [one _ _ rfl _ (by simp [ids])]
    · rfl
    · rw [one _ _ rfl _ (by simp [ids])]
    · rfl
    · rfl
  · split
    · rfl
    · unfold effSlice
      split
      · rename_i x rest
        have hx := one _ _ rfl
        cases x with
        | hs id off len => simp only [hx id (by simp [ids])]
        | d y => cases y <;> rfl
        | _ => rfl
      · rfl
  · unfold effBuiltin
    split
    · rename_i t x _
      have hx := one _ _ rfl
      have h1 : ∀ k, lenA hp k x = lenA hp' k x := fun k => by
        unfold lenA
        split <;> first | rfl | simp only [hx _ (by simp [ids]; rfl)] | (rw [hx _ (by simp [ids])])
      simp only [h1]
    · rename_i t t' s x _
      have hs := one _ _ rfl
      have hx := two _ _ _ rfl
      have h1 : ∀ e m, dstRows hp e m s = dstRows hp' e m s := fun e m => by
        unfold dstRows
        split
        · rfl
        · rw [hs _ (by simp [ids])]
        · rfl
      have h2 : ∀ m, srcRows hp m x = srcRows hp' m x := fun m => by
        unfold srcRows
        split
        · rfl
        · rfl
        · rw [hx _ (by simp [ids])]
        · rfl
      simp only [h1, h2]
    · rfl
    · rfl
    · rfl
  · unfold effCall
    split
    · rename_i fv as
      rw [snap_congr fv (one _ _ rfl), snaps_congr as fun id hi => h id (by simp [idsL, hi])]
    · rfl

/-! ### What comes before what -/
inductive Anc (ops : Array Oper) : Nat → Nat → Prop where
  | edge {j : Nat} {o : Oper} {e : Edge} (h : ops[j]? = some o) (he : e ∈ o.after) (hb : Region.binds .any e = true) : Anc ops e.on j
  | step {i j : Nat} {o : Oper} {e : Edge} (h : ops[j]? = some o) (he : e ∈ o.after) (hb : Region.binds .any e = true) (ha : Anc ops i e.on) : Anc ops i j

def Closed (ops : Array Oper) (L : Nat → Prop) : Prop := ∀ j o, ops[j]? = some o → L j → ∀ e ∈ o.after, Region.binds .any e = true → L e.on

theorem Anc.closed {ops : Array Oper} {L : Nat → Prop} (hL : Closed ops L) {i j : Nat} (h : Anc ops i j) : L j → L i := by
  induction h with
  | edge h he hb => exact fun hj => hL _ _ h hj _ he hb
  | step h he hb _ ih => exact fun hj => ih (hL _ _ h hj _ he hb)

theorem Anc.ready {ops : Array Oper} {L : Nat → Prop} (hL : Closed ops L) {i j : Nat} (h : Anc ops i j) (hr : ∀ o, ops[j]? = some o → ∀ e ∈ o.after, Region.binds .any e = true → L e.on) : L i := by
  cases h with
  | edge h he hb => exact hr _ h _ he hb
  | step h he hb ha => exact ha.closed hL (hr _ h _ he hb)

def maskOf (acc : Array Nat) (o : Oper) : Nat := o.after.foldl (fun s e => if Region.binds .any e then s ||| 2 ^ e.on ||| acc.getD e.on 0 else s) 0

theorem mask_spec (acc : Array Nat) (i : Nat) : ∀ (es : List Edge) (s : Nat), (es.foldl (fun s e => if Region.binds .any e then s ||| 2 ^ e.on ||| acc.getD e.on 0 else s) s).testBit i = true →
    s.testBit i = true ∨ ∃ e ∈ es, Region.binds .any e = true ∧ (e.on = i ∨ (acc.getD e.on 0).testBit i = true)
  | [], s, h => .inl h
  | e :: es, s, h => by
    rw [List.foldl_cons] at h
    rcases mask_spec acc i es _ h with h1 | ⟨e', he', hb, hh⟩
    · split at h1
      · rename_i hb
        simp only [Nat.testBit_or, Bool.or_eq_true] at h1
        rcases h1 with (h1 | h1) | h1
        · exact .inl h1
        · rw [Nat.testBit_two_pow] at h1
          exact .inr ⟨e, List.mem_cons_self, hb, .inl (by simpa using h1)⟩
        · exact .inr ⟨e, List.mem_cons_self, hb, .inr h1⟩
      · exact .inl h1
    · exact .inr ⟨e', List.mem_cons_of_mem _ he', hb, hh⟩

theorem before_spec (ops : Array Oper) : ∀ (l : List Oper) (acc : Array Nat), (∀ k, l[k]? = ops[acc.size + k]?) → (∀ j i, (acc.getD j 0).testBit i = true → Anc ops i j) →
    ∀ j i, ((l.foldl (fun acc o => acc.push (maskOf acc o)) acc).getD j 0).testBit i = true → Anc ops i j
  | [], acc, _, hacc, j, i, h => hacc j i h
  | o :: l, acc, hl, hacc, j, i, h => by
    rw [List.foldl_cons] at h
    refine before_spec ops l (acc.push (maskOf acc o)) (fun k => by have := hl (k + 1); simpa [Nat.add_assoc, Nat.add_comm 1 k] using this) ?_ j i h
    intro j i hj
    by_cases e : j = acc.size
    · subst e
      have ho : ops[acc.size]? = some o := by simpa using (hl 0).symm
      simp only [Array.getD_eq_getD_getElem?, Array.getElem?_push_size, Option.getD_some] at hj
      have hm := mask_spec acc i o.after.toList 0 (by rw [Array.foldl_toList]; exact hj)
      rcases hm with h0 | ⟨ed, he, hb, hh⟩
      · simp at h0
      · rcases hh with rfl | hh
        · exact .edge ho (by simpa using he) hb
        · exact .step ho (by simpa using he) hb (hacc _ _ hh)
    · refine hacc j i ?_
      simp only [Array.getD_eq_getD_getElem?, Array.getElem?_push, if_neg e] at hj ⊢
      exact hj

theorem before_anc {ops : Array Oper} {i j : Nat} (h : ((Region.before ops).getD j 0).testBit i = true) : Anc ops i j := by
  refine before_spec ops ops.toList #[] (fun k => by simp) (fun j i h => by simp at h) j i ?_
  rw [Array.foldl_toList]
  exact h

/-- All that the kernel looks at in a region: what reads or writes a temporary is ordered with what writes it; the listed pairs are ordered; edges lead back. -/
def regOk (ops : Array Oper) (cf : List (Nat × Nat)) : Bool :=
  let b := Region.before ops
  let ord (i j : Nat) : Bool := if i < j then (b.getD j 0).testBit i else (b.getD i 0).testBit j
  (List.range ops.size).all (fun j => match ops[j]? with
    | some oj => oj.after.all (fun e => !Region.binds .any e || decide (e.on < j)) &&
      (List.range ops.size).all (fun i => i == j || (match ops[i]? with
        | some oi => (match oi.dst with
          | some d => if (oj.looksAt ops).contains d || oj.dst == some d then ord i j else true
          | none => true)
        | none => true))
    | none => true) &&
  cf.all fun p => (b.getD p.2 0).testBit p.1

theorem regOk_temp {ops : Array Oper} {cf : List (Nat × Nat)} (h : regOk ops cf = true) {i j : Nat} {oi oj : Oper} {d : Tmp} (hi : ops[i]? = some oi) (hj : ops[j]? = some oj) (hne : i ≠ j) (hd : oi.dst = some d) (hl : d ∈ oj.looksAt ops ∨ oj.dst = some d) :
    (i < j → Anc ops i j) ∧ (j < i → Anc ops j i) := by
  simp only [regOk, Bool.and_eq_true] at h
  have h1 := List.all_eq_true.1 h.1 j (List.mem_range.2 (Array.getElem?_eq_some_iff.1 hj).1)
  simp only [hj, Bool.and_eq_true] at h1
  have h2 := List.all_eq_true.1 h1.2 i (List.mem_range.2 (Array.getElem?_eq_some_iff.1 hi).1)
  have hij : (i == j) = false := by simpa using hne
  simp only [hij, Bool.false_or, hi, hd] at h2
  have hc : ((oj.looksAt ops).contains d || oj.dst == some d) = true := by
    rcases hl with hl | hl
    · simp [hl]
    · simp [hl]
  rw [if_pos hc] at h2
  refine ⟨fun hlt => ?_, fun hlt => ?_⟩
  · rw [if_pos hlt] at h2; exact before_anc h2
  · rw [if_neg (by omega)] at h2; exact before_anc h2

theorem regOk_pair {ops : Array Oper} {cf : List (Nat × Nat)} (h : regOk ops cf = true) {i j : Nat} (hp : (i, j) ∈ cf) : Anc ops i j := by
  simp only [regOk, Bool.and_eq_true] at h
  exact before_anc (List.all_eq_true.1 h.2 _ hp)

theorem regOk_edge {ops : Array Oper} {cf : List (Nat × Nat)} (h : regOk ops cf = true) {j : Nat} {o : Oper} (hj : ops[j]? = some o) {e : Edge} (he : e ∈ o.after) (hb : Region.binds .any e = true) : e.on < j := by
  simp only [regOk, Bool.and_eq_true] at h
  have h1 := List.all_eq_true.1 h.1 j (List.mem_range.2 (Array.getElem?_eq_some_iff.1 hj).1)
  simp only [hj, Bool.and_eq_true] at h1
  have h2 := Array.all_eq_true'.1 h1.1 e he
  simpa [hb] using h2


/-! ### The trace of a region in the text's order -/
def evalG (get : Nat → AV) : Operand → AV
  | .tmp t => get t
  | .const v => cav v
  | .global _ => .any
  | .func f => .d (.fn (.func f) [])

def argsG (get : Nat → AV) (o : Oper) : List AV := o.op.operands.toList.map (evalG get)

/-- What an operation is handed: a guarded one's values are there when it is carried out. -/
def argsE (o : Oper) (x : List AV) : List AV := match o.guard with | none => x | some _ => stripG o.op x

section
variable (l : List Oper) (E : Nat → Option Eff × AV) (g0 : Nat → AV) (o0 : Nat → Option Ob)

def dstOf (i : Nat) : Option Tmp := (l[i]?).bind fun o => o.dst
def Wt (i t : Nat) : Option AV := if dstOf l i = some t then some (E i).2 else none
def Wo (i id : Nat) : Option (Option Ob) := (E i).1.bind fun e => find (pushL [] e.wr) id
def getT (j t : Nat) : AV := stAt (Wt l E) (fun _ => true) g0 t j
def objT (j id : Nat) : Option Ob := stAt (Wo E) (fun _ => true) o0 id j
def getS (S : Nat → Bool) (t : Nat) : AV := stAt (Wt l E) S g0 t l.length
def objS (S : Nat → Bool) (id : Nat) : Option Ob := stAt (Wo E) S o0 id l.length
def touch (j : Nat) : List Nat := match l[j]? with | some o => idsL (argsG (getT l E g0 j) o) | none => []
def keys (j : Nat) : List Nat := match (E j).1 with | some e => e.wr.map (·.1) | none => []
end

theorem ids_strip (x : AV) : ids (strip x) = ids x := by cases x <;> simp [strip, ids]
theorem idsL_strip : ∀ l : List AV, idsL (l.map strip) = idsL l
  | [] => rfl
  | x :: l => by simp only [List.map_cons, idsL, ids_strip, idsL_strip l]
theorem idsL_stripG (op : Op) (l : List AV) : idsL (stripG op l) = idsL l := by
  cases op
  case pick =>
    cases l with
    | nil => rfl
    | cons c r => simp [stripG, idsL, ids_strip]
  all_goals exact idsL_strip l
theorem idsL_argsE (o : Oper) (l : List AV) : idsL (argsE o l) = idsL l := by
  unfold argsE
  split
  · rfl
  · exact idsL_stripG _ l

theorem find_pushL' (id : Nat) : ∀ (wr hp : List (Nat × Option Ob)), find (pushL hp wr) id = (find (pushL [] wr) id).or (find hp id)
  | [], hp => by simp [pushL, find]
  | (i, o) :: r, hp => by
    simp only [pushL]
    rw [find_pushL' id r ((i, o) :: hp), find_pushL' id r [(i, o)]]
    simp only [find]
    cases find (pushL [] r) id with
    | some v => simp
    | none => by_cases e : i = id <;> simp [e]

theorem updL_find (obj : Nat → Option Ob) (id : Nat) : ∀ (wr : List (Nat × Option Ob)), updL obj wr id = (find (pushL [] wr) id).getD (obj id)
  | [] => by simp [updL, pushL, find]
  | (i, o) :: r => by
    simp only [updL, pushL]
    rw [updL_find (upd1 obj i o) id r, find_pushL' id r [(i, o)]]
    simp only [find, upd1]
    cases find (pushL [] r) id with
    | some v => simp
    | none =>
      by_cases e : i = id
      · subst e; simp
      · simp [e, Ne.symm e]

theorem find_keys {id : Nat} : ∀ {wr : List (Nat × Option Ob)} {v : Option Ob}, find (pushL [] wr) id = some v → id ∈ wr.map (·.1)
  | [], v, h => by simp [pushL, find] at h
  | (i, o) :: r, v, h => by
    simp only [pushL] at h
    rw [find_pushL' id r [(i, o)]] at h
    cases hf : find (pushL [] r) id with
    | some u => exact List.mem_cons_of_mem _ (find_keys hf)
    | none =>
      rw [hf] at h
      simp only [Option.none_or, find] at h
      split at h
      · rename_i e; simp [e]
      · cases h

def conflB (t' k' t k : List Nat) : Bool := k'.any (fun x => t.contains x || k.contains x) || k.any (fun x => t'.contains x)

/-- What a guard says of the value it looks at. -/
def guardV (v : AV) (want : Bool) : Option Bool :=
  match v with
  | .d (.bool b) => some (b == want)
  | .opt g (.d (.bool b)) => some (g && (b == want))
  | _ => none

/-- What the text's order has shown of operation j. -/
structure Fact (ty : TypeId → Option TI) (P : Program) (orc : List (Nat × Res)) (l : List Oper) (E : Nat → Option Eff × AV) (g0 : Nat → AV) (o0 : Nat → Option Ob) (n base : Nat) (j : Nat) (o : Oper) : Prop where
  dst : ∀ d, o.dst = some d → d < n
  guard : match o.guard with
    | none => (E j).1.isSome = true
    | some (q, want) => ∃ t, dstOf l q = some t ∧ guardV (getT l E g0 j t) want = some (E j).1.isSome
  eff : ∀ e, (E j).1 = some e → Abs.eff ty P (find orc j) o.op (objT E o0 j) (base + j) (argsE o (argsG (getT l E g0 j) o)) = some e ∧ e.ob ∧ (o.guard ≠ none → stripOkG o.op (argsG (getT l E g0 j) o)) ∧ ∀ g w v, RepA g w e.val v → RepA g w (E j).2 v
  skip : (E j).1 = none → ∀ g w, RepA g w (E j).2 undef

section
variable {P : Program} {ty : TypeId → Option TI} {orc : List (Nat × Res)} {l : List Oper} {E : Nat → Option Eff × AV} {g0 : Nat → AV} {o0 : Nat → Option Ob} {n base : Nat} {cf : List (Nat × Nat)}

theorem mem_conflB {t' k' t k : List Nat} {x : Nat} (h : (x ∈ k' ∧ (x ∈ t ∨ x ∈ k)) ∨ (x ∈ k ∧ x ∈ t')) : conflB t' k' t k = true := by
  simp only [conflB, Bool.or_eq_true, List.any_eq_true]
  rcases h with ⟨h1, h2⟩ | ⟨h1, h2⟩
  · exact .inl ⟨x, h1, by simpa using h2⟩
  · exact .inr ⟨x, h1, by simpa using h2⟩

/-- Operations that meet one object are ordered. -/
theorem obj_ord (hreg : regOk l.toArray cf = true) (hcf : ∀ i j, i < j → j < l.length → conflB (touch l E g0 i) (keys E i) (touch l E g0 j) (keys E j) = true → (i, j) ∈ cf) {i j id : Nat} (hi : i < l.length) (hj : j < l.length) (hne : i ≠ j)
    (hw : Wo E i id ≠ none) (ht : id ∈ touch l E g0 j ∨ Wo E j id ≠ none) : (i < j → Anc l.toArray i j) ∧ (j < i → Anc l.toArray j i) := by
  have key : ∀ k, Wo E k id ≠ none → id ∈ keys E k := by
    intro k hk
    unfold Wo at hk
    unfold keys
    cases hE : (E k).1 with
    | none => rw [hE] at hk; simp at hk
    | some e =>
      rw [hE] at hk
      simp only [Option.bind_some] at hk
      obtain ⟨v, hv⟩ := Option.ne_none_iff_exists'.1 hk
      exact find_keys hv
  refine ⟨fun hlt => regOk_pair hreg (hcf i j hlt hj ?_), fun hlt => regOk_pair hreg (hcf j i hlt hi ?_)⟩
  · exact mem_conflB (x := id) (.inl ⟨key i hw, ht.imp (fun h => h) (key j)⟩)
  · rcases ht with ht | ht
    · exact mem_conflB (x := id) (.inr ⟨key i hw, ht⟩)
    · exact mem_conflB (x := id) (.inl ⟨key j ht, .inr (key i hw)⟩)

/-- One operation that is ready, anywhere in the schedule. -/
theorem any_step (hc : Ctx P ty) (hreg : regOk l.toArray cf = true) (hcf : ∀ i j, i < j → j < l.length → conflB (touch l E g0 i) (keys E i) (touch l E g0 j) (keys E j) = true → (i, j) ∈ cf)
    (hfact : ∀ j o, l[j]? = some o → Fact ty P orc l E g0 o0 n base j o) {S : Nat → Bool} (hS : Closed l.toArray (fun i => S i = true)) {j : Nat} {o : Oper} (hj : l[j]? = some o) (hSj : S j = false) (hready : ∀ e ∈ o.after, Region.binds .any e = true → S e.on = true)
    {g : G} {a : Act} {w : World} (hrel : Rel (fun k => k < base ∨ ∃ i, i < l.length ∧ S i = true ∧ k = base + i) g (getS l E g0 S) (objS l E o0 S) n a w) {K : Act → World → Prop} {Q : Exit → Act → World → Prop}
    (hK : ∀ g' a' w', Rel (fun k => k < base ∨ ∃ i, i < l.length ∧ (S i || i == j) = true ∧ k = base + i) g' (getS l E g0 fun i => S i || i == j) (objS l E o0 fun i => S i || i == j) n a' w' → Step g w g' w' → K a' w') : wpOp P l.toArray Q j K a w := by
  have hjl : j < l.length := (List.getElem?_eq_some_iff.1 hj).1
  have hja : l.toArray[j]? = some o := by simpa using hj
  have pre : ∀ i, Anc l.toArray i j → S i = true := fun i hi => hi.ready hS fun o' ho' e he hb => by rw [hja] at ho'; cases ho'; exact hready e he hb
  have post : ∀ i, Anc l.toArray j i → S i = false := fun i hi => by
    cases hs : S i with
    | false => rfl
    | true => have := hi.closed hS hs; rw [hSj] at this; cases this
  have wt_ord : ∀ i t, i ≠ j → Wt l E i t ≠ none → (t ∈ o.looksAt l.toArray ∨ o.dst = some t) → (i < j → S i = true) ∧ (j < i → S i = false) := by
    intro i t hne hw ht
    unfold Wt at hw
    split at hw
    · rename_i hd
      unfold dstOf at hd
      cases hli : l[i]? with
      | none => rw [hli] at hd; cases hd
      | some oi =>
        rw [hli] at hd
        obtain ⟨h1, h2⟩ := regOk_temp hreg (by simpa using hli) hja hne hd ht
        exact ⟨fun hlt => pre i (h1 hlt), fun hlt => post i (h2 hlt)⟩
    · exact absurd rfl hw
  have hget : ∀ t, t ∈ o.looksAt l.toArray → getS l E g0 S t = getT l E g0 j t := by
    intro t ht
    unfold getS getT
    rw [stAt_skip (j := j) (Nat.le_of_lt hjl)]
    · exact stAt_agree fun i hi hw => (wt_ord i t (by omega) hw (.inl ht)).1 hi
    · intro i h1 h2 h3
      by_cases e : i = j
      · subst e; rw [hSj] at h3; cases h3
      · cases hw : Wt l E i t with
        | none => rfl
        | some v =>
          have := (wt_ord i t e (by rw [hw]; simp) (.inl ht)).2 (by omega)
          rw [this] at h3; cases h3
  have hobj_ord : ∀ i id, i < l.length → i ≠ j → Wo E i id ≠ none → (id ∈ touch l E g0 j ∨ Wo E j id ≠ none) → (i < j → S i = true) ∧ (j < i → S i = false) := by
    intro i id hi hne hw ht
    obtain ⟨h1, h2⟩ := obj_ord hreg hcf hi hjl hne hw ht
    exact ⟨fun hlt => pre i (h1 hlt), fun hlt => post i (h2 hlt)⟩
  have hobj : ∀ id, id ∈ touch l E g0 j → objS l E o0 S id = objT E o0 j id := by
    intro id ht
    unfold objS objT
    rw [stAt_skip (j := j) (Nat.le_of_lt hjl)]
    · exact stAt_agree fun i hi hw => (hobj_ord i id (by omega) (by omega) hw (.inl ht)).1 hi
    · intro i h1 h2 h3
      by_cases e : i = j
      · subst e; rw [hSj] at h3; cases h3
      · cases hw : Wo E i id with
        | none => rfl
        | some v =>
          have := (hobj_ord i id h2 e (by rw [hw]; simp) (.inl ht)).2 (by omega)
          rw [this] at h3; cases h3
  have hgS : ∀ t, putG (getS l E g0 S) o.dst (E j).2 t = getS l E g0 (fun i => S i || i == j) t := by
    intro t
    have hdj : dstOf l j = o.dst := by simp [dstOf, hj]
    unfold putG getS
    by_cases hd : o.dst = some t
    · rw [if_pos hd]
      have hw : Wt l E j t = some (E j).2 := by unfold Wt; rw [hdj, if_pos hd]
      rw [stAt_add hw hjl]
      intro i h1 h2 h3
      cases hwi : Wt l E i t with
      | none => rfl
      | some v =>
        have := (wt_ord i t (by omega) (by rw [hwi]; simp) (.inr hd)).2 h1
        rw [this] at h3; cases h3
    · rw [if_neg hd]
      have hw : Wt l E j t = none := by unfold Wt; rw [hdj, if_neg hd]
      rw [stAt_add_none hw]
  have hoS : ∀ id, (match (E j).1 with | some e => updL (objS l E o0 S) e.wr id | none => objS l E o0 S id) = objS l E o0 (fun i => S i || i == j) id := by
    intro id
    unfold objS
    cases hw : Wo E j id with
    | none =>
      rw [stAt_add_none hw]
      unfold Wo at hw
      cases hE : (E j).1 with
      | none => rfl
      | some e =>
        rw [hE] at hw
        simp only [Option.bind_some] at hw
        simp only [updL_find, hw, Option.getD_none]
    | some v =>
      rw [stAt_add hw hjl]
      · unfold Wo at hw
        cases hE : (E j).1 with
        | none => rw [hE] at hw; simp at hw
        | some e =>
          rw [hE] at hw
          simp only [Option.bind_some] at hw
          simp only [updL_find, hw, Option.getD_some]
      · intro i h1 h2 h3
        cases hwi : Wo E i id with
        | none => rfl
        | some u =>
          have := (hobj_ord i id h2 (by omega) (by rw [hwi]; simp) (.inr (by rw [hw]; simp))).2 h1
          rw [this] at h3; cases h3
  have hf := hfact j o hj
  unfold wpOp
  rw [hja]
  simp only
  have hwanted : Region.wanted o (yielded l.toArray a.tmps) = (E j).1.isSome := by
    have hg := hf.guard
    unfold Region.wanted
    cases hgd : o.guard with
    | none => rw [hgd] at hg; simp only at hg ⊢; rw [hg]
    | some qw =>
      obtain ⟨q, want⟩ := qw
      rw [hgd] at hg
      obtain ⟨t, h1, h2⟩ := hg
      simp only
      have hlook : t ∈ o.looksAt l.toArray := by
        unfold Oper.looksAt
        rw [hgd]
        unfold dstOf at h1
        simp only [List.mem_append, List.getElem?_toArray]
        right
        simp [h1]
      have hval := hrel.tmp t
      rw [hget t hlook] at hval
      have hdst : (l.toArray[q]?).bind (fun o => o.dst) = some t := by unfold dstOf at h1; simpa using h1
      have isb : ∀ b, a.tmps.getD t undef = .bool b → yielded l.toArray a.tmps q = some b := by
        intro b hb
        have hlt : t < a.tmps.size := by
          rcases Nat.lt_or_ge t a.tmps.size with hlt | hge
          · exact hlt
          · simp [Array.getElem?_eq_none hge, undef] at hb
        have : a.tmps[t]? = some (.bool b) := by
          simp [hlt] at hb
          simp [hlt, hb]
        simp only [yielded, hdst, Option.bind_some, this]
      have isu : a.tmps.getD t undef = undef → yielded l.toArray a.tmps q = none := by
        intro hb
        rcases Nat.lt_or_ge t a.tmps.size with hlt | hge
        · have : a.tmps[t]? = some undef := by
            simp [hlt] at hb
            simp [hlt, hb]
          simp only [yielded, hdst, Option.bind_some, this, undef]
        · simp only [yielded, hdst, Option.bind_some, Array.getElem?_eq_none hge]
      unfold guardV at h2
      split at h2
      · rename_i b hb
        simp only [Option.some.injEq] at h2
        rw [hb] at hval
        simp only [RepA, RepD] at hval
        rw [isb b hval, ← h2]
        cases b <;> cases want <;> rfl
      · rename_i gq b hb
        simp only [Option.some.injEq] at h2
        rw [hb] at hval
        simp only [RepA, RepD] at hval
        cases gq with
        | true =>
          rw [isb b (hval.1 rfl), ← h2]
          cases b <;> cases want <;> rfl
        | false =>
          rw [isu (hval.2 rfl), ← h2]
          cases want <;> rfl
      · cases h2
  rw [hwanted]
  cases hE : (E j).1 with
  | none =>
    simp only [Option.isSome_none, Bool.false_eq_true, if_false]
    refine hK g _ w ?_ (Step.refl g w)
    have hr := rel_put (U' := fun k => k < base ∨ ∃ i, i < l.length ∧ (S i || i == j) = true ∧ k = base + i) (dst := o.dst) (v := (E j).2) (u := undef) hrel hrel.heap ⟨fun b hb => ⟨hb, rfl⟩, fun _ hx => hx, fun _ _ => .inl rfl⟩
      (fun k hk => (hrel.used k hk).imp (fun h => h) fun ⟨i, h1, h2, h3⟩ => ⟨i, h1, by simp [h2], h3⟩) (hf.skip hE g w) hf.dst
    exact hr.congr (fun t => (hgS t).symm) (fun id => by have := hoS id; rw [hE] at this; exact this.symm)
  | some e =>
    simp only [Option.isSome_some, if_true]
    left
    obtain ⟨heff, hob, hso, hval⟩ := hf.eff e hE
    have htouch : touch l E g0 j = idsL (argsG (getT l E g0 j) o) := by unfold touch; rw [hj]
    have hargs_eq : argsG (getS l E g0 S) o = argsG (getT l E g0 j) o := by
      unfold argsG
      refine List.map_congr_left fun x hx => ?_
      cases x with
      | tmp t =>
        simp only [evalG]
        refine hget t ?_
        unfold Oper.looksAt
        refine List.mem_append_left _ (List.mem_filterMap.2 ⟨.tmp t, hx, rfl⟩)
      | _ => rfl
    have heff' : Abs.eff ty P (find orc j) o.op (objS l E o0 S) (base + j) (argsE o (argsG (getS l E g0 S) o)) = some e := by
      rw [hargs_eq, ← heff]
      exact eff_congr fun id hid => hobj id (by rw [htouch]; rw [idsL_argsE] at hid; exact hid)
    have hreps : RepAs g w (argsG (getS l E g0 S) o) (o.op.operands.toList.map a.eval) := by
      refine RepAs.of_get (by simp [argsG]) fun k av hk => ?_
      unfold argsG at hk
      rw [List.getElem?_map] at hk ⊢
      cases hx : o.op.operands.toList[k]? with
      | none => rw [hx] at hk; cases hk
      | some x =>
        rw [hx] at hk
        cases hk
        refine ⟨a.eval x, rfl, ?_⟩
        cases x with
        | tmp t => simp only [evalG]; exact hrel.tmp t
        | const v => exact cav_rep g w v
        | global i => simp [evalG, RepA]
        | func f => simp only [evalG, RepA, RepD, Act.eval]; exact ⟨[], rfl, by simp [RepDs]⟩
    refine op_step hc (nid := base + j) hrel ?_ (args := argsE o (argsG (getS l E g0 S) o)) ?_ heff' hob hf.dst fun g' a' w' hr hst => hK g' a' w' ?_ hst
    · rintro (h | ⟨i, h1, h2, h3⟩)
      · omega
      · have : i = j := by omega
        subst this
        rw [hSj] at h2; cases h2
    · unfold argsE
      cases hgd : o.guard with
      | none => exact hreps
      | some _ => exact strips_repG hreps (by rw [hargs_eq]; exact hso (by rw [hgd]; simp))
    · have hr' : Rel (fun k => (k < base ∨ ∃ i, i < l.length ∧ S i = true ∧ k = base + i) ∨ k = base + j) g' (putG (getS l E g0 S) o.dst (E j).2) (updL (objS l E o0 S) e.wr) n a' w' := by
        refine ⟨hr.defers, hr.size, fun t => ?_, hr.used, hr.heap⟩
        have := hr.tmp t
        unfold putG at this ⊢
        split
        · rename_i e'
          rw [if_pos e'] at this
          exact hval _ _ _ this
        · rename_i e'
          rw [if_neg e'] at this
          exact this
      have h1 := hr'.congr (get' := getS l E g0 fun i => S i || i == j) (obj' := objS l E o0 fun i => S i || i == j) (fun t => (hgS t).symm) (fun id => by have := hoS id; rw [hE] at this; exact this.symm)
      refine ⟨h1.defers, h1.size, h1.tmp, fun k hk => ?_, h1.heap⟩
      rcases h1.used k hk with (h | ⟨i, q1, q2, q3⟩) | h
      · exact .inl h
      · exact .inr ⟨i, q1, by simp [q2], q3⟩
      · exact .inr ⟨j, hjl, by simp, h⟩

end
end Go.Abs
