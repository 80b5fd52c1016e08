/-
  The abstract machine, part 12: a region whose order is drawn: every order leaves what the text's order leaves, where the operations that meet the same memory are ordered.
-/
import Derived.Test.YtmfkfgonedgjnaaAbs11
set_option linter.unusedVariables false
set_option linter.unusedSimpArgs false
namespace Go.Abs
open Go.RowKit

/-! ### The last write counts -/
def stAt {V : Type} (W : Nat → Nat → Option V) (S : Nat → Bool) (s0 : Nat → V) (k : Nat) : Nat → V
  | 0 => s0 k
  | m + 1 => match (if S m then W m k else none) with | some v => v | none => stAt W S s0 k m

section
variable {V : Type} {W : Nat → Nat → Option V} {S S' : Nat → Bool} {s0 : Nat → V} {k : Nat}

theorem stAt_agree : ∀ {m : Nat}, (∀ i, i < m → W i k ≠ none → S i = S' i) → stAt W S s0 k m = stAt W S' s0 k m
  | 0, _ => rfl
  | m + 1, h => by
    simp only [stAt]
    rw [stAt_agree (m := m) fun i hi hw => h i (by omega) hw]
    cases hw : W m k with
    | none => simp
    | some v => rw [h m (by omega) (by rw [hw]; simp)]

theorem stAt_skip {j : Nat} : ∀ {m : Nat}, j ≤ m → (∀ i, j ≤ i → i < m → S i = true → W i k = none) → stAt W S s0 k m = stAt W S s0 k j
  | 0, hj, _ => by have : j = 0 := by omega
                   subst this; rfl
  | m + 1, hj, h => by
    by_cases e : j = m + 1
    · subst e; rfl
    · simp only [stAt]
      rw [stAt_skip (m := m) (by omega) fun i h1 h2 h3 => h i h1 (by omega) h3]
      cases hs : S m with
      | false => simp
      | true => rw [h m (by omega) (by omega) hs]; simp

theorem stAt_add {j : Nat} {v : V} (hw : W j k = some v) : ∀ {m : Nat}, j < m → (∀ i, j < i → i < m → S i = true → W i k = none) → stAt W (fun i => S i || i == j) s0 k m = v
  | 0, hj, _ => by omega
  | m + 1, hj, h => by
    simp only [stAt]
    by_cases e : m = j
    · subst e; simp [hw]
    · rw [stAt_add hw (m := m) (by omega) fun i h1 h2 h3 => h i h1 (by omega) h3]
      have : (m == j) = false := by simpa using e
      simp only [this, Bool.or_false]
      cases hs : S m with
      | false => simp
      | true => rw [h m (by omega) (by omega) hs]; simp

theorem stAt_add_none {j : Nat} (hw : W j k = none) : ∀ {m : Nat}, stAt W (fun i => S i || i == j) s0 k m = stAt W S s0 k m := by
  intro m
  refine stAt_agree fun i _ hn => ?_
  have : i ≠ j := fun e => hn (e ▸ hw)
  simp [this]

end

/-! ### Names that a value mentions -/
mutual
def ids : AV → List Nat
  | .hs id _ _ => [id]
  | .ptr id _ _ => [id]
  | .agg l => idsL l
  | .clo _ l => idsL l
  | .tup l => idsL l
  | .opt _ x => ids x
  | _ => []
def idsL : List AV → List Nat
  | [] => []
  | a :: as => ids a ++ idsL as
end

mutual
theorem snap_congr {hp hp' : Nat → Option Ob} : ∀ (x : AV), (∀ id ∈ ids x, hp id = hp' id) → snap hp x = snap hp' x
  | .any, _ => rfl
  | .opt _ _, _ => rfl
  | .ub _ _, _ => rfl
  | .pin _ _, _ => rfl
  | .nl, _ => rfl
  | .d _, _ => rfl
  | .hs id off len, h => by simp only [snap]; rw [h id (by simp [ids])]
  | .ptr id i j, h => by simp only [snap]; rw [h id (by simp [ids])]
  | .agg l, h => by simp only [snap]; rw [snaps_congr l (by simpa [ids] using h)]
  | .clo f l, h => by simp only [snap]; rw [snaps_congr l (by simpa [ids] using h)]
  | .tup l, h => by simp only [snap]; rw [snaps_congr l (by simpa [ids] using h)]
theorem snaps_congr {hp hp' : Nat → Option Ob} : ∀ (x : List AV), (∀ id ∈ idsL x, hp id = hp' id) → snaps hp x = snaps hp' x
  | [], _ => rfl
  | a :: as, h => by
    simp only [snaps]
    rw [snap_congr a fun id hi => h id (by simp [idsL, hi]), snaps_congr as fun id hi => h id (by simp [idsL, hi])]
end

/-- What a call is handed besides its operands. -/
def orcIds : Option Res → List Nat
  | some (.x c) => c.σ.map (·.2)
  | _ => []
/-- Operations that look at no more than the shape of an object. -/
def softOp : Op → Bool
  | .indexAddr _ _ _ => true
  | .fieldAddr _ _ _ => true
  | .nilCheck _ => true
  | .call c => match c.callee with | .builtin .len => true | _ => false
  | _ => false
/-- Operations that look at no object. -/
def bareOp : Op → Bool
  | .move _ => true
  | .assign _ => true
  | .pick _ _ _ => true
  | .box _ _ => true
  | .build _ _ => true
  | .buildSlice _ _ _ => true
  | .makeFunc _ _ _ => true
  | .field _ _ _ => true
  | .extract _ _ => true
  | _ => false
/-- Operations that leave the shapes of objects. -/
def isStore : Op → Bool
  | .store _ _ _ => true
  | _ => false
theorem sf_move {x} : softOp (.move x) = false := rfl
theorem ss_move {x} : isStore (.move x) = false := rfl
theorem sf_assign {x} : softOp (.assign x) = false := rfl
theorem ss_assign {x} : isStore (.assign x) = false := rfl
theorem sf_pick {x y z} : softOp (.pick x y z) = false := rfl
theorem ss_pick {x y z} : isStore (.pick x y z) = false := rfl
theorem sf_alloc {x} : softOp (.alloc x) = false := rfl
theorem ss_alloc {x} : isStore (.alloc x) = false := rfl
theorem sf_box {x y} : softOp (.box x y) = false := rfl
theorem ss_box {x y} : isStore (.box x y) = false := rfl
theorem sf_build {x y} : softOp (.build x y) = false := rfl
theorem ss_build {x y} : isStore (.build x y) = false := rfl
theorem sf_buildSlice {x y z} : softOp (.buildSlice x y z) = false := rfl
theorem ss_buildSlice {x y z} : isStore (.buildSlice x y z) = false := rfl
theorem sf_load {x y} : softOp (.load x y) = false := rfl
theorem ss_load {x y} : isStore (.load x y) = false := rfl
theorem sf_store {x y z} : softOp (.store x y z) = false := rfl
theorem ss_store {x y z} : isStore (.store x y z) = true := rfl
theorem sf_nilCheck {x} : softOp (.nilCheck x) = true := rfl
theorem ss_nilCheck {x} : isStore (.nilCheck x) = false := rfl
theorem sf_binOp {a x y z b} : softOp (.binOp a x y z b) = false := rfl
theorem ss_binOp {a x y z b} : isStore (.binOp a x y z b) = false := rfl
theorem sf_unOp {x y z} : softOp (.unOp x y z) = false := rfl
theorem ss_unOp {x y z} : isStore (.unOp x y z) = false := rfl
theorem sf_convert {x y z} : softOp (.convert x y z) = false := rfl
theorem ss_convert {x y z} : isStore (.convert x y z) = false := rfl
theorem sf_makeFunc {x y z} : softOp (.makeFunc x y z) = false := rfl
theorem ss_makeFunc {x y z} : isStore (.makeFunc x y z) = false := rfl
theorem sf_makeSlice {x y z} : softOp (.makeSlice x y z) = false := rfl
theorem ss_makeSlice {x y z} : isStore (.makeSlice x y z) = false := rfl
theorem sf_slice {a x y z b} : softOp (.slice a x y z b) = false := rfl
theorem ss_slice {a x y z b} : isStore (.slice a x y z b) = false := rfl
theorem sf_fieldAddr {x y z} : softOp (.fieldAddr x y z) = true := rfl
theorem ss_fieldAddr {x y z} : isStore (.fieldAddr x y z) = false := rfl
theorem sf_field {x y z} : softOp (.field x y z) = false := rfl
theorem ss_field {x y z} : isStore (.field x y z) = false := rfl
theorem sf_indexAddr {x y z} : softOp (.indexAddr x y z) = true := rfl
theorem ss_indexAddr {x y z} : isStore (.indexAddr x y z) = false := rfl
theorem sf_index {x y z} : softOp (.index x y z) = false := rfl
theorem ss_index {x y z} : isStore (.index x y z) = false := rfl
theorem sf_extract {x y} : softOp (.extract x y) = false := rfl
theorem ss_extract {x y} : isStore (.extract x y) = false := rfl
theorem sf_lookup {a x y z} : softOp (.lookup a x y z) = false := rfl
theorem ss_lookup {a x y z} : isStore (.lookup a x y z) = false := rfl
theorem sf_mapUpdate {a x y z} : softOp (.mapUpdate a x y z) = false := rfl
theorem ss_mapUpdate {a x y z} : isStore (.mapUpdate a x y z) = false := rfl
theorem sf_makeInterface {x y} : softOp (.makeInterface x y) = false := rfl
theorem ss_makeInterface {x y} : isStore (.makeInterface x y) = false := rfl
theorem sf_makeMap {x y} : softOp (.makeMap x y) = false := rfl
theorem ss_makeMap {x y} : isStore (.makeMap x y) = false := rfl
theorem sf_len {x y} : softOp (.call ⟨.builtin .len, x, y⟩) = true := rfl
theorem sf_append {x y} : softOp (.call ⟨.builtin .append, x, y⟩) = false := rfl
theorem sf_min {x y} : softOp (.call ⟨.builtin .min, x, y⟩) = false := rfl
theorem sf_max {x y} : softOp (.call ⟨.builtin .max, x, y⟩) = false := rfl
theorem sf_fun {f x y} : softOp (.call ⟨.value f, x, y⟩) = false := rfl
theorem ss_call {x} : isStore (.call x) = false := rfl
theorem sb_move {x} : bareOp (.move x) = true := rfl
theorem sb_assign {x} : bareOp (.assign x) = true := rfl
theorem sb_pick {x y z} : bareOp (.pick x y z) = true := rfl
theorem sb_alloc {x} : bareOp (.alloc x) = false := rfl
theorem sb_box {x y} : bareOp (.box x y) = true := rfl
theorem sb_build {x y} : bareOp (.build x y) = true := rfl
theorem sb_buildSlice {x y z} : bareOp (.buildSlice x y z) = true := rfl
theorem sb_load {x y} : bareOp (.load x y) = false := rfl
theorem sb_store {x y z} : bareOp (.store x y z) = false := rfl
theorem sb_nilCheck {x} : bareOp (.nilCheck x) = false := rfl
theorem sb_binOp {a x y z b} : bareOp (.binOp a x y z b) = false := rfl
theorem sb_unOp {x y z} : bareOp (.unOp x y z) = false := rfl
theorem sb_convert {x y z} : bareOp (.convert x y z) = false := rfl
theorem sb_makeFunc {x y z} : bareOp (.makeFunc x y z) = true := rfl
theorem sb_makeSlice {x y z} : bareOp (.makeSlice x y z) = false := rfl
theorem sb_slice {a x y z b} : bareOp (.slice a x y z b) = false := rfl
theorem sb_fieldAddr {x y z} : bareOp (.fieldAddr x y z) = false := rfl
theorem sb_field {x y z} : bareOp (.field x y z) = true := rfl
theorem sb_indexAddr {x y z} : bareOp (.indexAddr x y z) = false := rfl
theorem sb_index {x y z} : bareOp (.index x y z) = false := rfl
theorem sb_extract {x y} : bareOp (.extract x y) = true := rfl
theorem sb_lookup {a x y z} : bareOp (.lookup a x y z) = false := rfl
theorem sb_mapUpdate {a x y z} : bareOp (.mapUpdate a x y z) = false := rfl
theorem sb_makeInterface {x y} : bareOp (.makeInterface x y) = false := rfl
theorem sb_makeMap {x y} : bareOp (.makeMap x y) = false := rfl
theorem sb_call {x} : bareOp (.call x) = false := rfl
def two : List Nat → List Nat
  | [] => []
  | x :: l => 2 * x :: (2 * x + 1) :: two l
def odd : List Nat → List Nat
  | [] => []
  | x :: l => (2 * x + 1) :: odd l
def even : List Nat → List Nat
  | [] => []
  | x :: l => 2 * x :: even l
/-- What an operation touches: 2 id: an object, 2 id + 1: its shape. -/
def touched (orc : Option Res) (op : Op) (args : List AV) : List Nat := bif bareOp op then [] else bif softOp op then odd (idsL args) else two (orcIds orc ++ idsL args)
def keyed (op : Op) (wr : List (Nat × Option Ob)) : List Nat := bif isStore op then even (wr.map (·.1)) else two (wr.map (·.1))

theorem mem_two {x : Nat} : ∀ {l : List Nat}, x ∈ l → 2 * x ∈ two l ∧ 2 * x + 1 ∈ two l
  | y :: l, h => by
    rcases List.mem_cons.1 h with rfl | h
    · simp [two]
    · have := mem_two h; simp only [two, List.mem_cons]; exact ⟨.inr (.inr this.1), .inr (.inr this.2)⟩
theorem mem_odd {x : Nat} : ∀ {l : List Nat}, x ∈ l → 2 * x + 1 ∈ odd l
  | y :: l, h => by
    rcases List.mem_cons.1 h with rfl | h
    · simp [odd]
    · simp only [odd, List.mem_cons]; exact .inr (mem_odd h)
theorem mem_even {x : Nat} : ∀ {l : List Nat}, x ∈ l → 2 * x ∈ even l
  | y :: l, h => by
    rcases List.mem_cons.1 h with rfl | h
    · simp [even]
    · simp only [even, List.mem_cons]; exact .inr (mem_even h)

def shape (o : Option Ob) : Option (TypeId × Nat) := o.map fun o => (o.elem, o.m)

theorem shape_m {a b : Option Ob} (h : shape a = shape b) {α : Type} (f : Nat → Option α) : (a.bind fun o => f o.m) = (b.bind fun o => f o.m) := by
  cases a <;> cases b <;> simp [shape] at h ⊢
  rw [h.2]
theorem shape_map {a b : Option Ob} (h : shape a = shape b) {α : Type} (x : α) : (a.map fun _ => x) = (b.map fun _ => x) := by
  cases a <;> cases b <;> simp [shape] at h ⊢
theorem shape_bind {a b : Option Ob} (h : shape a = shape b) {α : Type} (x : Option α) : (a.bind fun _ => x) = (b.bind fun _ => x) := by
  cases a <;> cases b <;> simp [shape] at h ⊢

theorem hpOk_congr {hp hp' : Nat → Option Ob} {σ : List (Nat × Nat)} (h : ∀ id ∈ σ.map (·.2), hp id = hp' id) : ∀ l : List (Nat × Ob), hpOk hp σ l = hpOk hp' σ l
  | [] => rfl
  | (i, o) :: r => by
    simp only [hpOk, hpOk_congr h r]
    cases hf : find σ i with
    | none => rfl
    | some x => simp only [h x (find_val hf)]

theorem effCallP_congr {P : Program} {orc : Option Res} {hp hp' : Nat → Option Ob} {nid : Nat} {args : List AV} (h : ∀ id ∈ idsL args, hp id = hp' id) : effCallP P orc hp nid args = effCallP P orc hp' nid args := by
  cases args with
  | nil => rfl
  | cons fv as =>
    simp only [effCallP]
    rw [snap_congr (hp := hp) (hp' := hp') fv fun id hi => h id (by simp [idsL, hi]), snaps_congr (hp := hp) (hp' := hp') as fun id hi => h id (by simp [idsL, hi])]

theorem eff0_congr {ty : TypeId → Option TI} {P : Program} {orc : Option Res} {op : Op} {hp hp' : Nat → Option Ob} {nid : Nat} {args : List AV} (h' : ∀ id ∈ orcIds orc ++ idsL args, hp id = hp' id) : eff0 ty P orc op hp nid args = eff0 ty P orc op hp' nid args := by
  have h : ∀ id ∈ idsL args, hp id = hp' id := fun id hi => h' id (List.mem_append_right _ hi)
  have hx' : ∀ id ∈ orcIds orc, hp id = hp' id := fun id hi => h' id (List.mem_append_left _ hi)
  clear h'
  have one : ∀ (x : AV) (r : List AV), args = x :: r → ∀ id ∈ ids x, hp id = hp' id := fun x r e id hi => h id (by rw [e]; simp [idsL, hi])
  have two : ∀ (x y : AV) (r : List AV), args = x :: y :: r → ∀ id ∈ ids y, hp id = hp' id := fun x y r e id hi => h id (by rw [e]; simp [idsL, hi])
  unfold eff0
  split <;> try rfl
  · unfold effLoad
    split
    · rw [one _ _ rfl _ (by simp [ids])]
    · rfl
    · rfl
  · unfold effNilCheck
    split
    · rfl
    · rw [one _ _ rfl _ (by simp [ids])]
    · rfl
    · rfl
    · rfl
  · unfold effStore
    split
    · rw [one _ _ rfl _ (by simp [ids])]
    · rfl
  · unfold effBin
    split
    · rename_i x0
      have hx := one _ _ rfl
      have : isNil hp x0 = isNil hp' x0 := by
        unfold isNil
        split
        · rfl
        · rfl
        · rw [hx _ (by simp [ids])]
        · rfl
      rw [this]
    all_goals rfl
  · unfold effFieldAddr
    split
    · rw [one _ _ rfl _ (by simp [ids])]
    · rfl
    · rfl
  · unfold effIndexAddr
    split
    · rw [one _ _ rfl _ (by simp [ids])]
    · rfl
    · rw [one _ _ rfl _ (by simp [ids])]
    · rfl
    · rfl
  · split
    · rfl
    · unfold effSlice
      split
      · rename_i x rest
        have hx := one _ _ rfl
        cases x with
        | hs id off len => simp only [hx id (by simp [ids]), effSliceArr]
        | ptr id i j => simp only [effSliceArr, hx id (by simp [ids])]
        | d y => cases y <;> rfl
        | _ => rfl
      · rfl
  · unfold effBuiltin
    split
    · rename_i t x _
      have hx := one _ _ rfl
      have h1 : ∀ k, lenA hp k x = lenA hp' k x := fun k => by
        unfold lenA
        split <;> first | rfl | simp only [hx _ (by simp [ids]; rfl)] | (rw [hx _ (by simp [ids])])
      simp only [h1]
    · rename_i t t' s x _
      have hs := one _ _ rfl
      have hx := two _ _ _ rfl
      have h1 : ∀ e m, dstRows hp e m s = dstRows hp' e m s := fun e m => by
        unfold dstRows
        split
        · rfl
        · rw [hs _ (by simp [ids])]
        · rfl
      have h2 : ∀ m, srcRows hp m x = srcRows hp' m x := fun m => by
        unfold srcRows
        split
        · rfl
        · rfl
        · rw [hx _ (by simp [ids])]
        · rfl
      simp only [h1, h2]
    · rename_i t t' id len x _
      have hs := one _ _ rfl
      have hx := two _ _ _ rfl
      have h2 : ∀ m, srcRows hp m x = srcRows hp' m x := fun m => by
        unfold srcRows
        split
        · rfl
        · rfl
        · rw [hx _ (by simp [ids])]
        · rfl
      simp only [h2, hs id (by simp [ids])]
    · rfl
    · rfl
    · rfl
  · unfold effCall
    split
    · rename_i c fv as
      have : ∀ q : FuncId × List AV, effX P q.1 c nid hp (as ++ q.2) = effX P q.1 c nid hp' (as ++ q.2) := fun q => by
        unfold effX
        rw [hpOk_congr (hp := hp) (hp' := hp') (fun id hi => hx' id hi) c.hp]
      simp only [this]
    · exact effCallP_congr h

theorem eff_lift {ty : TypeId → Option TI} {P : Program} {orc : Option Res} {op : Op} {hp hp' : Nat → Option Ob} {nid : Nat} {args : List AV} (hn : eff0 ty P none op hp nid args = eff0 ty P none op hp' nid args) (ho : eff0 ty P orc op hp nid args = eff0 ty P orc op hp' nid args) : eff ty P orc op hp nid args = eff ty P orc op hp' nid args := by
  cases orc with
  | none => exact ho
  | some r =>
    cases r with
    | skip => rfl
    | ub b => simp only [eff, hn]
    | f d => simp only [eff, hn, ho]
    | p d => exact ho
    | o e m rows => exact ho
    | x c => exact ho

theorem eff_congr {ty : TypeId → Option TI} {P : Program} {orc : Option Res} {op : Op} {hp hp' : Nat → Option Ob} {nid : Nat} {args : List AV} (h' : ∀ id ∈ orcIds orc ++ idsL args, hp id = hp' id) : eff ty P orc op hp nid args = eff ty P orc op hp' nid args := by
  exact eff_lift (eff0_congr (orc := none) fun id hid => h' id (List.mem_append_right _ (by simpa [orcIds] using hid))) (eff0_congr h')

theorem soft_congr {ty : TypeId → Option TI} {P : Program} {orc : Option Res} {op : Op} {hp hp' : Nat → Option Ob} {nid : Nat} {args : List AV} (hsoft : softOp op = true) (h : ∀ id ∈ idsL args, shape (hp id) = shape (hp' id)) : eff0 ty P orc op hp nid args = eff0 ty P orc op hp' nid args := by
  have one : ∀ (x : AV) (r : List AV), args = x :: r → ∀ id ∈ ids x, shape (hp id) = shape (hp' id) := fun x r e id hi => h id (by rw [e]; simp [idsL, hi])
  cases op <;> simp only [softOp, Bool.false_eq_true, reduceCtorEq] at hsoft
  case nilCheck =>
    simp only [eff0]
    unfold effNilCheck
    split
    · rfl
    · rw [shape_map (one _ _ rfl _ (by simp [ids]))]
    · rfl
    · rfl
    · rfl
  case fieldAddr t x f =>
    simp only [eff0]
    unfold effFieldAddr
    split
    · have hs := one _ _ rfl _ (by simp [ids]; rfl)
      cases ty t with
      | none => rfl
      | some ti =>
        simp only [Option.bind_some]
        split
        · exact shape_bind hs _
        · rfl
    · rfl
    · rfl
  case indexAddr t x y =>
    simp only [eff0]
    unfold effIndexAddr
    split
    · have hs := one _ _ rfl _ (by simp [ids]; rfl)
      cases ty t with
      | none => rfl
      | some ti =>
        simp only [Option.bind_some]
        split
        · rename_i e _
          cases ty e with
          | none => rfl
          | some te => exact shape_m hs fun m => if m = te.size then some _ else none
        · rfl
    · rfl
    · have hs := one _ _ rfl _ (by simp [ids]; rfl)
      cases ty t with
      | none => rfl
      | some ti =>
        simp only [Option.bind_some]
        split
        · rename_i n e _
          cases ty e with
          | none => rfl
          | some te =>
            simp only [Option.bind_some]
            split
            · rfl
            · exact shape_map hs _
        · rfl
    · rfl
    · rfl
  case call c =>
    split at hsoft
    · rename_i hcal
      obtain ⟨callee, cargs, cats⟩ := c
      simp only at hcal
      subst hcal
      simp only [eff0]
      unfold effBuiltin
      split
      · rename_i t x _ _
        have hx := one _ _ rfl
        cases ty t with
        | none => rfl
        | some ti =>
          simp only [Option.bind_some]
          unfold lenA
          split
          · rfl
          · rfl
          · exact shape_map (hx _ (by simp [ids])) _
          · rfl
          · rfl
          · rfl
      all_goals first | contradiction | rfl
    · cases hsoft

theorem bare_congr {ty : TypeId → Option TI} {P : Program} {orc : Option Res} {op : Op} {hp hp' : Nat → Option Ob} {nid : Nat} {args : List AV} (hb : bareOp op = true) : eff0 ty P orc op hp nid args = eff0 ty P orc op hp' nid args := by
  cases op <;> simp only [bareOp, Bool.false_eq_true] at hb <;> rfl

theorem eff_congr2 {ty : TypeId → Option TI} {P : Program} {orc : Option Res} {op : Op} {hp hp' : Nat → Option Ob} {nid : Nat} {args : List AV} (h1 : ∀ id, 2 * id ∈ touched orc op args → hp id = hp' id) (h2 : softOp op = true → ∀ id, 2 * id + 1 ∈ touched orc op args → shape (hp id) = shape (hp' id)) : eff ty P orc op hp nid args = eff ty P orc op hp' nid args := by
  cases hb : bareOp op with
  | true =>
    exact eff_lift (bare_congr hb) (bare_congr hb)
  | false =>
    cases hs : softOp op with
    | true =>
      have h3 : ∀ id ∈ idsL args, shape (hp id) = shape (hp' id) := fun id hid => h2 hs id (by unfold touched; rw [hb, hs]; exact mem_odd hid)
      exact eff_lift (soft_congr hs h3) (soft_congr hs h3)
    | false =>
      exact eff_congr fun id hid => h1 id (by unfold touched; rw [hb, hs]; exact (mem_two hid).1)

/-- A store leaves the shapes. -/
theorem store_shape {ty : TypeId → Option TI} {P : Program} {orc : Option Res} {op : Op} {hp : Nat → Option Ob} {nid : Nat} {args : List AV} {e : Eff} (hst : isStore op = true) (he : eff ty P orc op hp nid args = some e) {id : Nat} {v : Option Ob} (hv : find (pushL [] e.wr) id = some v) : shape v = shape (hp id) := by
  cases op <;> simp only [isStore, Bool.false_eq_true, reduceCtorEq] at hst
  case store t x y =>
    unfold eff at he
    split at he
    · cases he
    · exfalso
      simp only [Option.bind_eq_some_iff] at he
      obtain ⟨e0, h0, he⟩ := he
      simp only [eff0] at h0
      unfold effStore at h0
      split at h0
      · cases ht : ty t <;> rw [ht] at h0
        · cases h0
        · simp only [Option.bind_eq_some_iff, Option.bind_some] at h0
          obtain ⟨_, _, _, _, _, _, h0⟩ := h0
          split at h0
          · cases h0; cases he
          · cases h0
      · cases h0
    all_goals
      simp only [eff0] at he
      unfold effStore at he
      split at he
      · rename_i id0 i j av
        cases ht : ty t with
        | none => rw [ht] at he; cases he
        | some ti =>
          cases hob : hp id0 with
          | none => rw [ht, hob] at he; cases he
          | some ob =>
            rw [ht, hob] at he
            simp only [Option.bind_some] at he
            cases hrow : ob.rows[i]? with
            | none => rw [hrow] at he; cases he
            | some row =>
              rw [hrow] at he
              cases hl : cellsA av with
              | none => rw [hl] at he; cases he
              | some l =>
                rw [hl] at he
                simp only [Option.bind_some] at he
                split at he
                · cases he
                  simp only [pushL, find] at hv
                  split at hv
                  · rename_i e0; subst e0; cases hv; rw [hob]; rfl
                  · cases hv
                · cases he
      · cases he

/-- What a soft operation leaves. -/
theorem soft_wr0 {ty : TypeId → Option TI} {P : Program} {orc : Option Res} {op : Op} {hp : Nat → Option Ob} {nid : Nat} {args : List AV} {e : Eff} (hst : softOp op = true) (he : eff0 ty P orc op hp nid args = some e) : e.wr = [] := by
  have key : ∀ {α : Type} {o : Option α} {f : α → Option Eff}, (∀ a, f a = some e → e.wr = []) → o.bind f = some e → e.wr = [] := by
    intro α o f h1 h2
    cases o with
    | none => cases h2
    | some a => exact h1 a h2
  have keym : ∀ {α : Type} {o : Option α} {f : α → Eff}, (∀ a, (f a).wr = []) → o.map f = some e → e.wr = [] := by
    intro α o f h1 h2
    cases o with
    | none => cases h2
    | some a => cases h2; exact h1 a
  cases op <;> simp only [softOp, Bool.false_eq_true, reduceCtorEq] at hst
  case nilCheck =>
    simp only [eff0] at he
    unfold effNilCheck at he
    split at he
    · cases he; rfl
    · exact keym (fun _ => rfl) he
    · cases he; rfl
    · cases he; rfl
    · cases he
  case fieldAddr t x f =>
    simp only [eff0] at he
    unfold effFieldAddr at he
    split at he
    · refine key (fun ti h => ?_) he
      split at h
      · exact key (fun _ h => keym (fun _ => rfl) h) h
      · cases h
    · refine key (fun ti h => ?_) he
      split at h
      · exact keym (fun _ => rfl) h
      · cases h
    · cases he
  case indexAddr t x y =>
    simp only [eff0] at he
    unfold effIndexAddr at he
    split at he
    · refine key (fun ti h => ?_) he
      split at h
      · refine key (fun te h => key (fun o h => ?_) h) h
        split at h
        · cases h; rfl
        · cases h
      · cases h
    · refine key (fun ti h => ?_) he
      split at h
      · exact key (fun _ h => keym (fun _ => rfl) h) h
      · cases h
    · refine key (fun ti h => ?_) he
      split at h
      · refine key (fun te h => ?_) h
        split at h
        · cases h
        · exact keym (fun _ => rfl) h
      · cases h
    · refine key (fun ti h => ?_) he
      split at h
      · refine key (fun te h => ?_) h
        split at h
        · cases h
        · cases h; rfl
      · cases h
    · cases he
  case call c =>
    split at hst
    · rename_i hcal
      obtain ⟨callee, cargs, cats⟩ := c
      simp only at hcal
      subst hcal
      simp only [eff0] at he
      unfold effBuiltin at he
      split at he
      · refine key (fun ti h => ?_) he
        unfold lenA at h
        split at h
        · cases h; rfl
        · cases h; rfl
        · exact keym (fun _ => rfl) h
        · cases h; rfl
        · cases h; rfl
        · cases h
      all_goals first | contradiction | (cases he; done)
    · cases hst

theorem soft_wr {ty : TypeId → Option TI} {P : Program} {orc : Option Res} {op : Op} {hp : Nat → Option Ob} {nid : Nat} {args : List AV} {e : Eff} (hst : softOp op = true) (he : eff ty P orc op hp nid args = some e) : e.wr = [] := by
  have main : ∀ {r : Option Res} {e : Eff}, eff0 ty P r op hp nid args = some e → e.wr = [] := fun {r e} he => soft_wr0 hst he
  unfold eff at he
  split at he
  · cases he
  · simp only [Option.bind_eq_some_iff] at he
    obtain ⟨e0, h0, he⟩ := he
    unfold fixU at he
    split at he
    · cases he; have hw := main h0; exact hw
    · cases he
  · split at he
    · cases hst
    · cases hst
    · exact main he
  · exact main he

/-! ### What comes before what -/
inductive Anc (ops : Array Oper) : Nat → Nat → Prop where
  | edge {j : Nat} {o : Oper} {e : Edge} (h : ops[j]? = some o) (he : e ∈ o.after) (hb : Region.binds .any e = true) : Anc ops e.on j
  | step {i j : Nat} {o : Oper} {e : Edge} (h : ops[j]? = some o) (he : e ∈ o.after) (hb : Region.binds .any e = true) (ha : Anc ops i e.on) : Anc ops i j

def Closed (ops : Array Oper) (L : Nat → Prop) : Prop := ∀ j o, ops[j]? = some o → L j → ∀ e ∈ o.after, Region.binds .any e = true → L e.on

theorem Anc.closed {ops : Array Oper} {L : Nat → Prop} (hL : Closed ops L) {i j : Nat} (h : Anc ops i j) : L j → L i := by
  induction h with
  | edge h he hb => exact fun hj => hL _ _ h hj _ he hb
  | step h he hb _ ih => exact fun hj => ih (hL _ _ h hj _ he hb)

theorem Anc.ready {ops : Array Oper} {L : Nat → Prop} (hL : Closed ops L) {i j : Nat} (h : Anc ops i j) (hr : ∀ o, ops[j]? = some o → ∀ e ∈ o.after, Region.binds .any e = true → L e.on) : L i := by
  cases h with
  | edge h he hb => exact hr _ h _ he hb
  | step h he hb ha => exact ha.closed hL (hr _ h _ he hb)

def maskOf (acc : Array Nat) (o : Oper) : Nat := o.after.foldl (fun s e => if Region.binds .any e then s ||| 2 ^ e.on ||| acc.getD e.on 0 else s) 0

theorem mask_spec (acc : Array Nat) (i : Nat) : ∀ (es : List Edge) (s : Nat), (es.foldl (fun s e => if Region.binds .any e then s ||| 2 ^ e.on ||| acc.getD e.on 0 else s) s).testBit i = true →
    s.testBit i = true ∨ ∃ e ∈ es, Region.binds .any e = true ∧ (e.on = i ∨ (acc.getD e.on 0).testBit i = true)
  | [], s, h => .inl h
  | e :: es, s, h => by
    rw [List.foldl_cons] at h
    rcases mask_spec acc i es _ h with h1 | ⟨e', he', hb, hh⟩
    · split at h1
      · rename_i hb
        simp only [Nat.testBit_or, Bool.or_eq_true] at h1
        rcases h1 with (h1 | h1) | h1
        · exact .inl h1
        · rw [Nat.testBit_two_pow] at h1
          exact .inr ⟨e, List.mem_cons_self, hb, .inl (by simpa using h1)⟩
        · exact .inr ⟨e, List.mem_cons_self, hb, .inr h1⟩
      · exact .inl h1
    · exact .inr ⟨e', List.mem_cons_of_mem _ he', hb, hh⟩

theorem before_spec (ops : Array Oper) : ∀ (l : List Oper) (acc : Array Nat), (∀ k, l[k]? = ops[acc.size + k]?) → (∀ j i, (acc.getD j 0).testBit i = true → Anc ops i j) →
    ∀ j i, ((l.foldl (fun acc o => acc.push (maskOf acc o)) acc).getD j 0).testBit i = true → Anc ops i j
  | [], acc, _, hacc, j, i, h => hacc j i h
  | o :: l, acc, hl, hacc, j, i, h => by
    rw [List.foldl_cons] at h
    refine before_spec ops l (acc.push (maskOf acc o)) (fun k => by have := hl (k + 1); simpa [Nat.add_assoc, Nat.add_comm 1 k] using this) ?_ j i h
    intro j i hj
    by_cases e : j = acc.size
    · subst e
      have ho : ops[acc.size]? = some o := by simpa using (hl 0).symm
      simp only [Array.getD_eq_getD_getElem?, Array.getElem?_push_size, Option.getD_some] at hj
      have hm := mask_spec acc i o.after.toList 0 (by rw [Array.foldl_toList]; exact hj)
      rcases hm with h0 | ⟨ed, he, hb, hh⟩
      · simp at h0
      · rcases hh with rfl | hh
        · exact .edge ho (by simpa using he) hb
        · exact .step ho (by simpa using he) hb (hacc _ _ hh)
    · refine hacc j i ?_
      simp only [Array.getD_eq_getD_getElem?, Array.getElem?_push, if_neg e] at hj ⊢
      exact hj

theorem before_anc {ops : Array Oper} {i j : Nat} (h : ((Region.before ops).getD j 0).testBit i = true) : Anc ops i j := by
  refine before_spec ops ops.toList #[] (fun k => by simp) (fun j i h => by simp at h) j i ?_
  rw [Array.foldl_toList]
  exact h

/-- All that the kernel looks at in a region: what reads or writes a temporary is ordered with what writes it; the listed pairs are ordered; edges lead back. -/
def regOk (ops : Array Oper) (cf : List (Nat × Nat)) : Bool :=
  let b := Region.before ops
  let ord (i j : Nat) : Bool := if i < j then (b.getD j 0).testBit i else (b.getD i 0).testBit j
  (List.range ops.size).all (fun j => match ops[j]? with
    | some oj => oj.after.all (fun e => !Region.binds .any e || decide (e.on < j)) &&
      (List.range ops.size).all (fun i => i == j || (match ops[i]? with
        | some oi => (match oi.dst with
          | some d => if (oj.looksAt ops).contains d || oj.dst == some d then ord i j else true
          | none => true)
        | none => true))
    | none => true) &&
  cf.all fun p => (b.getD p.2 0).testBit p.1

theorem regOk_temp {ops : Array Oper} {cf : List (Nat × Nat)} (h : regOk ops cf = true) {i j : Nat} {oi oj : Oper} {d : Tmp} (hi : ops[i]? = some oi) (hj : ops[j]? = some oj) (hne : i ≠ j) (hd : oi.dst = some d) (hl : d ∈ oj.looksAt ops ∨ oj.dst = some d) :
    (i < j → Anc ops i j) ∧ (j < i → Anc ops j i) := by
  simp only [regOk, Bool.and_eq_true] at h
  have h1 := List.all_eq_true.1 h.1 j (List.mem_range.2 (Array.getElem?_eq_some_iff.1 hj).1)
  simp only [hj, Bool.and_eq_true] at h1
  have h2 := List.all_eq_true.1 h1.2 i (List.mem_range.2 (Array.getElem?_eq_some_iff.1 hi).1)
  have hij : (i == j) = false := by simpa using hne
  simp only [hij, Bool.false_or, hi, hd] at h2
  have hc : ((oj.looksAt ops).contains d || oj.dst == some d) = true := by
    rcases hl with hl | hl
    · simp [hl]
    · simp [hl]
  rw [if_pos hc] at h2
  refine ⟨fun hlt => ?_, fun hlt => ?_⟩
  · rw [if_pos hlt] at h2; exact before_anc h2
  · rw [if_neg (by omega)] at h2; exact before_anc h2

theorem regOk_pair {ops : Array Oper} {cf : List (Nat × Nat)} (h : regOk ops cf = true) {i j : Nat} (hp : (i, j) ∈ cf) : Anc ops i j := by
  simp only [regOk, Bool.and_eq_true] at h
  exact before_anc (List.all_eq_true.1 h.2 _ hp)

theorem regOk_edge {ops : Array Oper} {cf : List (Nat × Nat)} (h : regOk ops cf = true) {j : Nat} {o : Oper} (hj : ops[j]? = some o) {e : Edge} (he : e ∈ o.after) (hb : Region.binds .any e = true) : e.on < j := by
  simp only [regOk, Bool.and_eq_true] at h
  have h1 := List.all_eq_true.1 h.1 j (List.mem_range.2 (Array.getElem?_eq_some_iff.1 hj).1)
  simp only [hj, Bool.and_eq_true] at h1
  have h2 := Array.all_eq_true'.1 h1.1 e he
  simpa [hb] using h2


/-! ### The trace of a region in the text's order -/
def evalG (get : Nat → AV) : Operand → AV
  | .tmp t => get t
  | .const v => cav v
  | .global _ => .any
  | .func f => .d (.fn (.func f) [])

def argsG (get : Nat → AV) (o : Oper) : List AV := o.op.operands.toList.map (evalG get)

/-- What an operation is handed: a guarded one's values are there when it is carried out. -/
def argsE (o : Oper) (x : List AV) : List AV := match o.guard with | none => x | some _ => stripG o.op x

section
variable (l : List Oper) (E : Nat → Option Eff × AV) (g0 : Nat → AV) (o0 : Nat → Option Ob)

def dstOf (i : Nat) : Option Tmp := (l[i]?).bind fun o => o.dst
def Wt (i t : Nat) : Option AV := if dstOf l i = some t then some (E i).2 else none
def Wo (i id : Nat) : Option (Option Ob) := (E i).1.bind fun e => find (pushL [] e.wr) id
def getT (j t : Nat) : AV := stAt (Wt l E) (fun _ => true) g0 t j
def objT (j id : Nat) : Option Ob := stAt (Wo E) (fun _ => true) o0 id j
def getS (S : Nat → Bool) (t : Nat) : AV := stAt (Wt l E) S g0 t l.length
def objS (S : Nat → Bool) (id : Nat) : Option Ob := stAt (Wo E) S o0 id l.length
def touch (orc : List (Nat × Res)) (j : Nat) : List Nat := match l[j]? with | some o => touched (find orc j) o.op (argsG (getT l E g0 j) o) | none => []
def keys (j : Nat) : List Nat := match l[j]?, (E j).1 with | some o, some e => keyed o.op e.wr | _, _ => []
end

theorem ids_strip (x : AV) : ids (strip x) = ids x := by cases x <;> simp [strip, ids]
theorem idsL_strip : ∀ l : List AV, idsL (l.map strip) = idsL l
  | [] => rfl
  | x :: l => by simp only [List.map_cons, idsL, ids_strip, idsL_strip l]
theorem idsL_stripG (op : Op) (l : List AV) : idsL (stripG op l) = idsL l := by
  cases op
  case pick =>
    cases l with
    | nil => rfl
    | cons c r => simp [stripG, idsL, ids_strip]
  all_goals exact idsL_strip l
theorem idsL_argsE (o : Oper) (l : List AV) : idsL (argsE o l) = idsL l := by
  unfold argsE
  split
  · rfl
  · exact idsL_stripG _ l

theorem find_pushL' (id : Nat) : ∀ (wr hp : List (Nat × Option Ob)), find (pushL hp wr) id = (find (pushL [] wr) id).or (find hp id)
  | [], hp => by simp [pushL, find]
  | (i, o) :: r, hp => by
    simp only [pushL]
    rw [find_pushL' id r ((i, o) :: hp), find_pushL' id r [(i, o)]]
    simp only [find]
    cases find (pushL [] r) id with
    | some v => simp
    | none => by_cases e : i = id <;> simp [e]

theorem updL_find (obj : Nat → Option Ob) (id : Nat) : ∀ (wr : List (Nat × Option Ob)), updL obj wr id = (find (pushL [] wr) id).getD (obj id)
  | [] => by simp [updL, pushL, find]
  | (i, o) :: r => by
    simp only [updL, pushL]
    rw [updL_find (upd1 obj i o) id r, find_pushL' id r [(i, o)]]
    simp only [find, upd1]
    cases find (pushL [] r) id with
    | some v => simp
    | none =>
      by_cases e : i = id
      · subst e; simp
      · simp [e, Ne.symm e]

theorem find_keys {id : Nat} : ∀ {wr : List (Nat × Option Ob)} {v : Option Ob}, find (pushL [] wr) id = some v → id ∈ wr.map (·.1)
  | [], v, h => by simp [pushL, find] at h
  | (i, o) :: r, v, h => by
    simp only [pushL] at h
    rw [find_pushL' id r [(i, o)]] at h
    cases hf : find (pushL [] r) id with
    | some u => exact List.mem_cons_of_mem _ (find_keys hf)
    | none =>
      rw [hf] at h
      simp only [Option.none_or, find] at h
      split at h
      · rename_i e; simp [e]
      · cases h

def conflB (t' k' t k : List Nat) : Bool := k'.any (fun x => t.contains x || k.contains x) || k.any (fun x => t'.contains x)

/-- What a guard says of the value it looks at. -/
def guardV (v : AV) (want : Bool) : Option Bool :=
  match v with
  | .d (.bool b) => some (b == want)
  | .opt g (.d (.bool b)) => some (g && (b == want))
  | _ => none

/-- What the text's order has shown of operation j. -/
structure Fact (ty : TypeId → Option TI) (P : Program) (orc : List (Nat × Res)) (l : List Oper) (E : Nat → Option Eff × AV) (g0 : Nat → AV) (o0 : Nat → Option Ob) (n base : Nat) (j : Nat) (o : Oper) : Prop where
  dst : ∀ d, o.dst = some d → d < n
  guard : match o.guard with
    | none => (E j).1.isSome = true
    | some (q, want) => ∃ t, dstOf l q = some t ∧ guardV (getT l E g0 j t) want = some (E j).1.isSome
  eff : ∀ e, (E j).1 = some e → Abs.eff ty P (find orc j) o.op (objT E o0 j) (base + j) (argsE o (argsG (getT l E g0 j) o)) = some e ∧ e.ob ∧ (o.guard ≠ none → stripOkG o.op (argsG (getT l E g0 j) o)) ∧ ∀ g w v, RepA g w e.val v → RepA g w (E j).2 v
  skip : (E j).1 = none → ∀ g w, RepA g w (E j).2 undef

section
variable {P : Program} {ty : TypeId → Option TI} {orc : List (Nat × Res)} {l : List Oper} {E : Nat → Option Eff × AV} {g0 : Nat → AV} {o0 : Nat → Option Ob} {n base : Nat} {cf : List (Nat × Nat)}

theorem mem_conflB {t' k' t k : List Nat} {x : Nat} (h : (x ∈ k' ∧ (x ∈ t ∨ x ∈ k)) ∨ (x ∈ k ∧ x ∈ t')) : conflB t' k' t k = true := by
  simp only [conflB, Bool.or_eq_true, List.any_eq_true]
  rcases h with ⟨h1, h2⟩ | ⟨h1, h2⟩
  · exact .inl ⟨x, h1, by simpa using h2⟩
  · exact .inr ⟨x, h1, by simpa using h2⟩

/-- What an operation writes is among its keys. -/
theorem keys_of {i id : Nat} {o : Oper} (hi : l[i]? = some o) (hw : Wo E i id ≠ none) : 2 * id ∈ keys l E i ∧ (isStore o.op = false → 2 * id + 1 ∈ keys l E i) := by
  unfold Wo at hw
  unfold keys
  rw [hi]
  cases hE : (E i).1 with
  | none => rw [hE] at hw; simp at hw
  | some e =>
    rw [hE] at hw
    simp only [Option.bind_some] at hw
    obtain ⟨v, hv⟩ := Option.ne_none_iff_exists'.1 hw
    have hk := find_keys hv
    simp only
    unfold keyed
    cases isStore o.op with
    | true => exact ⟨mem_even hk, fun h => by cases h⟩
    | false => exact ⟨(mem_two hk).1, fun _ => (mem_two hk).2⟩

/-- Operations that meet one thing are ordered. -/
theorem res_ord (hreg : regOk l.toArray cf = true) (hcf : ∀ i j, i < j → j < l.length → conflB (touch l E g0 orc i) (keys l E i) (touch l E g0 orc j) (keys l E j) = true → (i, j) ∈ cf) {i j r : Nat} (hi : i < l.length) (hj : j < l.length) (hne : i ≠ j)
    (hw : r ∈ keys l E i) (ht : r ∈ touch l E g0 orc j ∨ r ∈ keys l E j) : (i < j → Anc l.toArray i j) ∧ (j < i → Anc l.toArray j i) := by
  refine ⟨fun hlt => regOk_pair hreg (hcf i j hlt hj ?_), fun hlt => regOk_pair hreg (hcf j i hlt hi ?_)⟩
  · exact mem_conflB (x := r) (.inl ⟨hw, ht⟩)
  · rcases ht with ht | ht
    · exact mem_conflB (x := r) (.inr ⟨hw, ht⟩)
    · exact mem_conflB (x := r) (.inl ⟨ht, .inr hw⟩)

/-- One operation that is ready, anywhere in the schedule. -/
theorem any_step (hc : Ctx P ty) (hreg : regOk l.toArray cf = true) (hcf : ∀ i j, i < j → j < l.length → conflB (touch l E g0 orc i) (keys l E i) (touch l E g0 orc j) (keys l E j) = true → (i, j) ∈ cf)
    (hfact : ∀ j o, l[j]? = some o → Fact ty P orc l E g0 o0 n base j o) {S : Nat → Bool} (hS : Closed l.toArray (fun i => S i = true)) {j : Nat} {o : Oper} (hj : l[j]? = some o) (hSj : S j = false) (hready : ∀ e ∈ o.after, Region.binds .any e = true → S e.on = true)
    {g : G} {a : Act} {w : World} (hrel : Rel (fun k => k < base ∨ ∃ i, i < l.length ∧ S i = true ∧ k = base + i) g (getS l E g0 S) (objS l E o0 S) n a w) {K : Act → World → Prop} {Q : Exit → Act → World → Prop}
    (hK : ∀ g' a' w', Rel (fun k => k < base ∨ ∃ i, i < l.length ∧ (S i || i == j) = true ∧ k = base + i) g' (getS l E g0 fun i => S i || i == j) (objS l E o0 fun i => S i || i == j) n a' w' → Step g w g' w' → K a' w') : wpOp P l.toArray Q j K a w := by
  have hjl : j < l.length := (List.getElem?_eq_some_iff.1 hj).1
  have hja : l.toArray[j]? = some o := by simpa using hj
  have pre : ∀ i, Anc l.toArray i j → S i = true := fun i hi => hi.ready hS fun o' ho' e he hb => by rw [hja] at ho'; cases ho'; exact hready e he hb
  have post : ∀ i, Anc l.toArray j i → S i = false := fun i hi => by
    cases hs : S i with
    | false => rfl
    | true => have := hi.closed hS hs; rw [hSj] at this; cases this
  have wt_ord : ∀ i t, i ≠ j → Wt l E i t ≠ none → (t ∈ o.looksAt l.toArray ∨ o.dst = some t) → (i < j → S i = true) ∧ (j < i → S i = false) := by
    intro i t hne hw ht
    unfold Wt at hw
    split at hw
    · rename_i hd
      unfold dstOf at hd
      cases hli : l[i]? with
      | none => rw [hli] at hd; cases hd
      | some oi =>
        rw [hli] at hd
        obtain ⟨h1, h2⟩ := regOk_temp hreg (by simpa using hli) hja hne hd ht
        exact ⟨fun hlt => pre i (h1 hlt), fun hlt => post i (h2 hlt)⟩
    · exact absurd rfl hw
  have hget : ∀ t, t ∈ o.looksAt l.toArray → getS l E g0 S t = getT l E g0 j t := by
    intro t ht
    unfold getS getT
    rw [stAt_skip (j := j) (Nat.le_of_lt hjl)]
    · exact stAt_agree fun i hi hw => (wt_ord i t (by omega) hw (.inl ht)).1 hi
    · intro i h1 h2 h3
      by_cases e : i = j
      · subst e; rw [hSj] at h3; cases h3
      · cases hw : Wt l E i t with
        | none => rfl
        | some v =>
          have := (wt_ord i t e (by rw [hw]; simp) (.inl ht)).2 (by omega)
          rw [this] at h3; cases h3
  have res_st : ∀ i r, i < l.length → i ≠ j → r ∈ keys l E i → (r ∈ touch l E g0 orc j ∨ r ∈ keys l E j) → (i < j → S i = true) ∧ (j < i → S i = false) := by
    intro i r hi hne hw ht
    obtain ⟨h1, h2⟩ := res_ord hreg hcf hi hjl hne hw ht
    exact ⟨fun hlt => pre i (h1 hlt), fun hlt => post i (h2 hlt)⟩
  have hobj_ord : ∀ i id, i < l.length → i ≠ j → Wo E i id ≠ none → (2 * id ∈ touch l E g0 orc j ∨ Wo E j id ≠ none) → (i < j → S i = true) ∧ (j < i → S i = false) := by
    intro i id hi hne hw ht
    obtain ⟨oi, hoi⟩ : ∃ oi, l[i]? = some oi := ⟨l[i], List.getElem?_eq_getElem hi⟩
    exact res_st i (2 * id) hi hne (keys_of hoi hw).1 (ht.imp (fun h => h) fun h => (keys_of hj h).1)
  have hobj : ∀ id, 2 * id ∈ touch l E g0 orc j → objS l E o0 S id = objT E o0 j id := by
    intro id ht
    unfold objS objT
    rw [stAt_skip (j := j) (Nat.le_of_lt hjl)]
    · exact stAt_agree fun i hi hw => (hobj_ord i id (by omega) (by omega) hw (.inl ht)).1 hi
    · intro i h1 h2 h3
      by_cases e : i = j
      · subst e; rw [hSj] at h3; cases h3
      · cases hw : Wo E i id with
        | none => rfl
        | some v =>
          have := (hobj_ord i id h2 e (by rw [hw]; simp) (.inl ht)).2 (by omega)
          rw [this] at h3; cases h3
  have hshape : ∀ id, Wo E j id = none → 2 * id + 1 ∈ touch l E g0 orc j → shape (objS l E o0 S id) = shape (objT E o0 j id) := by
    intro id hjn ht
    -- an operation that writes id is a hard one, or it leaves the shape
    have soft : ∀ i v, i < l.length → Wo E i id = some v → (∃ oi, l[i]? = some oi ∧ isStore oi.op = false) ∨ shape v = shape (objT E o0 i id) := by
      intro i v hi hw
      obtain ⟨oi, hoi⟩ : ∃ oi, l[i]? = some oi := ⟨l[i], List.getElem?_eq_getElem hi⟩
      cases hst : isStore oi.op with
      | false => exact .inl ⟨oi, hoi, hst⟩
      | true =>
        right
        unfold Wo at hw
        cases hE : (E i).1 with
        | none => rw [hE] at hw; cases hw
        | some e =>
          rw [hE] at hw
          exact store_shape hst ((hfact i oi hoi).eff e hE).1 hw
    have hard : ∀ i, i < l.length → i ≠ j → Wo E i id ≠ none → (∃ oi, l[i]? = some oi ∧ isStore oi.op = false) → (i < j → S i = true) ∧ (j < i → S i = false) := by
      rintro i hi hne hw ⟨oi, hoi, hst⟩
      exact res_st i (2 * id + 1) hi hne ((keys_of hoi hw).2 hst) (.inl ht)
    have both : ∀ i k, i < k → k < l.length → Wo E i id ≠ none → Wo E k id ≠ none → S k = true → S i = true := by
      intro i k hik hk hwi hwk hSk
      obtain ⟨oi, hoi⟩ : ∃ oi, l[i]? = some oi := ⟨l[i]'(by omega), List.getElem?_eq_getElem _⟩
      obtain ⟨ok, hok⟩ : ∃ ok, l[k]? = some ok := ⟨l[k], List.getElem?_eq_getElem hk⟩
      have := (res_ord hreg hcf (by omega) hk (by omega) (keys_of hoi hwi).1 (.inr (keys_of hok hwk).1)).1 hik
      exact this.closed hS hSk
    have stepT : ∀ m, objT E o0 (m + 1) id = match Wo E m id with | some v => v | none => objT E o0 m id := by
      intro m
      simp only [objT, stAt, if_true]
      cases Wo E m id <;> rfl
    have flat : ∀ m, j ≤ m → m ≤ l.length → (∀ i, j ≤ i → i < m → Wo E i id ≠ none → ¬ ∃ oi, l[i]? = some oi ∧ isStore oi.op = false) → shape (objT E o0 m id) = shape (objT E o0 j id) := by
      intro m hjm
      induction m with
      | zero => intro _ _; rw [show j = 0 by omega]
      | succ m ih =>
        intro hm hno
        by_cases e : j = m + 1
        · rw [e]
        · rw [stepT]
          have ih' := ih (by omega) (by omega) fun i h1 h2 => hno i h1 (by omega)
          cases hw : Wo E m id with
          | none => exact ih'
          | some v =>
            rcases soft m v (by omega) hw with hh | hh
            · exact absurd hh (hno m (by omega) (by omega) (by rw [hw]; simp))
            · simp only; rw [hh, ih']
    have low : ∀ m, m ≤ j → shape (stAt (Wo E) S o0 id m) = shape (objT E o0 m id) := by
      intro m
      induction m with
      | zero => intro _; rfl
      | succ m ih =>
        intro hm
        have ih' := ih (by omega)
        rw [stepT]
        simp only [stAt]
        cases hw : Wo E m id with
        | none => cases S m <;> simpa using ih'
        | some v =>
          rcases soft m v (by omega) hw with hh | hh
          · rw [(hard m (by omega) (by omega) (by rw [hw]; simp) hh).1 (by omega)]
            rfl
          · simp only
            cases S m with
            | true => rfl
            | false => simp only [Bool.false_eq_true, if_false]; rw [ih', hh]
    have high : ∀ m, j ≤ m → m ≤ l.length → shape (stAt (Wo E) S o0 id m) = shape (objT E o0 j id) := by
      intro m hjm
      induction m with
      | zero => intro _; rw [show j = 0 by omega]; rfl
      | succ m ih =>
        intro hm
        by_cases e : j = m + 1
        · rw [← e]; exact low j (Nat.le_refl _)
        · have ih' := ih (by omega) (by omega)
          simp only [stAt]
          cases hw : Wo E m id with
          | none => cases S m <;> simpa using ih'
          | some v =>
            have hmj : m ≠ j := fun e' => by rw [e', hjn] at hw; cases hw
            cases hSm : S m with
            | false => simp only [Bool.false_eq_true, if_false]; exact ih'
            | true =>
              simp only [if_true]
              rcases soft m v (by omega) hw with hh | hh
              · have := (hard m (by omega) hmj (by rw [hw]; simp) hh).2 (by omega)
                rw [hSm] at this; cases this
              · rw [hh]
                refine flat m (by omega) (by omega) fun i h1 h2 h3 h4 => ?_
                have hij : i ≠ j := fun e' => h3 (by rw [e']; exact hjn)
                have h5 := both i m h2 (by omega) h3 (by rw [hw]; simp) hSm
                have h6 := (hard i (by omega) hij h3 h4).2 (by omega)
                rw [h5] at h6; cases h6
    exact high l.length (Nat.le_of_lt hjl) (Nat.le_refl _)
  have hgS : ∀ t, putG (getS l E g0 S) o.dst (E j).2 t = getS l E g0 (fun i => S i || i == j) t := by
    intro t
    have hdj : dstOf l j = o.dst := by simp [dstOf, hj]
    unfold putG getS
    by_cases hd : o.dst = some t
    · rw [if_pos hd]
      have hw : Wt l E j t = some (E j).2 := by unfold Wt; rw [hdj, if_pos hd]
      rw [stAt_add hw hjl]
      intro i h1 h2 h3
      cases hwi : Wt l E i t with
      | none => rfl
      | some v =>
        have := (wt_ord i t (by omega) (by rw [hwi]; simp) (.inr hd)).2 h1
        rw [this] at h3; cases h3
    · rw [if_neg hd]
      have hw : Wt l E j t = none := by unfold Wt; rw [hdj, if_neg hd]
      rw [stAt_add_none hw]
  have hoS : ∀ id, (match (E j).1 with | some e => updL (objS l E o0 S) e.wr id | none => objS l E o0 S id) = objS l E o0 (fun i => S i || i == j) id := by
    intro id
    unfold objS
    cases hw : Wo E j id with
    | none =>
      rw [stAt_add_none hw]
      unfold Wo at hw
      cases hE : (E j).1 with
      | none => rfl
      | some e =>
        rw [hE] at hw
        simp only [Option.bind_some] at hw
        simp only [updL_find, hw, Option.getD_none]
    | some v =>
      rw [stAt_add hw hjl]
      · unfold Wo at hw
        cases hE : (E j).1 with
        | none => rw [hE] at hw; simp at hw
        | some e =>
          rw [hE] at hw
          simp only [Option.bind_some] at hw
          simp only [updL_find, hw, Option.getD_some]
      · intro i h1 h2 h3
        cases hwi : Wo E i id with
        | none => rfl
        | some u =>
          have := (hobj_ord i id h2 (by omega) (by rw [hwi]; simp) (.inr (by rw [hw]; simp))).2 h1
          rw [this] at h3; cases h3
  have hf := hfact j o hj
  unfold wpOp
  rw [hja]
  simp only
  have hwanted : Region.wanted o (yielded l.toArray a.tmps) = (E j).1.isSome := by
    have hg := hf.guard
    unfold Region.wanted
    cases hgd : o.guard with
    | none => rw [hgd] at hg; simp only at hg ⊢; rw [hg]
    | some qw =>
      obtain ⟨q, want⟩ := qw
      rw [hgd] at hg
      obtain ⟨t, h1, h2⟩ := hg
      simp only
      have hlook : t ∈ o.looksAt l.toArray := by
        unfold Oper.looksAt
        rw [hgd]
        unfold dstOf at h1
        simp only [List.mem_append, List.getElem?_toArray]
        right
        simp [h1]
      have hval := hrel.tmp t
      rw [hget t hlook] at hval
      have hdst : (l.toArray[q]?).bind (fun o => o.dst) = some t := by unfold dstOf at h1; simpa using h1
      have isb : ∀ b, a.tmps.getD t undef = .bool b → yielded l.toArray a.tmps q = some b := by
        intro b hb
        have hlt : t < a.tmps.size := by
          rcases Nat.lt_or_ge t a.tmps.size with hlt | hge
          · exact hlt
          · simp [Array.getElem?_eq_none hge, undef] at hb
        have : a.tmps[t]? = some (.bool b) := by
          simp [hlt] at hb
          simp [hlt, hb]
        simp only [yielded, hdst, Option.bind_some, this]
      have isu : a.tmps.getD t undef = undef → yielded l.toArray a.tmps q = none := by
        intro hb
        rcases Nat.lt_or_ge t a.tmps.size with hlt | hge
        · have : a.tmps[t]? = some undef := by
            simp [hlt] at hb
            simp [hlt, hb]
          simp only [yielded, hdst, Option.bind_some, this, undef]
        · simp only [yielded, hdst, Option.bind_some, Array.getElem?_eq_none hge]
      unfold guardV at h2
      split at h2
      · rename_i b hb
        simp only [Option.some.injEq] at h2
        rw [hb] at hval
        simp only [RepA, RepD] at hval
        rw [isb b hval, ← h2]
        cases b <;> cases want <;> rfl
      · rename_i gq b hb
        simp only [Option.some.injEq] at h2
        rw [hb] at hval
        simp only [RepA, RepD] at hval
        cases gq with
        | true =>
          rw [isb b (hval.1 rfl), ← h2]
          cases b <;> cases want <;> rfl
        | false =>
          rw [isu (hval.2 rfl), ← h2]
          cases want <;> rfl
      · cases h2
  rw [hwanted]
  cases hE : (E j).1 with
  | none =>
    simp only [Option.isSome_none, Bool.false_eq_true, if_false]
    refine hK g _ w ?_ (Step.refl g w)
    have hr := rel_put (U' := fun k => k < base ∨ ∃ i, i < l.length ∧ (S i || i == j) = true ∧ k = base + i) (dst := o.dst) (v := (E j).2) (u := undef) hrel hrel.heap ⟨fun b hb => ⟨hb, rfl⟩, fun _ hx => hx, fun _ _ => .inl rfl⟩
      (fun k hk => (hrel.used k hk).imp (fun h => h) fun ⟨i, h1, h2, h3⟩ => ⟨i, h1, by simp [h2], h3⟩) (hf.skip hE g w) hf.dst
    exact hr.congr (fun t => (hgS t).symm) (fun id => by have := hoS id; rw [hE] at this; exact this.symm)
  | some e =>
    simp only [Option.isSome_some, if_true]
    left
    obtain ⟨heff, hob, hso, hval⟩ := hf.eff e hE
    have htouch : touch l E g0 orc j = touched (find orc j) o.op (argsG (getT l E g0 j) o) := by unfold touch; rw [hj]
    have hargs_eq : argsG (getS l E g0 S) o = argsG (getT l E g0 j) o := by
      unfold argsG
      refine List.map_congr_left fun x hx => ?_
      cases x with
      | tmp t =>
        simp only [evalG]
        refine hget t ?_
        unfold Oper.looksAt
        refine List.mem_append_left _ (List.mem_filterMap.2 ⟨.tmp t, hx, rfl⟩)
      | _ => rfl
    have heff' : Abs.eff ty P (find orc j) o.op (objS l E o0 S) (base + j) (argsE o (argsG (getS l E g0 S) o)) = some e := by
      rw [hargs_eq, ← heff]
      have hte : touched (find orc j) o.op (argsE o (argsG (getT l E g0 j) o)) = touch l E g0 orc j := by rw [htouch]; unfold touched; rw [idsL_argsE]
      refine eff_congr2 (fun id hid => hobj id (by rw [← hte]; exact hid)) fun hsoft id hid => hshape id ?_ (by rw [← hte]; exact hid)
      unfold Wo
      rw [hE]
      simp only [Option.bind_some, soft_wr hsoft heff, pushL, find]
    have hreps : RepAs g w (argsG (getS l E g0 S) o) (o.op.operands.toList.map a.eval) := by
      refine RepAs.of_get (by simp [argsG]) fun k av hk => ?_
      unfold argsG at hk
      rw [List.getElem?_map] at hk ⊢
      cases hx : o.op.operands.toList[k]? with
      | none => rw [hx] at hk; cases hk
      | some x =>
        rw [hx] at hk
        cases hk
        refine ⟨a.eval x, rfl, ?_⟩
        cases x with
        | tmp t => simp only [evalG]; exact hrel.tmp t
        | const v => exact cav_rep g w v
        | global i => simp [evalG, RepA]
        | func f => simp only [evalG, RepA, RepD, Act.eval]; exact ⟨[], rfl, by simp [RepDs]⟩
    refine op_step hc (nid := base + j) hrel ?_ (args := argsE o (argsG (getS l E g0 S) o)) ?_ heff' hob hf.dst fun g' a' w' hr hst => hK g' a' w' ?_ hst
    · rintro (h | ⟨i, h1, h2, h3⟩)
      · omega
      · have : i = j := by omega
        subst this
        rw [hSj] at h2; cases h2
    · unfold argsE
      cases hgd : o.guard with
      | none => exact hreps
      | some _ => exact strips_repG hreps (by rw [hargs_eq]; exact hso (by rw [hgd]; simp))
    · have hr' : Rel (fun k => (k < base ∨ ∃ i, i < l.length ∧ S i = true ∧ k = base + i) ∨ k = base + j) g' (putG (getS l E g0 S) o.dst (E j).2) (updL (objS l E o0 S) e.wr) n a' w' := by
        refine ⟨hr.defers, hr.size, fun t => ?_, hr.used, hr.heap⟩
        have := hr.tmp t
        unfold putG at this ⊢
        split
        · rename_i e'
          rw [if_pos e'] at this
          exact hval _ _ _ this
        · rename_i e'
          rw [if_neg e'] at this
          exact this
      have h1 := hr'.congr (get' := getS l E g0 fun i => S i || i == j) (obj' := objS l E o0 fun i => S i || i == j) (fun t => (hgS t).symm) (fun id => by have := hoS id; rw [hE] at this; exact this.symm)
      refine ⟨h1.defers, h1.size, h1.tmp, fun k hk => ?_, h1.heap⟩
      rcases h1.used k hk with (h | ⟨i, q1, q2, q3⟩) | h
      · exact .inl h
      · exact .inr ⟨i, q1, by simp [q2], q3⟩
      · exact .inr ⟨j, hjl, by simp, h⟩

end
end Go.Abs
