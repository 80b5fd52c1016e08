/-
  Texts of this seat put together: Abs11, Abs12, Abs13, Abs14, Abs15, Abs16, Abs17, Abs18.
-/
import Derived.Test.YtdddknniooimmaaGreatJF2
import Derived.ChangeKeysEq
set_option linter.unusedVariables false
set_option linter.unusedSectionVars false
set_option linter.unusedSimpArgs false
namespace Go.Abs
variable [Flag]

def avEq : AV -> AV -> Bool
 | .any, .any => true
 | .nl, .nl => true
 | .d (.bool a), .d (.bool b) => a == b
 | .d (.int k a), .d (.int k' b) => decide (k = k') && decide (a = b)
 | .d (.str a), .d (.str b) => decide (a.data = b.data)
 | .d .np, .d .np => true
 | _, _ => false

theorem avEq_sound {a b : AV} (h : avEq a b = true) : a = b := by
 unfold avEq at h;split at h <;> simp at h ⊢
 ·exact h
 ·exact h
 ·rename_i a b;cases a; cases b; simpa using h

def avsEq : List AV -> List AV -> Bool
 | [], [] => true
 | a :: as, b :: bs => avEq a b && avsEq as bs
 | _, _ => false

theorem avsEq_sound : ∀ {a b : List AV}, avsEq a b = true -> a = b
 | [], [], _ => rfl
 | a :: as, b :: bs, h => by
  simp only [avsEq, Bool.and_eq_true] at h;rw [avEq_sound h.1, avsEq_sound h.2]
 | [], _ :: _, h => by simp [avsEq] at h
 | _ :: _, [], h => by simp [avsEq] at h

def kindB (P : Program) (t : TypeId) : TK -> Bool
 | .slice e => match P.underlying t with | some (.slice e') => e == e' | _ => false
 | .struct l => match P.underlying t with
  | some (.struct fs) => decide (fs.toList.map (fun f => (f.offset, P.cellsOf f.type, (P.underlying f.type).any zgf)) = l) && fs.toList.all (fun f => (P.underlying f.type).isSome && decide (P.cellsOf f.type ≠ 0))
  | _ => false
 | .arr n e => match P.underlying t with | some (.array n' e') => n == n' && e == e' | _ => false
 | .int k => match P.underlying t with | some (.int k') => decide (k = k') | _ => false
 | .bool => match P.underlying t with | some .bool => true | _ => false
 | .str => match P.underlying t with | some .string => true | _ => false
 | .one => (P.underlying t).any fun d => !zgf d
 | .map k e => match P.underlying t with | some (.map k' e') => k == k' && e == e' | _ => false

def eqElemB (P : Program) (e : TypeId) (q : Nat) : Bool :=
 (zkr P e q && P.cellsOf e == 1) || (P.stoodInHeld e == false && match P.underlying e with
  | some (.struct fs) => fs.toList.zipIdx.all (fun x => decide (x.1.offset = x.2) && decide (x.1.name ≠ "_") && zkr P x.1.type q) && fs.toList.length == P.cellsOf e
  | _ => false)
theorem eqD_app {q : Nat} : ∀ {a a' b b' : List D} {c : Bool}, a.length = a'.length -> eqD q (a ++ b) (a' ++ b') = some c -> ∃ c1 c2, eqD q a a' = some c1 /\ eqD q b b' = some c2 /\ c = (c1 && c2)
 | [], [], b, b', c, _, h => ⟨true, c, rfl, h, by simp⟩
 | x :: a, [], _, _, _, h, _ => by simp at h
 | [], y :: a', _, _, _, h, _ => by simp at h
 | x :: a, y :: a', b, b', c, hl, h => by
  have hl' : a.length = a'.length := by simpa using hl
  cases x with
  | int k n =>
   cases y with
   | int k' n' =>
    simp only [List.cons_append, eqD] at h ⊢;split at h
    ·rename_i hq;simp only [Option.map_eq_some_iff] at h;obtain ⟨c', h, rfl⟩ := h;obtain ⟨c1, c2, h1, h2, rfl⟩ := eqD_app hl' h;exact ⟨_, c2, by rw [if_pos hq, h1]; rfl, h2, by rw [Bool.and_assoc]⟩
    ·cases h
   | _ => simp [eqD] at h
  | bool n =>
   cases y with
   | bool n' =>
    simp only [List.cons_append, eqD] at h ⊢;split at h
    ·rename_i hq;simp only [Option.map_eq_some_iff] at h;obtain ⟨c', h, rfl⟩ := h;obtain ⟨c1, c2, h1, h2, rfl⟩ := eqD_app hl' h;exact ⟨_, c2, by rw [if_pos hq, h1]; rfl, h2, by rw [Bool.and_assoc]⟩
    ·cases h
   | _ => simp [eqD] at h
  | _ => simp [eqD] at h
theorem zvu {q : Nat} : ∀ {a b : List D} {c : Bool}, eqD q a b = some c -> a.length = b.length
 | [], [], _, _ => rfl
 | [], y :: b, _, h => by simp [eqD] at h
 | x :: a, [], _, h => by cases x <;> simp [eqD] at h
 | x :: a, y :: b, c, h => by
  cases x with
  | int k n =>
   cases y with
   | int k' n' =>
    simp only [eqD] at h;split at h
    ·simp only [Option.map_eq_some_iff] at h;obtain ⟨c', h, _⟩ := h;simp [zvu h]
    ·cases h
   | _ => simp [eqD] at h
  | bool n =>
   cases y with
   | bool n' =>
    simp only [eqD] at h;split at h
    ·simp only [Option.map_eq_some_iff] at h;obtain ⟨c', h, _⟩ := h;simp [zvu h]
    ·cases h
   | _ => simp [eqD] at h
  | _ => simp [eqD] at h

theorem part_agg {P : Program} {w : World} {t : TypeId} {fs : Array Field} (ht : P.underlying t = some (.struct fs)) {i : TypeInfo} (hi : P.info? t = some i) (us : List Value) (o : Nat) : (part t us.toArray o).run P w = .ok (.agg ((us.drop o).take (P.cellsOf t)).toArray) w := by
 simp [part, isAgg, run_underlying ht, run_sizeOf w hi, List.extract_toArray, List.extract_eq_take_drop]

theorem eqElem_run (P : Program) (w : World) {ro : Nat -> Prop} {e : TypeId} {q : Nat} (he : eqElemB P e q = true) {ei : TypeInfo} (hi : P.info? e = some ei) (o : Nat) (us vs : List Value) (xs ys : List D) (c : Bool)
  (hx : zq ro w xs ((us.drop o).take (P.cellsOf e))) (hy : zq ro w ys ((vs.drop o).take (P.cellsOf e))) (hl : xs.length = P.cellsOf e) (hc : eqD q xs ys = some c) :
  ∃ a b, (part e us.toArray o).run P w = .ok a w /\ (part e vs.toArray o).run P w = .ok b w /\ (Op.equalIn 9999 e a b).run P w = .ok c w := by
 simp only [eqElemB, Bool.or_eq_true, Bool.and_eq_true, beq_iff_eq] at he;rcases he with ⟨hk, h1⟩ | ⟨hs, hm⟩
 ·rw [h1] at hx hy hl;obtain ⟨x, rfl⟩ := List.length_eq_one_iff.1 hl;have hly := zvu hc;obtain ⟨y, rfl⟩ := List.length_eq_one_iff.1 hly.symm;obtain ⟨u, hu, rx⟩ := hx.get 0 x rfl;obtain ⟨v, hv, ry⟩ := hy.get 0 y rfl;have hu' : us[o]? = some u := by simpa [List.getElem?_take] using hu
  have hv' : vs[o]? = some v := by simpa [List.getElem?_take] using hv
  unfold zkr at hk;split at hk
  ·rename_i k hd;simp only [beq_iff_eq] at hk; subst hk;refine ⟨u, v, zkh hd rfl hu', zkh hd rfl hv', ?_⟩;cases x <;> cases y <;> simp [eqD] at hc
   obtain ⟨rfl, rfl⟩ := hc;simp only [zr] at rx ry;subst rx ry;exact run_equalIn_int w 9998 e _ _ _ _ hd
  ·rename_i hd;simp only [beq_iff_eq] at hk; subst hk;refine ⟨u, v, zkh hd rfl hu', zkh hd rfl hv', ?_⟩;cases x <;> cases y <;> simp [eqD] at hc
   subst hc;simp only [zr] at rx ry;subst rx ry;exact run_equalIn_bool w 9998 e _ _ hd
  ·cases hk
 ·split at hm
  ·rename_i fs hf;simp only [Bool.and_eq_true, beq_iff_eq] at hm;refine ⟨_, _, part_agg hf hi us o, part_agg hf hi vs o, ?_⟩;have hfo : P.fieldsOf e = fs := by simp [Program.fieldsOf, hf]
   rw [show (9999 : Nat) = 9998 + 1 from rfl, run_equalIn_agg w 9998 e _ _ (by rw [hfo]; exact hf) hs, hfo];exact zoh P w (g := ⟨ro, fun _ => none, fun _ => False⟩) q fs.toList 0 _ _ xs ys c hm.1 (by rw [hm.2, hl]) (by simpa using hx) (by simpa using hy) hc
  ·cases hm

theorem eqItems_run (P : Program) (w : World) {ro : Nat -> Prop} {e : TypeId} {q : Nat} (he : eqElemB P e q = true) {ei : TypeInfo} (hi : P.info? e = some ei) : ∀ (n s : Nat) (us vs : List Value) (xs ys : List D) (c : Bool),
  zq ro w xs (us.drop (s * P.cellsOf e)) -> zq ro w ys (vs.drop (s * P.cellsOf e)) -> xs.length = n * P.cellsOf e -> eqD q xs ys = some c ->
  (Op.eqItems 9999 e (P.cellsOf e) us.toArray vs.toArray (List.range' s n)).run P w = .ok c w
 | 0, s, us, vs, xs, ys, c, hx, hy, hl, hc => by
  have h1 : xs = [] := List.eq_nil_of_length_eq_zero (by simpa using hl);subst h1;have h2 := zvu hc;have h3 : ys = [] := List.eq_nil_of_length_eq_zero (by simpa using h2.symm);subst h3;simp [eqD] at hc; subst hc;simp [Op.eqItems]
 | n + 1, s, us, vs, xs, ys, c, hx, hy, hl, hc => by
  have hm : (n + 1) * P.cellsOf e = n * P.cellsOf e + P.cellsOf e := Nat.succ_mul _ _;have hly := zvu hc;have hxt := List.take_append_drop (P.cellsOf e) xs;have hyt := List.take_append_drop (P.cellsOf e) ys;rw [<- hxt, <- hyt] at hc;obtain ⟨c1, c2, h1, h2, rfl⟩ := eqD_app (by simp; omega) hc;have hx2 := hx.drop (P.cellsOf e);have hy2 := hy.drop (P.cellsOf e);rw [List.drop_drop, show s * P.cellsOf e + P.cellsOf e = (s + 1) * P.cellsOf e by rw [Nat.succ_mul]] at hx2 hy2;have ih := eqItems_run P w he hi n (s + 1) us vs _ _ c2 hx2 hy2 (by simp; omega) h2;have step : ∃ a b, (part e us.toArray (s * P.cellsOf e)).run P w = .ok a w /\ (part e vs.toArray (s * P.cellsOf e)).run P w = .ok b w /\ (Op.equalIn 9999 e a b).run P w = .ok c1 w := eqElem_run P w he hi (s * P.cellsOf e) us vs (xs.take (P.cellsOf e)) (ys.take (P.cellsOf e)) c1 (by simpa using hx.take (P.cellsOf e)) (by simpa using hy.take (P.cellsOf e)) (by simp; omega) h1;obtain ⟨a, b, p1, p2, p3⟩ := step;rw [List.range'_succ];simp only [Op.eqItems, Sem.run_bind, p1, p2, p3, Result.andThen_ok];cases c1
  ·simp
  ·simpa using ih

def tokB (P : Program) (t : TypeId) (ti : TI) : Bool :=
 (match P.info? t with
  | some i => i.size == ti.size && i.bytes == ti.bytes && (match i.zero with
   | some z => avsEq (z.cells.toList.map zav) ti.zero && z.cells.size == ti.size && z.cells.toList.all Value.oneCell' && (ti.isAgg || z.oneCell')
   | none => false)
  | none => false) && (kindB P t ti.kind && t != strE) &&
 (ti.eqs == 0 || (P.stoodInHeld t == false && P.eqGuardType P.depth t == false && (match P.underlying t with
  | some (.struct fs) => fs.toList.zipIdx.all (fun x => decide (x.1.offset = x.2) && decide (x.1.name ≠ "_") && zkr P x.1.type ti.eqs) && fs.toList.length == ti.size
  | some (.array n e) => eqElemB P e ti.eqs && (P.info? e).isSome && n * P.cellsOf e == ti.size
  | _ => false)))

theorem tok_sound {P : Program} {t : TypeId} {ti : TI} (h : tokB P t ti = true) : TOk P t ti := by
 simp only [tokB, Bool.and_eq_true] at h;obtain ⟨⟨h1, h2, hne⟩, h3⟩ := h;refine ⟨?_, ?_, fun he => ?_, fun he fs hf => ?_, by simpa using hne, fun i z hi hz hag => ?_⟩
 ·cases hi : P.info? t with
  | none => rw [hi] at h1; cases h1
  | some i =>
   rw [hi] at h1;simp only [Bool.and_eq_true, beq_iff_eq] at h1;obtain ⟨⟨k1, k2⟩, k3⟩ := h1;cases hz : i.zero with
   | none => rw [hz] at k3; cases k3
   | some z =>
    rw [hz] at k3;simp only [Bool.and_eq_true, beq_iff_eq] at k3;exact ⟨i, z, rfl, k1, k2, hz, avsEq_sound k3.1.1.1, k3.1.1.2, k3.1.2⟩
 ·unfold kindB at h2;cases hk : ti.kind <;> rw [hk] at h2 <;> simp only at h2 ⊢
  case slice e =>
   split at h2
   ·rename_i e' he; rw [he]; simp at h2; rw [h2]
   ·cases h2
  case struct l =>
   split at h2
   ·rename_i fs he;simp only [Bool.and_eq_true, decide_eq_true_eq] at h2;exact ⟨fs, he, h2.1, h2.2⟩
   ·cases h2
  case arr n e =>
   split at h2
   ·rename_i n' e' he; rw [he]; simp at h2; rw [h2.1, h2.2]
   ·cases h2
  case int k =>
   split at h2
   ·rename_i k' he; rw [he]; simp at h2; rw [h2]
   ·cases h2
  case bool =>
   split at h2
   ·rename_i he; exact he
   ·cases h2
  case str =>
   split at h2
   ·rename_i he; exact he
   ·cases h2
  case one => exact h2
  case map k e =>
   split at h2
   ·rename_i k' e' he; rw [he]; simp at h2; rw [h2.1, h2.2]
   ·cases h2
 ·have he' : (ti.eqs == 0) = false := by simpa using he
  simp only [he', Bool.false_or, Bool.and_eq_true, beq_iff_eq] at h3;obtain ⟨⟨k1, k2⟩, k3⟩ := h3;split at k3
  ·rename_i fs hf;simp only [Bool.and_eq_true, beq_iff_eq] at k3;refine ⟨k2, fun w ro us vs xs ys c hx hy hn hc => ?_⟩;have hfo : P.fieldsOf t = fs := by simp [Program.fieldsOf, hf]
   rw [show (10000 : Nat) = 9999 + 1 from rfl, run_equalIn_agg w 9999 t us.toArray vs.toArray (by rw [hfo]; exact hf) k1, hfo];exact zoh P w (g := ⟨ro, fun _ => none, fun _ => False⟩) ti.eqs fs.toList 0 us vs xs ys c k3.1 (by rw [k3.2, hn]) (by simpa using hx) (by simpa using hy) hc
  ·rename_i n e hf;simp only [Bool.and_eq_true, beq_iff_eq] at k3;obtain ⟨⟨k3, k4⟩, k5⟩ := k3;obtain ⟨ei, hi⟩ := Option.isSome_iff_exists.1 k4;refine ⟨k2, fun w ro us vs xs ys c hx hy hn hc => ?_⟩;rw [show (10000 : Nat) = 9999 + 1 from rfl, run_equalIn_array w 9999 _ _ hf hi, List.range_eq_range'];exact eqItems_run P w k3 hi n 0 us vs xs ys c (by simpa using hx) (by simpa using hy) (by omega) hc
  ·cases k3
 ·have he' : (ti.eqs == 0) = false := by simpa using he
  simp only [he', Bool.false_or, Bool.and_eq_true, beq_iff_eq, hf] at h3;exact ⟨h3.1.1, h3.2.1, h3.2.2⟩
 ·rw [hi] at h1;simp only [hz, hag, Bool.false_or, Bool.and_eq_true] at h1;exact h1.2.2

theorem find_mem {α : Type} : ∀ {l : List (Nat × α)} {t : Nat} {v : α}, find l t = some v -> (t, v) ∈ l
 | [], t, v, h => by simp [find] at h
 | (k, x) :: r, t, v, h => by
  simp only [find] at h;split at h
  ·rename_i e; subst e; cases h; exact List.mem_cons_self
  ·exact List.mem_cons_of_mem _ (find_mem h)

theorem ctx_of_table {P : Program} (tab : List (Nat × TI)) (h : tab.all (fun x => tokB P x.1 x.2) = true) : Ctx P (find tab) :=
 ⟨fun t ti ht => tok_sound (List.all_eq_true.1 h _ (find_mem ht))⟩

end Go.Abs

namespace Go.Abs
variable [Flag]
open Go.RowKit

def zhn {V : Type} (W : Nat -> Nat -> Option V) (S : Nat -> Bool) (s0 : Nat -> V) (k : Nat) : Nat -> V
 | 0 => s0 k
 | m + 1 => match (if S m then W m k else none) with | some v => v | none => zhn W S s0 k m

section
variable {V : Type} {W : Nat -> Nat -> Option V} {S S' : Nat -> Bool} {s0 : Nat -> V} {k : Nat}

theorem zhv : ∀ {m : Nat}, (∀ i, i < m -> W i k ≠ none -> S i = S' i) -> zhn W S s0 k m = zhn W S' s0 k m
 | 0, _ => rfl
 | m + 1, h => by
  simp only [zhn];rw [zhv (m := m) fun i hi hw => h i (by omega) hw];cases hw : W m k with
  | none => simp
  | some v => rw [h m (by omega) (by rw [hw]; simp)]

theorem zmf {j : Nat} : ∀ {m : Nat}, j <= m -> (∀ i, j <= i -> i < m -> S i = true -> W i k = none) -> zhn W S s0 k m = zhn W S s0 k j
 | 0, hj, _ => by have : j = 0 := by omega
                  subst this; rfl
 | m + 1, hj, h => by
  by_cases e : j = m + 1
  ·subst e; rfl
  ·simp only [zhn];rw [zmf (m := m) (by omega) fun i h1 h2 h3 => h i h1 (by omega) h3];cases hs : S m with
   | false => simp
   | true => rw [h m (by omega) (by omega) hs]; simp

theorem stAt_add {j : Nat} {v : V} (hw : W j k = some v) : ∀ {m : Nat}, j < m -> (∀ i, j < i -> i < m -> S i = true -> W i k = none) -> zhn W (fun i => S i || i == j) s0 k m = v
 | 0, hj, _ => by omega
 | m + 1, hj, h => by
  simp only [zhn];by_cases e : m = j
  ·subst e; simp [hw]
  ·rw [stAt_add hw (m := m) (by omega) fun i h1 h2 h3 => h i h1 (by omega) h3];have : (m == j) = false := by simpa using e
   simp only [this, Bool.or_false];cases hs : S m with
   | false => simp
   | true => rw [h m (by omega) (by omega) hs]; simp

theorem zsj {j : Nat} (hw : W j k = none) : ∀ {m : Nat}, zhn W (fun i => S i || i == j) s0 k m = zhn W S s0 k m := by
 intro m;refine zhv fun i _ hn => ?_;have : i ≠ j := fun e => hn (e ▸ hw);simp [this]

end

mutual
def ids : AV -> List Nat
 | .hs id _ _ => [id]
 | .ptr id _ _ => [id]
 | .hm id => [id]
 | .agg l => zhf l
 | .clo _ l => zhf l
 | .tup l => zhf l
 | .opt _ x => ids x
 | _ => []
def zhf : List AV -> List Nat
 | [] => []
 | a :: as => ids a ++ zhf as
end

mutual
theorem snap_congr {hp hp' : Nat -> Option Ob} : ∀ (x : AV), (∀ id ∈ ids x, hp id = hp' id) -> zho hp x = zho hp' x
 | .any, _ => rfl
 | .opt _ _, _ => rfl
 | .ub _ _, _ => rfl
 | .lit _, _ => rfl
 | .pin _ _, _ => rfl
 | .nl, _ => rfl
 | .d _, _ => rfl
 | .hs id off len, h => by simp only [zho]; rw [h id (by simp [ids])]
 | .ptr id i j, h => by simp only [zho]; rw [h id (by simp [ids])]
 | .hm id, h => by simp only [zho]; rw [h id (by simp [ids])]
 | .agg l, h => by simp only [zho]; rw [zio l (by simpa [ids] using h)]
 | .clo f l, h => by simp only [zho]; rw [zio l (by simpa [ids] using h)]
 | .tup l, h => by simp only [zho]; rw [zio l (by simpa [ids] using h)]
theorem zio {hp hp' : Nat -> Option Ob} : ∀ (x : List AV), (∀ id ∈ zhf x, hp id = hp' id) -> zmg hp x = zmg hp' x
 | [], _ => rfl
 | a :: as, h => by
  simp only [zmg];rw [snap_congr a fun id hi => h id (by simp [zhf, hi]), zio as fun id hi => h id (by simp [zhf, hi])]
end

def orcIds : Option Res -> List Nat
 | some (.x c) => c.σ.map (·.2)
 | _ => []
def zbi : Op -> Bool
 | .indexAddr _ _ _ => true
 | .fieldAddr _ _ _ => true
 | .nilCheck _ => true
 | .call c => match c.callee with | .builtin .len => true | _ => false
 | _ => false
def zci : Op -> Bool
 | .move _ => true
 | .assign _ => true
 | .pick _ _ _ => true
 | .box _ _ => true
 | .build _ _ => true
 | .buildSlice _ _ _ => true
 | .makeFunc _ _ _ => true
 | .field _ _ _ => true
 | .extract _ _ => true
 | _ => false
def zaz : Op -> Bool
 | .store _ _ _ => true
 | _ => false
theorem sf_move {x} : zbi (.move x) = false := rfl
theorem ss_move {x} : zaz (.move x) = false := rfl
theorem sf_assign {x} : zbi (.assign x) = false := rfl
theorem ss_assign {x} : zaz (.assign x) = false := rfl
theorem sf_pick {x y z} : zbi (.pick x y z) = false := rfl
theorem ss_pick {x y z} : zaz (.pick x y z) = false := rfl
theorem sf_alloc {x} : zbi (.alloc x) = false := rfl
theorem ss_alloc {x} : zaz (.alloc x) = false := rfl
theorem sf_box {x y} : zbi (.box x y) = false := rfl
theorem ss_box {x y} : zaz (.box x y) = false := rfl
theorem sf_build {x y} : zbi (.build x y) = false := rfl
theorem ss_build {x y} : zaz (.build x y) = false := rfl
theorem sf_buildSlice {x y z} : zbi (.buildSlice x y z) = false := rfl
theorem ss_buildSlice {x y z} : zaz (.buildSlice x y z) = false := rfl
theorem sf_load {x y} : zbi (.load x y) = false := rfl
theorem ss_load {x y} : zaz (.load x y) = false := rfl
theorem sf_store {x y z} : zbi (.store x y z) = false := rfl
theorem ss_store {x y z} : zaz (.store x y z) = true := rfl
theorem sf_nilCheck {x} : zbi (.nilCheck x) = true := rfl
theorem ss_nilCheck {x} : zaz (.nilCheck x) = false := rfl
theorem sf_binOp {a x y z b} : zbi (.binOp a x y z b) = false := rfl
theorem ss_binOp {a x y z b} : zaz (.binOp a x y z b) = false := rfl
theorem sf_unOp {x y z} : zbi (.unOp x y z) = false := rfl
theorem ss_unOp {x y z} : zaz (.unOp x y z) = false := rfl
theorem sf_convert {x y z} : zbi (.convert x y z) = false := rfl
theorem ss_convert {x y z} : zaz (.convert x y z) = false := rfl
theorem sf_makeFunc {x y z} : zbi (.makeFunc x y z) = false := rfl
theorem ss_makeFunc {x y z} : zaz (.makeFunc x y z) = false := rfl
theorem sf_makeSlice {x y z} : zbi (.makeSlice x y z) = false := rfl
theorem ss_makeSlice {x y z} : zaz (.makeSlice x y z) = false := rfl
theorem sf_slice {a x y z b} : zbi (.slice a x y z b) = false := rfl
theorem ss_slice {a x y z b} : zaz (.slice a x y z b) = false := rfl
theorem sf_fieldAddr {x y z} : zbi (.fieldAddr x y z) = true := rfl
theorem ss_fieldAddr {x y z} : zaz (.fieldAddr x y z) = false := rfl
theorem sf_field {x y z} : zbi (.field x y z) = false := rfl
theorem ss_field {x y z} : zaz (.field x y z) = false := rfl
theorem sf_indexAddr {x y z} : zbi (.indexAddr x y z) = true := rfl
theorem ss_indexAddr {x y z} : zaz (.indexAddr x y z) = false := rfl
theorem sf_index {x y z} : zbi (.index x y z) = false := rfl
theorem ss_index {x y z} : zaz (.index x y z) = false := rfl
theorem sf_extract {x y} : zbi (.extract x y) = false := rfl
theorem ss_extract {x y} : zaz (.extract x y) = false := rfl
theorem sf_lookup {a x y z} : zbi (.lookup a x y z) = false := rfl
theorem ss_lookup {a x y z} : zaz (.lookup a x y z) = false := rfl
theorem sf_mapUpdate {a x y z} : zbi (.mapUpdate a x y z) = false := rfl
theorem ss_mapUpdate {a x y z} : zaz (.mapUpdate a x y z) = false := rfl
theorem sf_makeInterface {x y} : zbi (.makeInterface x y) = false := rfl
theorem ss_makeInterface {x y} : zaz (.makeInterface x y) = false := rfl
theorem sf_makeMap {x y} : zbi (.makeMap x y) = false := rfl
theorem ss_makeMap {x y} : zaz (.makeMap x y) = false := rfl
theorem sf_len {x y} : zbi (.call ⟨.builtin .len, x, y⟩) = true := rfl
theorem sf_append {x y} : zbi (.call ⟨.builtin .append, x, y⟩) = false := rfl
theorem sf_delete {x y} : zbi (.call ⟨.builtin .delete, x, y⟩) = false := rfl
theorem sf_min {x y} : zbi (.call ⟨.builtin .min, x, y⟩) = false := rfl
theorem sf_max {x y} : zbi (.call ⟨.builtin .max, x, y⟩) = false := rfl
theorem sf_fun {f x y} : zbi (.call ⟨.value f, x, y⟩) = false := rfl
theorem ss_call {x} : zaz (.call x) = false := rfl
theorem sb_move {x} : zci (.move x) = true := rfl
theorem sb_assign {x} : zci (.assign x) = true := rfl
theorem sb_pick {x y z} : zci (.pick x y z) = true := rfl
theorem sb_alloc {x} : zci (.alloc x) = false := rfl
theorem sb_box {x y} : zci (.box x y) = true := rfl
theorem sb_build {x y} : zci (.build x y) = true := rfl
theorem sb_buildSlice {x y z} : zci (.buildSlice x y z) = true := rfl
theorem sb_load {x y} : zci (.load x y) = false := rfl
theorem sb_store {x y z} : zci (.store x y z) = false := rfl
theorem sb_nilCheck {x} : zci (.nilCheck x) = false := rfl
theorem sb_binOp {a x y z b} : zci (.binOp a x y z b) = false := rfl
theorem sb_unOp {x y z} : zci (.unOp x y z) = false := rfl
theorem sb_convert {x y z} : zci (.convert x y z) = false := rfl
theorem sb_makeFunc {x y z} : zci (.makeFunc x y z) = true := rfl
theorem sb_makeSlice {x y z} : zci (.makeSlice x y z) = false := rfl
theorem sb_slice {a x y z b} : zci (.slice a x y z b) = false := rfl
theorem sb_fieldAddr {x y z} : zci (.fieldAddr x y z) = false := rfl
theorem sb_field {x y z} : zci (.field x y z) = true := rfl
theorem sb_indexAddr {x y z} : zci (.indexAddr x y z) = false := rfl
theorem sb_index {x y z} : zci (.index x y z) = false := rfl
theorem sb_extract {x y} : zci (.extract x y) = true := rfl
theorem sb_lookup {a x y z} : zci (.lookup a x y z) = false := rfl
theorem sb_mapUpdate {a x y z} : zci (.mapUpdate a x y z) = false := rfl
theorem sb_makeInterface {x y} : zci (.makeInterface x y) = false := rfl
theorem sb_makeMap {x y} : zci (.makeMap x y) = false := rfl
theorem sb_call {x} : zci (.call x) = false := rfl
def two : List Nat -> List Nat
 | [] => []
 | x :: l => 2 * x :: (2 * x + 1) :: two l
def odd : List Nat -> List Nat
 | [] => []
 | x :: l => (2 * x + 1) :: odd l
def even : List Nat -> List Nat
 | [] => []
 | x :: l => 2 * x :: even l
def zbz (orc : Option Res) (op : Op) (args : List AV) : List Nat := bif zci op then [] else bif zbi op then odd (zhf args) else two (orcIds orc ++ zhf args)
def zqf (op : Op) (wr : List (Nat × Option Ob)) : List Nat := bif zaz op then even (wr.map (·.1)) else two (wr.map (·.1))

theorem mem_two {x : Nat} : ∀ {l : List Nat}, x ∈ l -> 2 * x ∈ two l /\ 2 * x + 1 ∈ two l
 | y :: l, h => by
  rcases List.mem_cons.1 h with rfl | h
  ·simp [two]
  ·have := mem_two h; simp only [two, List.mem_cons]; exact ⟨.inr (.inr this.1), .inr (.inr this.2)⟩
theorem mem_odd {x : Nat} : ∀ {l : List Nat}, x ∈ l -> 2 * x + 1 ∈ odd l
 | y :: l, h => by
  rcases List.mem_cons.1 h with rfl | h
  ·simp [odd]
  ·simp only [odd, List.mem_cons]; exact .inr (mem_odd h)
theorem mem_even {x : Nat} : ∀ {l : List Nat}, x ∈ l -> 2 * x ∈ even l
 | y :: l, h => by
  rcases List.mem_cons.1 h with rfl | h
  ·simp [even]
  ·simp only [even, List.mem_cons]; exact .inr (mem_even h)

def shape (o : Option Ob) : Option (TypeId × Nat) := o.map fun o => (o.elem, o.m)

theorem shape_m {a b : Option Ob} (h : shape a = shape b) {α : Type} (f : Nat -> Option α) : (a.bind fun o => f o.m) = (b.bind fun o => f o.m) := by
 cases a <;> cases b <;> simp [shape] at h ⊢
 rw [h.2]
theorem shape_map {a b : Option Ob} (h : shape a = shape b) {α : Type} (x : α) : (a.map fun _ => x) = (b.map fun _ => x) := by
 cases a <;> cases b <;> simp [shape] at h ⊢
theorem shape_bind {a b : Option Ob} (h : shape a = shape b) {α : Type} (x : Option α) : (a.bind fun _ => x) = (b.bind fun _ => x) := by
 cases a <;> cases b <;> simp [shape] at h ⊢

theorem hpOk_congr {hp hp' : Nat -> Option Ob} {σ : List (Nat × Nat)} (h : ∀ id ∈ σ.map (·.2), hp id = hp' id) : ∀ l : List (Nat × Ob), zkz hp σ l = zkz hp' σ l
 | [] => rfl
 | (i, o) :: r => by
  simp only [zkz, hpOk_congr h r];cases hf : find σ i with
  | none => rfl
  | some x => simp only [h x (zql hf)]

theorem effCallP_congr {P : Program} {orc : Option Res} {hp hp' : Nat -> Option Ob} {nid : Nat} {args : List AV} (h : ∀ id ∈ zhf args, hp id = hp' id) : ziv P orc hp nid args = ziv P orc hp' nid args := by
 cases args with
 | nil => rfl
 | cons fv as =>
  simp only [ziv];rw [snap_congr (hp := hp) (hp' := hp') fv fun id hi => h id (by simp [zhf, hi]), zio (hp := hp) (hp' := hp') as fun id hi => h id (by simp [zhf, hi])]

theorem eff0_congr {ty : TypeId -> Option TI} {P : Program} {orc : Option Res} {op : Op} {hp hp' : Nat -> Option Ob} {nid : Nat} {args : List AV} (h' : ∀ id ∈ orcIds orc ++ zhf args, hp id = hp' id) : zfv ty P orc op hp nid args = zfv ty P orc op hp' nid args := by
 have h : ∀ id ∈ zhf args, hp id = hp' id := fun id hi => h' id (List.mem_append_right _ hi);have hx' : ∀ id ∈ orcIds orc, hp id = hp' id := fun id hi => h' id (List.mem_append_left _ hi);clear h';have one : ∀ (x : AV) (r : List AV), args = x :: r -> ∀ id ∈ ids x, hp id = hp' id := fun x r e id hi => h id (by rw [e]; simp [zhf, hi]);have two : ∀ (x y : AV) (r : List AV), args = x :: y :: r -> ∀ id ∈ ids y, hp id = hp' id := fun x y r e id hi => h id (by rw [e]; simp [zhf, hi]);unfold zfv;split <;> try rfl
 ·unfold zlo;split
  ·rw [one _ _ rfl _ (by simp [ids])]
  ·rfl
  ·rfl
 ·unfold zfj;split
  ·rfl
  ·rw [one _ _ rfl _ (by simp [ids])]
  ·rfl
  ·rfl
  ·rfl
 ·unfold zkt;split
  ·rw [one _ _ rfl _ (by simp [ids])]
  ·rfl
 ·unfold effBin;split
  ·rename_i x0;have hx := one _ _ rfl;have : isNil hp x0 = isNil hp' x0 := by
    unfold isNil;split
    ·rfl
    ·rfl
    ·rw [hx _ (by simp [ids])]
    ·rfl
   rw [this]
  all_goals rfl
 ·unfold zen;split
  ·rw [one _ _ rfl _ (by simp [ids])]
  ·rfl
  ·rfl
 ·unfold zem;split
  ·rw [one _ _ rfl _ (by simp [ids])]
  ·rfl
  ·rw [one _ _ rfl _ (by simp [ids])]
  ·rfl
  ·rfl
 ·split
  ·rfl
  ·unfold zna;split
   ·rename_i x rest;have hx := one _ _ rfl;cases x with
    | hs id off len => simp only [hx id (by simp [ids]), ziu]
    | ptr id i j => simp only [ziu, hx id (by simp [ids])]
    | d y => cases y <;> rfl
    | _ => rfl
   ·rfl
 ·unfold znb;split
  ·rename_i m k;have hm := one _ _ rfl;have h1 : zny hp m = zny hp' m := by
    unfold zny;split
    ·rw [hm _ (by simp [ids])]
    ·rfl
    ·rfl
   rw [h1]
  ·rfl
 ·unfold zhi;split
  ·rw [one _ _ rfl _ (by simp [ids])]
  ·rfl
 ·unfold zgn;split
  ·rename_i t x _;have hx := one _ _ rfl;have h1 : ∀ k, lenA hp k x = lenA hp' k x := fun k => by
    unfold lenA;split <;> first | rfl | simp only [hx _ (by simp [ids]; rfl)] | (rw [hx _ (by simp [ids])])
   simp only [h1]
  ·rename_i t t' s x _;have hs := one _ _ rfl;have hx := two _ _ _ rfl;have h1 : ∀ e m, zeo hp e m s = zeo hp' e m s := fun e m => by
    unfold zeo;split
    ·rfl
    ·rw [hs _ (by simp [ids])]
    ·rfl
   have h2 : ∀ m, zdo hp m x = zdo hp' m x := fun m => by
    unfold zdo;split
    ·rfl
    ·rfl
    ·rw [hx _ (by simp [ids])]
    ·rfl
   simp only [h1, h2]
  ·rename_i t t' id len x _;have hs := one _ _ rfl;have hx := two _ _ _ rfl;have h2 : ∀ m, zdo hp m x = zdo hp' m x := fun m => by
    unfold zdo;split
    ·rfl
    ·rfl
    ·rw [hx _ (by simp [ids])]
    ·rfl
   simp only [h2, hs id (by simp [ids])]
  ·unfold zih;split
   ·rw [one _ _ rfl _ (by simp [ids])]
   ·rfl
  ·rfl
  ·rfl
  ·rfl
 ·unfold zvy;split
  ·rename_i c fv as;have : ∀ (q : FuncId) (l : List AV), effX P q c nid hp l = effX P q c nid hp' l := fun q l => by
    unfold effX;rw [hpOk_congr (hp := hp) (hp' := hp') (fun id hi => hx' id hi) c.hp]
   simp only [this]
  ·exact effCallP_congr h

theorem eff_lift {ty : TypeId -> Option TI} {P : Program} {orc : Option Res} {op : Op} {hp hp' : Nat -> Option Ob} {nid : Nat} {args : List AV} (hn : zfv ty P none op hp nid args = zfv ty P none op hp' nid args) (ho : zfv ty P orc op hp nid args = zfv ty P orc op hp' nid args) : eff ty P orc op hp nid args = eff ty P orc op hp' nid args := by
 cases orc with
 | none => exact ho
 | some r =>
  cases r with
  | skip => rfl
  | ub b => simp only [eff, hn]
  | f d => simp only [eff, hn, ho]
  | p d => simp only [eff, ho]
  | o e m rows => simp only [eff, ho]
  | x c => exact ho

theorem eff_congr {ty : TypeId -> Option TI} {P : Program} {orc : Option Res} {op : Op} {hp hp' : Nat -> Option Ob} {nid : Nat} {args : List AV} (h' : ∀ id ∈ orcIds orc ++ zhf args, hp id = hp' id) : eff ty P orc op hp nid args = eff ty P orc op hp' nid args := by
 exact eff_lift (eff0_congr (orc := none) fun id hid => h' id (List.mem_append_right _ (by simpa [orcIds] using hid))) (eff0_congr h')

theorem soft_congr {ty : TypeId -> Option TI} {P : Program} {orc : Option Res} {op : Op} {hp hp' : Nat -> Option Ob} {nid : Nat} {args : List AV} (hsoft : zbi op = true) (h : ∀ id ∈ zhf args, shape (hp id) = shape (hp' id)) : zfv ty P orc op hp nid args = zfv ty P orc op hp' nid args := by
 have one : ∀ (x : AV) (r : List AV), args = x :: r -> ∀ id ∈ ids x, shape (hp id) = shape (hp' id) := fun x r e id hi => h id (by rw [e]; simp [zhf, hi]);cases op <;> simp only [zbi, Bool.false_eq_true, reduceCtorEq] at hsoft
 case nilCheck =>
  simp only [zfv];unfold zfj;split
  ·rfl
  ·rw [shape_map (one _ _ rfl _ (by simp [ids]))]
  ·rfl
  ·rfl
  ·rfl
 case fieldAddr t x f =>
  simp only [zfv];unfold zen;split
  ·have hs := one _ _ rfl _ (by simp [ids]; rfl);cases ty t with
   | none => rfl
   | some ti =>
    simp only [Option.bind_some];split
    ·exact shape_bind hs _
    ·rfl
  ·rfl
  ·rfl
 case indexAddr t x y =>
  simp only [zfv];unfold zem;split
  ·have hs := one _ _ rfl _ (by simp [ids]; rfl);cases ty t with
   | none => rfl
   | some ti =>
    simp only [Option.bind_some];split
    ·rename_i e _;cases ty e with
     | none => rfl
     | some te => exact shape_m hs fun m => if m = te.size then some _ else none
    ·rfl
  ·rfl
  ·have hs := one _ _ rfl _ (by simp [ids]; rfl);cases ty t with
   | none => rfl
   | some ti =>
    simp only [Option.bind_some];split
    ·rename_i n e _;cases ty e with
     | none => rfl
     | some te =>
      simp only [Option.bind_some];split
      ·rfl
      ·exact shape_map hs _
    ·rfl
  ·rfl
  ·rfl
 case call c =>
  split at hsoft
  ·rename_i hcal;obtain ⟨callee, cargs, cats⟩ := c;simp only at hcal;subst hcal;simp only [zfv];unfold zgn;split
   ·rename_i t x _ _;have hx := one _ _ rfl;cases ty t with
    | none => rfl
    | some ti =>
     simp only [Option.bind_some];unfold lenA;split
     ·rfl
     ·rfl
     ·exact shape_map (hx _ (by simp [ids])) _
     ·rfl
     ·rfl
     ·rfl
   all_goals first | contradiction | rfl
  ·cases hsoft

theorem bare_congr {ty : TypeId -> Option TI} {P : Program} {orc : Option Res} {op : Op} {hp hp' : Nat -> Option Ob} {nid : Nat} {args : List AV} (hb : zci op = true) : zfv ty P orc op hp nid args = zfv ty P orc op hp' nid args := by
 cases op <;> simp only [zci, Bool.false_eq_true] at hb <;> rfl

theorem eff_congr2 {ty : TypeId -> Option TI} {P : Program} {orc : Option Res} {op : Op} {hp hp' : Nat -> Option Ob} {nid : Nat} {args : List AV} (h1 : ∀ id, 2 * id ∈ zbz orc op args -> hp id = hp' id) (h2 : zbi op = true -> ∀ id, 2 * id + 1 ∈ zbz orc op args -> shape (hp id) = shape (hp' id)) : eff ty P orc op hp nid args = eff ty P orc op hp' nid args := by
 cases hb : zci op with
 | true =>
  exact eff_lift (bare_congr hb) (bare_congr hb)
 | false =>
  cases hs : zbi op with
  | true =>
   have h3 : ∀ id ∈ zhf args, shape (hp id) = shape (hp' id) := fun id hid => h2 hs id (by unfold zbz; rw [hb, hs]; exact mem_odd hid);exact eff_lift (soft_congr hs h3) (soft_congr hs h3)
  | false =>
   exact eff_congr fun id hid => h1 id (by unfold zbz; rw [hb, hs]; exact (mem_two hid).1)

theorem store_shape {ty : TypeId -> Option TI} {P : Program} {orc : Option Res} {op : Op} {hp : Nat -> Option Ob} {nid : Nat} {args : List AV} {e : Eff} (hst : zaz op = true) (he : eff ty P orc op hp nid args = some e) {id : Nat} {v : Option Ob} (hv : find (zdd [] e.wr) id = some v) : shape v = shape (hp id) := by
 cases op <;> simp only [zaz, Bool.false_eq_true, reduceCtorEq] at hst
 case store t x y =>
  unfold eff at he;split at he
  ·cases he
  ·exfalso
   simp only [Option.bind_eq_some_iff] at he;obtain ⟨e0, h0, he⟩ := he;simp only [zfv] at h0;unfold zkt at h0;split at h0
   ·cases ht : ty t <;> rw [ht] at h0
    ·cases h0
    ·simp only [Option.bind_eq_some_iff, Option.bind_some] at h0;obtain ⟨_, _, _, _, _, _, h0⟩ := h0;split at h0
     ·cases h0; cases he
     ·cases h0
   ·cases h0
  all_goals
   try simp only [po_store, cond_false] at he
   simp only [zfv] at he;unfold zkt at he;split at he
   ·rename_i id0 i j av;cases ht : ty t with
    | none => rw [ht] at he; cases he
    | some ti =>
     cases hob : hp id0 with
     | none => rw [ht, hob] at he; cases he
     | some ob =>
      rw [ht, hob] at he;simp only [Option.bind_some] at he;cases hrow : ob.rows[i]? with
      | none => rw [hrow] at he; cases he
      | some row =>
       rw [hrow] at he;cases hl : zcz av with
       | none => rw [hl] at he; cases he
       | some l =>
        rw [hl] at he;simp only [Option.bind_some] at he;split at he
        ·cases he;simp only [zdd, find] at hv;split at hv
         ·rename_i e0; subst e0; cases hv; rw [hob]; rfl
         ·cases hv
        ·cases he
   ·cases he

theorem soft_wr0 {ty : TypeId -> Option TI} {P : Program} {orc : Option Res} {op : Op} {hp : Nat -> Option Ob} {nid : Nat} {args : List AV} {e : Eff} (hst : zbi op = true) (he : zfv ty P orc op hp nid args = some e) : e.wr = [] := by
 have key : ∀ {α : Type} {o : Option α} {f : α -> Option Eff}, (∀ a, f a = some e -> e.wr = []) -> o.bind f = some e -> e.wr = [] := by
  intro α o f h1 h2;cases o with
  | none => cases h2
  | some a => exact h1 a h2
 have keym : ∀ {α : Type} {o : Option α} {f : α -> Eff}, (∀ a, (f a).wr = []) -> o.map f = some e -> e.wr = [] := by
  intro α o f h1 h2;cases o with
  | none => cases h2
  | some a => cases h2; exact h1 a
 cases op <;> simp only [zbi, Bool.false_eq_true, reduceCtorEq] at hst
 case nilCheck =>
  simp only [zfv] at he;unfold zfj at he;split at he
  ·cases he; rfl
  ·exact keym (fun _ => rfl) he
  ·cases he; rfl
  ·cases he; rfl
  ·cases he
 case fieldAddr t x f =>
  simp only [zfv] at he;unfold zen at he;split at he
  ·refine key (fun ti h => ?_) he;split at h
   ·exact key (fun _ h => keym (fun _ => rfl) h) h
   ·cases h
  ·refine key (fun ti h => ?_) he;split at h
   ·exact keym (fun _ => rfl) h
   ·cases h
  ·cases he
 case indexAddr t x y =>
  simp only [zfv] at he;unfold zem at he;split at he
  ·refine key (fun ti h => ?_) he;split at h
   ·refine key (fun te h => key (fun o h => ?_) h) h;split at h
    ·cases h; rfl
    ·cases h
   ·cases h
  ·refine key (fun ti h => ?_) he;split at h
   ·exact key (fun _ h => keym (fun _ => rfl) h) h
   ·cases h
  ·refine key (fun ti h => ?_) he;split at h
   ·refine key (fun te h => ?_) h;split at h
    ·cases h
    ·exact keym (fun _ => rfl) h
   ·cases h
  ·refine key (fun ti h => ?_) he;split at h
   ·refine key (fun te h => ?_) h;split at h
    ·cases h
    ·cases h; rfl
   ·cases h
  ·cases he
 case call c =>
  split at hst
  ·rename_i hcal;obtain ⟨callee, cargs, cats⟩ := c;simp only at hcal;subst hcal;simp only [zfv] at he;unfold zgn at he;split at he
   ·refine key (fun ti h => ?_) he;unfold lenA at h;split at h
    ·cases h; rfl
    ·cases h; rfl
    ·exact keym (fun _ => rfl) h
    ·cases h; rfl
    ·cases h; rfl
    ·cases h
   all_goals first | contradiction | (cases he; done)
  ·cases hst

theorem soft_wr {ty : TypeId -> Option TI} {P : Program} {orc : Option Res} {op : Op} {hp : Nat -> Option Ob} {nid : Nat} {args : List AV} {e : Eff} (hst : zbi op = true) (he : eff ty P orc op hp nid args = some e) : e.wr = [] := by
 have main : ∀ {r : Option Res} {e : Eff}, zfv ty P r op hp nid args = some e -> e.wr = [] := fun {r e} he => soft_wr0 hst he;unfold eff at he;split at he
 ·cases he
 ·simp only [Option.bind_eq_some_iff] at he;obtain ⟨e0, h0, he⟩ := he;unfold fixU at he;split at he
  ·cases he; have hw := main h0; exact hw
  ·cases he
 ·split at he
  ·cases hst
  ·cases hst
  ·exact main he
 ·have hp : zhb op = false := by cases op <;> first | rfl | cases hst
  rw [hp] at he; exact main he
 ·have hp : zhb op = false := by cases op <;> first | rfl | cases hst
  rw [hp] at he; exact main he
 ·exact main he

inductive Anc (ops : Array Oper) : Nat -> Nat -> Prop where
 | edge {j : Nat} {o : Oper} {e : Edge} (h : ops[j]? = some o) (he : e ∈ o.after) (hb : Region.binds .any e = true) : Anc ops e.on j
 | step {i j : Nat} {o : Oper} {e : Edge} (h : ops[j]? = some o) (he : e ∈ o.after) (hb : Region.binds .any e = true) (ha : Anc ops i e.on) : Anc ops i j

def Closed (ops : Array Oper) (L : Nat -> Prop) : Prop := ∀ j o, ops[j]? = some o -> L j -> ∀ e ∈ o.after, Region.binds .any e = true -> L e.on

theorem Anc.closed {ops : Array Oper} {L : Nat -> Prop} (hL : Closed ops L) {i j : Nat} (h : Anc ops i j) : L j -> L i := by
 induction h with
 | edge h he hb => exact fun hj => hL _ _ h hj _ he hb
 | step h he hb _ ih => exact fun hj => ih (hL _ _ h hj _ he hb)

theorem Anc.ready {ops : Array Oper} {L : Nat -> Prop} (hL : Closed ops L) {i j : Nat} (h : Anc ops i j) (hr : ∀ o, ops[j]? = some o -> ∀ e ∈ o.after, Region.binds .any e = true -> L e.on) : L i := by
 cases h with
 | edge h he hb => exact hr _ h _ he hb
 | step h he hb ha => exact ha.closed hL (hr _ h _ he hb)

def maskOf (acc : Array Nat) (o : Oper) : Nat := o.after.foldl (fun s e => if Region.binds .any e then s ||| 2 ^ e.on ||| acc.getD e.on 0 else s) 0

theorem mask_spec (acc : Array Nat) (i : Nat) : ∀ (es : List Edge) (s : Nat), (es.foldl (fun s e => if Region.binds .any e then s ||| 2 ^ e.on ||| acc.getD e.on 0 else s) s).testBit i = true ->
  s.testBit i = true \/ ∃ e ∈ es, Region.binds .any e = true /\ (e.on = i \/ (acc.getD e.on 0).testBit i = true)
 | [], s, h => .inl h
 | e :: es, s, h => by
  rw [List.foldl_cons] at h;rcases mask_spec acc i es _ h with h1 | ⟨e', he', hb, hh⟩
  ·split at h1
   ·rename_i hb;simp only [Nat.testBit_or, Bool.or_eq_true] at h1;rcases h1 with (h1 | h1) | h1
    ·exact .inl h1
    ·rw [Nat.testBit_two_pow] at h1;exact .inr ⟨e, List.mem_cons_self, hb, .inl (by simpa using h1)⟩
    ·exact .inr ⟨e, List.mem_cons_self, hb, .inr h1⟩
   ·exact .inl h1
  ·exact .inr ⟨e', List.mem_cons_of_mem _ he', hb, hh⟩

theorem before_spec (ops : Array Oper) : ∀ (l : List Oper) (acc : Array Nat), (∀ k, l[k]? = ops[acc.size + k]?) -> (∀ j i, (acc.getD j 0).testBit i = true -> Anc ops i j) ->
  ∀ j i, ((l.foldl (fun acc o => acc.push (maskOf acc o)) acc).getD j 0).testBit i = true -> Anc ops i j
 | [], acc, _, hacc, j, i, h => hacc j i h
 | o :: l, acc, hl, hacc, j, i, h => by
  rw [List.foldl_cons] at h;refine before_spec ops l (acc.push (maskOf acc o)) (fun k => by have := hl (k + 1); simpa [Nat.add_assoc, Nat.add_comm 1 k] using this) ?_ j i h;intro j i hj;by_cases e : j = acc.size
  ·subst e;have ho : ops[acc.size]? = some o := by simpa using (hl 0).symm
   simp only [Array.getD_eq_getD_getElem?, Array.getElem?_push_size, Option.getD_some] at hj;have hm := mask_spec acc i o.after.toList 0 (by rw [Array.foldl_toList]; exact hj);rcases hm with h0 | ⟨ed, he, hb, hh⟩
   ·simp at h0
   ·rcases hh with rfl | hh
    ·exact .edge ho (by simpa using he) hb
    ·exact .step ho (by simpa using he) hb (hacc _ _ hh)
  ·refine hacc j i ?_;simp only [Array.getD_eq_getD_getElem?, Array.getElem?_push, if_neg e] at hj ⊢;exact hj

theorem ztx {ops : Array Oper} {i j : Nat} (h : ((Region.before ops).getD j 0).testBit i = true) : Anc ops i j := by
 refine before_spec ops ops.toList #[] (fun k => by simp) (fun j i h => by simp at h) j i ?_;rw [Array.foldl_toList];exact h

def zps (ops : Array Oper) (cf : List (Nat × Nat)) : Bool :=
 let b := Region.before ops
 let ord (i j : Nat) : Bool := if i < j then (b.getD j 0).testBit i else (b.getD i 0).testBit j
 (List.range ops.size).all (fun j => match ops[j]? with
  | some oj => oj.after.all (fun e => !Region.binds .any e || decide (e.on < j)) &&
   (List.range ops.size).all (fun i => i == j || (match ops[i]? with
    | some oi => (match oi.dst with
     | some d => if (oj.looksAt ops).contains d || oj.dst == some d then ord i j else true
     | none => true)
    | none => true))
  | none => true) &&
 cf.all fun p => (b.getD p.2 0).testBit p.1

theorem regOk_temp {ops : Array Oper} {cf : List (Nat × Nat)} (h : zps ops cf = true) {i j : Nat} {oi oj : Oper} {d : Tmp} (hi : ops[i]? = some oi) (hj : ops[j]? = some oj) (hne : i ≠ j) (hd : oi.dst = some d) (hl : d ∈ oj.looksAt ops \/ oj.dst = some d) :
  (i < j -> Anc ops i j) /\ (j < i -> Anc ops j i) := by
 simp only [zps, Bool.and_eq_true] at h;have h1 := List.all_eq_true.1 h.1 j (List.mem_range.2 (Array.getElem?_eq_some_iff.1 hj).1);simp only [hj, Bool.and_eq_true] at h1;have h2 := List.all_eq_true.1 h1.2 i (List.mem_range.2 (Array.getElem?_eq_some_iff.1 hi).1);have hij : (i == j) = false := by simpa using hne
 simp only [hij, Bool.false_or, hi, hd] at h2;have hc : ((oj.looksAt ops).contains d || oj.dst == some d) = true := by
  rcases hl with hl | hl
  ·simp [hl]
  ·simp [hl]
 rw [if_pos hc] at h2;refine ⟨fun hlt => ?_, fun hlt => ?_⟩
 ·rw [if_pos hlt] at h2; exact ztx h2
 ·rw [if_neg (by omega)] at h2; exact ztx h2

theorem regOk_pair {ops : Array Oper} {cf : List (Nat × Nat)} (h : zps ops cf = true) {i j : Nat} (hp : (i, j) ∈ cf) : Anc ops i j := by
 simp only [zps, Bool.and_eq_true] at h;exact ztx (List.all_eq_true.1 h.2 _ hp)

theorem regOk_edge {ops : Array Oper} {cf : List (Nat × Nat)} (h : zps ops cf = true) {j : Nat} {o : Oper} (hj : ops[j]? = some o) {e : Edge} (he : e ∈ o.after) (hb : Region.binds .any e = true) : e.on < j := by
 simp only [zps, Bool.and_eq_true] at h;have h1 := List.all_eq_true.1 h.1 j (List.mem_range.2 (Array.getElem?_eq_some_iff.1 hj).1);simp only [hj, Bool.and_eq_true] at h1;have h2 := Array.all_eq_true'.1 h1.1 e he;simpa [hb] using h2


def evalG (get : Nat -> AV) : Operand -> AV
 | .tmp t => get t
 | .const v => cav v
 | .global _ => .any
 | .func f => .d (.fn (.func f) [])

def zjj (get : Nat -> AV) (o : Oper) : List AV := o.op.operands.toList.map (evalG get)

def zqu (o : Oper) (x : List AV) : List AV := match o.guard with | none => x | some _ => zbo o.op x

section
variable (l : List Oper) (E : Nat -> Option Eff × AV) (g0 : Nat -> AV) (o0 : Nat -> Option Ob)

def zqp (i : Nat) : Option Tmp := (l[i]?).bind fun o => o.dst
def Wt (i t : Nat) : Option AV := if zqp l i = some t then some (E i).2 else none
def Wo (i id : Nat) : Option (Option Ob) := (E i).1.bind fun e => find (zdd [] e.wr) id
def zit (j t : Nat) : AV := zhn (Wt l E) (fun _ => true) g0 t j
def zir (j id : Nat) : Option Ob := zhn (Wo E) (fun _ => true) o0 id j
def zpd (S : Nat -> Bool) (t : Nat) : AV := zhn (Wt l E) S g0 t l.length
def zpx (S : Nat -> Bool) (id : Nat) : Option Ob := zhn (Wo E) S o0 id l.length
def zds (orc : List (Nat × Res)) (j : Nat) : List Nat := match l[j]? with | some o => zbz (find orc j) o.op (zjj (zit l E g0 j) o) | none => []
def keys (j : Nat) : List Nat := match l[j]?, (E j).1 with | some o, some e => zqf o.op e.wr | _, _ => []
end

theorem ids_strip (x : AV) : ids (zct x) = ids x := by cases x <;> simp [zct, ids]
theorem idsL_strip : ∀ l : List AV, zhf (l.map zct) = zhf l
 | [] => rfl
 | x :: l => by simp only [List.map_cons, zhf, ids_strip, idsL_strip l]
theorem idsL_stripG (op : Op) (l : List AV) : zhf (zbo op l) = zhf l := by
 cases op
 case pick =>
  cases l with
  | nil => rfl
  | cons c r => simp [zbo, zhf, ids_strip]
 all_goals exact idsL_strip l
theorem idsL_argsE (o : Oper) (l : List AV) : zhf (zqu o l) = zhf l := by
 unfold zqu;split
 ·rfl
 ·exact idsL_stripG _ l

theorem zll (id : Nat) : ∀ (wr hp : List (Nat × Option Ob)), find (zdd hp wr) id = (find (zdd [] wr) id).or (find hp id)
 | [], hp => by simp [zdd, find]
 | (i, o) :: r, hp => by
  simp only [zdd];rw [zll id r ((i, o) :: hp), zll id r [(i, o)]];simp only [find];cases find (zdd [] r) id with
  | some v => simp
  | none => by_cases e : i = id <;> simp [e]

theorem zqz (obj : Nat -> Option Ob) (id : Nat) : ∀ (wr : List (Nat × Option Ob)), zcu obj wr id = (find (zdd [] wr) id).getD (obj id)
 | [] => by simp [zcu, zdd, find]
 | (i, o) :: r => by
  simp only [zcu, zdd];rw [zqz (zbh obj i o) id r, zll id r [(i, o)]];simp only [find, zbh];cases find (zdd [] r) id with
  | some v => simp
  | none =>
   by_cases e : i = id
   ·subst e; simp
   ·simp [e, Ne.symm e]

theorem find_keys {id : Nat} : ∀ {wr : List (Nat × Option Ob)} {v : Option Ob}, find (zdd [] wr) id = some v -> id ∈ wr.map (·.1)
 | [], v, h => by simp [zdd, find] at h
 | (i, o) :: r, v, h => by
  simp only [zdd] at h;rw [zll id r [(i, o)]] at h;cases hf : find (zdd [] r) id with
  | some u => exact List.mem_cons_of_mem _ (find_keys hf)
  | none =>
   rw [hf] at h;simp only [Option.none_or, find] at h;split at h
   ·rename_i e; simp [e]
   ·cases h

def zlz (t' k' t k : List Nat) : Bool := k'.any (fun x => t.contains x || k.contains x) || k.any (fun x => t'.contains x)

def guardV (v : AV) (want : Bool) : Option Bool :=
 match v with
 | .d (.bool b) => some (b == want)
 | .opt g (.d (.bool b)) => some (g && (b == want))
 | _ => none

structure Fact (ty : TypeId -> Option TI) (P : Program) (orc : List (Nat × Res)) (l : List Oper) (E : Nat -> Option Eff × AV) (g0 : Nat -> AV) (o0 : Nat -> Option Ob) (n base : Nat) (j : Nat) (o : Oper) : Prop where
 dst : ∀ d, o.dst = some d -> d < n
 guard : match o.guard with
  | none => (E j).1.isSome = true
  | some (q, want) => ∃ t, zqp l q = some t /\ guardV (zit l E g0 j t) want = some (E j).1.isSome
 eff : ∀ e, (E j).1 = some e -> Abs.eff ty P (find orc j) o.op (zir E o0 j) (base + j) (zqu o (zjj (zit l E g0 j) o)) = some e /\ e.ob /\ (o.guard ≠ none -> zao o.op (zjj (zit l E g0 j) o)) /\ ∀ g w v, zh g w e.val v -> zh g w (E j).2 v
 skip : (E j).1 = none -> ∀ g w, zh g w (E j).2 undef

section
variable {P : Program} {ty : TypeId -> Option TI} {orc : List (Nat × Res)} {l : List Oper} {E : Nat -> Option Eff × AV} {g0 : Nat -> AV} {o0 : Nat -> Option Ob} {n base : Nat} {cf : List (Nat × Nat)}

theorem ztg {t' k' t k : List Nat} {x : Nat} (h : (x ∈ k' /\ (x ∈ t \/ x ∈ k)) \/ (x ∈ k /\ x ∈ t')) : zlz t' k' t k = true := by
 simp only [zlz, Bool.or_eq_true, List.any_eq_true];rcases h with ⟨h1, h2⟩ | ⟨h1, h2⟩
 ·exact .inl ⟨x, h1, by simpa using h2⟩
 ·exact .inr ⟨x, h1, by simpa using h2⟩

theorem zvg {i id : Nat} {o : Oper} (hi : l[i]? = some o) (hw : Wo E i id ≠ none) : 2 * id ∈ keys l E i /\ (zaz o.op = false -> 2 * id + 1 ∈ keys l E i) := by
 unfold Wo at hw;unfold keys;rw [hi];cases hE : (E i).1 with
 | none => rw [hE] at hw; simp at hw
 | some e =>
  rw [hE] at hw;simp only [Option.bind_some] at hw;obtain ⟨v, hv⟩ := Option.ne_none_iff_exists'.1 hw;have hk := find_keys hv;simp only;unfold zqf;cases zaz o.op with
  | true => exact ⟨mem_even hk, fun h => by cases h⟩
  | false => exact ⟨(mem_two hk).1, fun _ => (mem_two hk).2⟩

theorem res_ord (hreg : zps l.toArray cf = true) (hcf : ∀ i j, i < j -> j < l.length -> zlz (zds l E g0 orc i) (keys l E i) (zds l E g0 orc j) (keys l E j) = true -> (i, j) ∈ cf) {i j r : Nat} (hi : i < l.length) (hj : j < l.length) (hne : i ≠ j)
  (hw : r ∈ keys l E i) (ht : r ∈ zds l E g0 orc j \/ r ∈ keys l E j) : (i < j -> Anc l.toArray i j) /\ (j < i -> Anc l.toArray j i) := by
 refine ⟨fun hlt => regOk_pair hreg (hcf i j hlt hj ?_), fun hlt => regOk_pair hreg (hcf j i hlt hi ?_)⟩
 ·exact ztg (x := r) (.inl ⟨hw, ht⟩)
 ·rcases ht with ht | ht
  ·exact ztg (x := r) (.inr ⟨hw, ht⟩)
  ·exact ztg (x := r) (.inl ⟨ht, .inr hw⟩)

theorem any_step (hc : Ctx P ty) (hreg : zps l.toArray cf = true) (hcf : ∀ i j, i < j -> j < l.length -> zlz (zds l E g0 orc i) (keys l E i) (zds l E g0 orc j) (keys l E j) = true -> (i, j) ∈ cf)
  (hfact : ∀ j o, l[j]? = some o -> Fact ty P orc l E g0 o0 n base j o) {S : Nat -> Bool} (hS : Closed l.toArray (fun i => S i = true)) {j : Nat} {o : Oper} (hj : l[j]? = some o) (hSj : S j = false) (hready : ∀ e ∈ o.after, Region.binds .any e = true -> S e.on = true)
  {g : G} {a : Act} {w : World} (hrel : Rel (fun k => k < base \/ ∃ i, i < l.length /\ S i = true /\ k = base + i) g (zpd l E g0 S) (zpx l E o0 S) n a w) {K : Act -> World -> Prop} {Q : Exit -> Act -> World -> Prop}
  (hK : ∀ g' a' w', Rel (fun k => k < base \/ ∃ i, i < l.length /\ (S i || i == j) = true /\ k = base + i) g' (zpd l E g0 fun i => S i || i == j) (zpx l E o0 fun i => S i || i == j) n a' w' -> zan g w g' w' -> K a' w') : wpOp P l.toArray Q j K a w := by
 have hjl : j < l.length := (List.getElem?_eq_some_iff.1 hj).1;have hja : l.toArray[j]? = some o := by simpa using hj
 have pre : ∀ i, Anc l.toArray i j -> S i = true := fun i hi => hi.ready hS fun o' ho' e he hb => by rw [hja] at ho'; cases ho'; exact hready e he hb
 have post : ∀ i, Anc l.toArray j i -> S i = false := fun i hi => by
  cases hs : S i with
  | false => rfl
  | true => have := hi.closed hS hs; rw [hSj] at this; cases this
 have wt_ord : ∀ i t, i ≠ j -> Wt l E i t ≠ none -> (t ∈ o.looksAt l.toArray \/ o.dst = some t) -> (i < j -> S i = true) /\ (j < i -> S i = false) := by
  intro i t hne hw ht;unfold Wt at hw;split at hw
  ·rename_i hd;unfold zqp at hd;cases hli : l[i]? with
   | none => rw [hli] at hd; cases hd
   | some oi =>
    rw [hli] at hd;obtain ⟨h1, h2⟩ := regOk_temp hreg (by simpa using hli) hja hne hd ht;exact ⟨fun hlt => pre i (h1 hlt), fun hlt => post i (h2 hlt)⟩
  ·exact absurd rfl hw
 have hget : ∀ t, t ∈ o.looksAt l.toArray -> zpd l E g0 S t = zit l E g0 j t := by
  intro t ht;unfold zpd zit;rw [zmf (j := j) (Nat.le_of_lt hjl)]
  ·exact zhv fun i hi hw => (wt_ord i t (by omega) hw (.inl ht)).1 hi
  ·intro i h1 h2 h3;by_cases e : i = j
   ·subst e; rw [hSj] at h3; cases h3
   ·cases hw : Wt l E i t with
    | none => rfl
    | some v =>
     have := (wt_ord i t e (by rw [hw]; simp) (.inl ht)).2 (by omega);rw [this] at h3; cases h3
 have res_st : ∀ i r, i < l.length -> i ≠ j -> r ∈ keys l E i -> (r ∈ zds l E g0 orc j \/ r ∈ keys l E j) -> (i < j -> S i = true) /\ (j < i -> S i = false) := by
  intro i r hi hne hw ht;obtain ⟨h1, h2⟩ := res_ord hreg hcf hi hjl hne hw ht;exact ⟨fun hlt => pre i (h1 hlt), fun hlt => post i (h2 hlt)⟩
 have hobj_ord : ∀ i id, i < l.length -> i ≠ j -> Wo E i id ≠ none -> (2 * id ∈ zds l E g0 orc j \/ Wo E j id ≠ none) -> (i < j -> S i = true) /\ (j < i -> S i = false) := by
  intro i id hi hne hw ht;obtain ⟨oi, hoi⟩ : ∃ oi, l[i]? = some oi := ⟨l[i], List.getElem?_eq_getElem hi⟩
  exact res_st i (2 * id) hi hne (zvg hoi hw).1 (ht.imp (fun h => h) fun h => (zvg hj h).1)
 have hobj : ∀ id, 2 * id ∈ zds l E g0 orc j -> zpx l E o0 S id = zir E o0 j id := by
  intro id ht;unfold zpx zir;rw [zmf (j := j) (Nat.le_of_lt hjl)]
  ·exact zhv fun i hi hw => (hobj_ord i id (by omega) (by omega) hw (.inl ht)).1 hi
  ·intro i h1 h2 h3;by_cases e : i = j
   ·subst e; rw [hSj] at h3; cases h3
   ·cases hw : Wo E i id with
    | none => rfl
    | some v =>
     have := (hobj_ord i id h2 e (by rw [hw]; simp) (.inl ht)).2 (by omega);rw [this] at h3; cases h3
 have hshape : ∀ id, Wo E j id = none -> 2 * id + 1 ∈ zds l E g0 orc j -> shape (zpx l E o0 S id) = shape (zir E o0 j id) := by
  intro id hjn ht
  -- an operation that writes id is a hard one, or it leaves the shape
  have soft : ∀ i v, i < l.length -> Wo E i id = some v -> (∃ oi, l[i]? = some oi /\ zaz oi.op = false) \/ shape v = shape (zir E o0 i id) := by
   intro i v hi hw;obtain ⟨oi, hoi⟩ : ∃ oi, l[i]? = some oi := ⟨l[i], List.getElem?_eq_getElem hi⟩
   cases hst : zaz oi.op with
   | false => exact .inl ⟨oi, hoi, hst⟩
   | true =>
    right
    unfold Wo at hw;cases hE : (E i).1 with
    | none => rw [hE] at hw; cases hw
    | some e =>
     rw [hE] at hw;exact store_shape hst ((hfact i oi hoi).eff e hE).1 hw
  have hard : ∀ i, i < l.length -> i ≠ j -> Wo E i id ≠ none -> (∃ oi, l[i]? = some oi /\ zaz oi.op = false) -> (i < j -> S i = true) /\ (j < i -> S i = false) := by
   rintro i hi hne hw ⟨oi, hoi, hst⟩;exact res_st i (2 * id + 1) hi hne ((zvg hoi hw).2 hst) (.inl ht)
  have both : ∀ i k, i < k -> k < l.length -> Wo E i id ≠ none -> Wo E k id ≠ none -> S k = true -> S i = true := by
   intro i k hik hk hwi hwk hSk;obtain ⟨oi, hoi⟩ : ∃ oi, l[i]? = some oi := ⟨l[i]'(by omega), List.getElem?_eq_getElem _⟩
   obtain ⟨ok, hok⟩ : ∃ ok, l[k]? = some ok := ⟨l[k], List.getElem?_eq_getElem hk⟩
   have := (res_ord hreg hcf (by omega) hk (by omega) (zvg hoi hwi).1 (.inr (zvg hok hwk).1)).1 hik;exact this.closed hS hSk
  have stepT : ∀ m, zir E o0 (m + 1) id = match Wo E m id with | some v => v | none => zir E o0 m id := by
   intro m;simp only [zir, zhn, if_true];cases Wo E m id <;> rfl
  have flat : ∀ m, j <= m -> m <= l.length -> (∀ i, j <= i -> i < m -> Wo E i id ≠ none -> ¬ ∃ oi, l[i]? = some oi /\ zaz oi.op = false) -> shape (zir E o0 m id) = shape (zir E o0 j id) := by
   intro m hjm;induction m with
   | zero => intro _ _; rw [show j = 0 by omega]
   | succ m ih =>
    intro hm hno;by_cases e : j = m + 1
    ·rw [e]
    ·rw [stepT];have ih' := ih (by omega) (by omega) fun i h1 h2 => hno i h1 (by omega);cases hw : Wo E m id with
     | none => exact ih'
     | some v =>
      rcases soft m v (by omega) hw with hh | hh
      ·exact absurd hh (hno m (by omega) (by omega) (by rw [hw]; simp))
      ·simp only; rw [hh, ih']
  have low : ∀ m, m <= j -> shape (zhn (Wo E) S o0 id m) = shape (zir E o0 m id) := by
   intro m;induction m with
   | zero => intro _; rfl
   | succ m ih =>
    intro hm;have ih' := ih (by omega);rw [stepT];simp only [zhn];cases hw : Wo E m id with
    | none => cases S m <;> simpa using ih'
    | some v =>
     rcases soft m v (by omega) hw with hh | hh
     ·rw [(hard m (by omega) (by omega) (by rw [hw]; simp) hh).1 (by omega)];rfl
     ·simp only;cases S m with
      | true => rfl
      | false => simp only [Bool.false_eq_true, if_false]; rw [ih', hh]
  have high : ∀ m, j <= m -> m <= l.length -> shape (zhn (Wo E) S o0 id m) = shape (zir E o0 j id) := by
   intro m hjm;induction m with
   | zero => intro _; rw [show j = 0 by omega]; rfl
   | succ m ih =>
    intro hm;by_cases e : j = m + 1
    ·rw [<- e]; exact low j (Nat.le_refl _)
    ·have ih' := ih (by omega) (by omega);simp only [zhn];cases hw : Wo E m id with
     | none => cases S m <;> simpa using ih'
     | some v =>
      have hmj : m ≠ j := fun e' => by rw [e', hjn] at hw; cases hw
      cases hSm : S m with
      | false => simp only [Bool.false_eq_true, if_false]; exact ih'
      | true =>
       simp only [if_true];rcases soft m v (by omega) hw with hh | hh
       ·have := (hard m (by omega) hmj (by rw [hw]; simp) hh).2 (by omega);rw [hSm] at this; cases this
       ·rw [hh];refine flat m (by omega) (by omega) fun i h1 h2 h3 h4 => ?_;have hij : i ≠ j := fun e' => h3 (by rw [e']; exact hjn);have h5 := both i m h2 (by omega) h3 (by rw [hw]; simp) hSm;have h6 := (hard i (by omega) hij h3 h4).2 (by omega);rw [h5] at h6; cases h6
  exact high l.length (Nat.le_of_lt hjl) (Nat.le_refl _)
 have hgS : ∀ t, zgu (zpd l E g0 S) o.dst (E j).2 t = zpd l E g0 (fun i => S i || i == j) t := by
  intro t;have hdj : zqp l j = o.dst := by simp [zqp, hj]
  unfold zgu zpd;by_cases hd : o.dst = some t
  ·rw [if_pos hd];have hw : Wt l E j t = some (E j).2 := by unfold Wt; rw [hdj, if_pos hd]
   rw [stAt_add hw hjl];intro i h1 h2 h3;cases hwi : Wt l E i t with
   | none => rfl
   | some v =>
    have := (wt_ord i t (by omega) (by rw [hwi]; simp) (.inr hd)).2 h1;rw [this] at h3; cases h3
  ·rw [if_neg hd];have hw : Wt l E j t = none := by unfold Wt; rw [hdj, if_neg hd]
   rw [zsj hw]
 have hoS : ∀ id, (match (E j).1 with | some e => zcu (zpx l E o0 S) e.wr id | none => zpx l E o0 S id) = zpx l E o0 (fun i => S i || i == j) id := by
  intro id;unfold zpx;cases hw : Wo E j id with
  | none =>
   rw [zsj hw];unfold Wo at hw;cases hE : (E j).1 with
   | none => rfl
   | some e =>
    rw [hE] at hw;simp only [Option.bind_some] at hw;simp only [zqz, hw, Option.getD_none]
  | some v =>
   rw [stAt_add hw hjl]
   ·unfold Wo at hw;cases hE : (E j).1 with
    | none => rw [hE] at hw; simp at hw
    | some e =>
     rw [hE] at hw;simp only [Option.bind_some] at hw;simp only [zqz, hw, Option.getD_some]
   ·intro i h1 h2 h3;cases hwi : Wo E i id with
    | none => rfl
    | some u =>
     have := (hobj_ord i id h2 (by omega) (by rw [hwi]; simp) (.inr (by rw [hw]; simp))).2 h1;rw [this] at h3; cases h3
 have hf := hfact j o hj;unfold wpOp;rw [hja];simp only;have hwanted : Region.wanted o (yielded l.toArray a.tmps) = (E j).1.isSome := by
  have hg := hf.guard;unfold Region.wanted;cases hgd : o.guard with
  | none => rw [hgd] at hg; simp only at hg ⊢; rw [hg]
  | some qw =>
   obtain ⟨q, want⟩ := qw;rw [hgd] at hg;obtain ⟨t, h1, h2⟩ := hg;simp only;have hlook : t ∈ o.looksAt l.toArray := by
    unfold Oper.looksAt;rw [hgd];unfold zqp at h1;simp only [List.mem_append, List.getElem?_toArray];right
    simp [h1]
   have hval := hrel.tmp t;rw [hget t hlook] at hval;have hdst : (l.toArray[q]?).bind (fun o => o.dst) = some t := by unfold zqp at h1; simpa using h1
   have isb : ∀ b, a.tmps.getD t undef = .bool b -> yielded l.toArray a.tmps q = some b := by
    intro b hb;have hlt : t < a.tmps.size := by
     rcases Nat.lt_or_ge t a.tmps.size with hlt | hge
     ·exact hlt
     ·simp [Array.getElem?_eq_none hge, undef] at hb
    have : a.tmps[t]? = some (.bool b) := by
     simp [hlt] at hb;simp [hlt, hb]
    simp only [yielded, hdst, Option.bind_some, this]
   have isu : a.tmps.getD t undef = undef -> yielded l.toArray a.tmps q = none := by
    intro hb;rcases Nat.lt_or_ge t a.tmps.size with hlt | hge
    ·have : a.tmps[t]? = some undef := by
      simp [hlt] at hb;simp [hlt, hb]
     simp only [yielded, hdst, Option.bind_some, this, undef]
    ·simp only [yielded, hdst, Option.bind_some, Array.getElem?_eq_none hge]
   unfold guardV at h2;split at h2
   ·rename_i b hb;simp only [Option.some.injEq] at h2;rw [hb] at hval;simp only [zh, zr] at hval;rw [isb b hval, <- h2];cases b <;> cases want <;> rfl
   ·rename_i gq b hb;simp only [Option.some.injEq] at h2;rw [hb] at hval;simp only [zh, zr] at hval;cases gq with
    | true =>
     rw [isb b (hval.1 rfl), <- h2];cases b <;> cases want <;> rfl
    | false =>
     rw [isu (hval.2 rfl), <- h2];cases want <;> rfl
   ·cases h2
 rw [hwanted];cases hE : (E j).1 with
 | none =>
  simp only [Option.isSome_none, Bool.false_eq_true, if_false];refine hK g _ w ?_ (zan.refl g w);have hr := zcf (U' := fun k => k < base \/ ∃ i, i < l.length /\ (S i || i == j) = true /\ k = base + i) (dst := o.dst) (v := (E j).2) (u := undef) hrel hrel.heap ⟨fun b hb => ⟨hb, rfl⟩, fun _ hx => hx, fun _ _ => .inl rfl⟩
   (fun k hk => (hrel.used k hk).imp (fun h => h) fun ⟨i, h1, h2, h3⟩ => ⟨i, h1, by simp [h2], h3⟩) (hf.skip hE g w) hf.dst
  exact hr.congr (fun t => (hgS t).symm) (fun id => by have := hoS id; rw [hE] at this; exact this.symm)
 | some e =>
  simp only [Option.isSome_some, if_true];left
  obtain ⟨heff, hob, hso, hval⟩ := hf.eff e hE;have htouch : zds l E g0 orc j = zbz (find orc j) o.op (zjj (zit l E g0 j) o) := by unfold zds; rw [hj]
  have hargs_eq : zjj (zpd l E g0 S) o = zjj (zit l E g0 j) o := by
   unfold zjj;refine List.map_congr_left fun x hx => ?_;cases x with
   | tmp t =>
    simp only [evalG];refine hget t ?_;unfold Oper.looksAt;refine List.mem_append_left _ (List.mem_filterMap.2 ⟨.tmp t, hx, rfl⟩)
   | _ => rfl
  have heff' : Abs.eff ty P (find orc j) o.op (zpx l E o0 S) (base + j) (zqu o (zjj (zpd l E g0 S) o)) = some e := by
   rw [hargs_eq, <- heff];have hte : zbz (find orc j) o.op (zqu o (zjj (zit l E g0 j) o)) = zds l E g0 orc j := by rw [htouch]; unfold zbz; rw [idsL_argsE]
   refine eff_congr2 (fun id hid => hobj id (by rw [<- hte]; exact hid)) fun hsoft id hid => hshape id ?_ (by rw [<- hte]; exact hid);unfold Wo;rw [hE];simp only [Option.bind_some, soft_wr hsoft heff, zdd, find]
  have hreps : zj g w (zjj (zpd l E g0 S) o) (o.op.operands.toList.map a.eval) := by
   refine zj.of_get (by simp [zjj]) fun k av hk => ?_;unfold zjj at hk;rw [List.getElem?_map] at hk ⊢;cases hx : o.op.operands.toList[k]? with
   | none => rw [hx] at hk; cases hk
   | some x =>
    rw [hx] at hk;cases hk;refine ⟨a.eval x, rfl, ?_⟩;cases x with
    | tmp t => simp only [evalG]; exact hrel.tmp t
    | const v => exact cav_rep g w v
    | global i => simp [evalG, zh]
    | func f => simp only [evalG, zh, zr, Act.eval]; exact ⟨[], rfl, by simp [zq]⟩
  refine zfo hc (nid := base + j) hrel ?_ (args := zqu o (zjj (zpd l E g0 S) o)) ?_ heff' hob hf.dst fun g' a' w' hr hst => hK g' a' w' ?_ hst
  ·rintro (h | ⟨i, h1, h2, h3⟩)
   ·omega
   ·have : i = j := by omega
    subst this;rw [hSj] at h2; cases h2
  ·unfold zqu;cases hgd : o.guard with
   | none => exact hreps
   | some _ => exact zdu hreps (by rw [hargs_eq]; exact hso (by rw [hgd]; simp))
  ·have hr' : Rel (fun k => (k < base \/ ∃ i, i < l.length /\ S i = true /\ k = base + i) \/ k = base + j) g' (zgu (zpd l E g0 S) o.dst (E j).2) (zcu (zpx l E o0 S) e.wr) n a' w' := by
    refine ⟨hr.defers, hr.size, fun t => ?_, hr.used, hr.heap⟩;have := hr.tmp t;unfold zgu at this ⊢;split
    ·rename_i e';rw [if_pos e'] at this;exact hval _ _ _ this
    ·rename_i e';rw [if_neg e'] at this;exact this
   have h1 := hr'.congr (get' := zpd l E g0 fun i => S i || i == j) (obj' := zpx l E o0 fun i => S i || i == j) (fun t => (hgS t).symm) (fun id => by have := hoS id; rw [hE] at this; exact this.symm);refine ⟨h1.defers, h1.size, h1.tmp, fun k hk => ?_, h1.heap⟩;rcases h1.used k hk with (h | ⟨i, q1, q2, q3⟩) | h
   ·exact .inl h
   ·exact .inr ⟨i, q1, by simp [q2], q3⟩
   ·exact .inr ⟨j, hjl, by simp, h⟩

end
end Go.Abs

namespace Go.Abs
variable [Flag]
open Go.RowKit

def confs (acc : List (Nat × List Nat × List Nat)) (i : Nat) (t k : List Nat) : List (Nat × Nat) := (acc.filter fun x => zlz x.2.1 x.2.2 t k).map fun x => (x.1, i)

section
variable (ty : TypeId -> Option TI) (P : Program) (orc : List (Nat × Res)) (gs : List (Option Tmp)) (base : Nat)

def wpC : Nat -> List Oper -> St -> List (Nat × List Nat × List Nat) -> List (Nat × Nat) -> (St -> List (Nat × Nat) -> Prop) -> Prop
 | _, [], s, _, cf, Q => Q s cf
 | i, o :: rest, s, acc, cf, Q =>
  match o.guard with
  | none =>
   match eff ty P (find orc i) o.op s.obj (base + i) (o.op.operands.toList.map s.eval) with
   | some e => e.ob /\ (match o.dst with | some d => d < s.n | none => True) /\
     wpC (i + 1) rest (s.app o.dst e) ((i, zbz (find orc i) o.op (o.op.operands.toList.map s.eval), zqf o.op e.wr) :: acc) (confs acc i (zbz (find orc i) o.op (o.op.operands.toList.map s.eval)) (zqf o.op e.wr) ++ cf) Q
   | none => False
  | some (j, want) =>
   match s.guard gs j want with
   | some x =>
    (match o.dst with | some d => d < s.n | none => True) /\
    (match eff ty P (find orc i) o.op s.obj (base + i) (zbo o.op (o.op.operands.toList.map s.eval)) with
    | some e => (match e.wr with
     | [] => (x = true -> zao o.op (o.op.operands.toList.map s.eval) /\ e.ob) /\ wpC (i + 1) rest (s.put o.dst (.opt x e.val)) ((i, zbz (find orc i) o.op (o.op.operands.toList.map s.eval), []) :: acc) (confs acc i (zbz (find orc i) o.op (o.op.operands.toList.map s.eval)) [] ++ cf) Q
     | _ => x = true /\ zao o.op (o.op.operands.toList.map s.eval) /\ e.ob /\ wpC (i + 1) rest (s.app o.dst e) ((i, zbz (find orc i) o.op (o.op.operands.toList.map s.eval), zqf o.op e.wr) :: acc) (confs acc i (zbz (find orc i) o.op (o.op.operands.toList.map s.eval)) (zqf o.op e.wr) ++ cf) Q)
    | none => x = false /\ wpC (i + 1) rest (s.put o.dst (.opt false (.d (.bool false)))) ((i, zbz (find orc i) o.op (o.op.operands.toList.map s.eval), []) :: acc) (confs acc i (zbz (find orc i) o.op (o.op.operands.toList.map s.eval)) [] ++ cf) Q)
   | none => False
def wpD : Nat -> List Oper -> St -> List (Nat × List Nat × List Nat) -> (St -> List (Nat × List Nat × List Nat) -> Prop) -> Prop
 | _, [], s, acc, Q => Q s acc
 | i, o :: rest, s, acc, Q =>
  match o.guard with
  | none =>
   match eff ty P (find orc i) o.op s.obj (base + i) (o.op.operands.toList.map s.eval) with
   | some e => e.ob /\ (match o.dst with | some d => d < s.n | none => True) /\
     wpD (i + 1) rest (s.app o.dst e) ((i, zbz (find orc i) o.op (o.op.operands.toList.map s.eval), zqf o.op e.wr) :: acc) Q
   | none => False
  | some (j, want) =>
   match s.guard gs j want with
   | some x =>
    (match o.dst with | some d => d < s.n | none => True) /\
    (match eff ty P (find orc i) o.op s.obj (base + i) (zbo o.op (o.op.operands.toList.map s.eval)) with
    | some e => (match e.wr with
     | [] => (x = true -> zao o.op (o.op.operands.toList.map s.eval) /\ e.ob) /\ wpD (i + 1) rest (s.put o.dst (.opt x e.val)) ((i, zbz (find orc i) o.op (o.op.operands.toList.map s.eval), []) :: acc) Q
     | _ => x = true /\ zao o.op (o.op.operands.toList.map s.eval) /\ e.ob /\ wpD (i + 1) rest (s.app o.dst e) ((i, zbz (find orc i) o.op (o.op.operands.toList.map s.eval), zqf o.op e.wr) :: acc) Q)
    | none => x = false /\ wpD (i + 1) rest (s.put o.dst (.opt false (.d (.bool false)))) ((i, zbz (find orc i) o.op (o.op.operands.toList.map s.eval), []) :: acc) Q)
   | none => False

def cfOf : List (Nat × List Nat × List Nat) -> List (Nat × Nat)
 | [] => []
 | x :: acc => confs acc x.1 x.2.1 x.2.2 ++ cfOf acc

theorem zub {Q : St -> List (Nat × List Nat × List Nat) -> Prop} : ∀ (l : List Oper) (i : Nat) (s : St) (acc : List (Nat × List Nat × List Nat)), wpD ty P orc gs base i l s acc Q -> wpC ty P orc gs base i l s acc (cfOf acc) (fun s' cf => ∃ acc', cf = cfOf acc' /\ Q s' acc')
 | [], i, s, acc, h => ⟨acc, rfl, h⟩
 | o :: rest, i, s, acc, h => by
  unfold wpD at h;unfold wpC;cases hg : o.guard with
  | none =>
   simp only [hg] at h ⊢;cases he : eff ty P (find orc i) o.op s.obj (base + i) (o.op.operands.toList.map s.eval) with
   | none => simp only [he] at h
   | some e =>
    simp only [he] at h ⊢;obtain ⟨h1, h2, h3⟩ := h;exact ⟨h1, h2, zub rest _ _ _ h3⟩
  | some q =>
   obtain ⟨j, want⟩ := q;simp only [hg] at h ⊢;cases hx : s.guard gs j want with
   | none => simp only [hx] at h
   | some x =>
    simp only [hx] at h ⊢;refine ⟨h.1, ?_⟩;have h := h.2;cases he : eff ty P (find orc i) o.op s.obj (base + i) (zbo o.op (o.op.operands.toList.map s.eval)) with
    | none =>
     simp only [he] at h ⊢;exact ⟨h.1, zub rest _ _ _ h.2⟩
    | some e =>
     simp only [he] at h ⊢;cases hw : e.wr with
     | nil =>
      simp only [hw] at h ⊢;exact ⟨h.1, zub rest _ _ _ h.2⟩
     | cons z zs =>
      simp only [hw] at h ⊢;obtain ⟨h1, h2, h3, h4⟩ := h;exact ⟨h1, h2, h3, zub rest _ _ _ h4⟩
end

section
variable {P : Program} {ty : TypeId -> Option TI} {orc : List (Nat × Res)} {l : List Oper} {E E' : Nat -> Option Eff × AV} {g0 : Nat -> AV} {o0 : Nat -> Option Ob} {n base : Nat}

theorem zsw {V : Type} {W W' : Nat -> Nat -> Option V} {S : Nat -> Bool} {s0 : Nat -> V} {k : Nat} : ∀ {m : Nat}, (∀ i, i < m -> W i k = W' i k) -> zhn W S s0 k m = zhn W' S s0 k m
 | 0, _ => rfl
 | m + 1, h => by
  simp only [zhn];rw [zsw (m := m) fun i hi => h i (by omega), h m (by omega)]

theorem ztn {j : Nat} (h : ∀ i, i < j -> E' i = E i) (t : Nat) : zit l E' g0 j t = zit l E g0 j t :=
 zsw fun i hi => by unfold Wt; rw [h i hi]

theorem objT_congr {j : Nat} (h : ∀ i, i < j -> E' i = E i) (id : Nat) : zir E' o0 j id = zir E o0 j id :=
 zsw fun i hi => by unfold Wo; rw [h i hi]

theorem Fact.congr {j : Nat} {o : Oper} (hf : Fact ty P orc l E g0 o0 n base j o) (h : ∀ i, i <= j -> E' i = E i) : Fact ty P orc l E' g0 o0 n base j o := by
 have hg : zit l E' g0 j = zit l E g0 j := funext fun t => ztn (fun i hi => h i (by omega)) t;have ho : zir E' o0 j = zir E o0 j := funext fun t => objT_congr (fun i hi => h i (by omega)) t;have hE := h j (Nat.le_refl j);refine ⟨hf.dst, ?_, fun e he => ?_, ?_⟩
 ·have := hf.guard;rw [hE, hg];exact this
 ·rw [hE] at he;rw [hg, ho, hE];exact hf.eff e he
 ·have := hf.skip;rw [<- hE] at this;exact this

theorem zlc {j : Nat} (h : ∀ i, i < j -> E' i = E i) : zds l E' g0 orc j = zds l E g0 orc j := by
 have hg : zit l E' g0 j = zit l E g0 j := funext fun t => ztn (fun i hi => h i hi) t;unfold zds;rw [hg]

theorem zob {j : Nat} (h : E' j = E j) : keys l E' j = keys l E j := by unfold keys; rw [h]

theorem evalG_eval (s : St) : evalG s.get = s.eval := by
 funext x; cases x <;> rfl

theorem guard_at {s : St} {q t : Nat} {want x : Bool} (h : s.guard (l.map fun o => o.dst) q want = some x) : ∃ t, zqp l q = some t /\ guardV (s.get t) want = some x := by
 unfold St.guard at h;split at h
 ·rename_i t ht;refine ⟨t, ?_, ?_⟩
  ·unfold zqp;rw [List.getElem?_map] at ht;cases hq : l[q]? with
   | none => rw [hq] at ht; cases ht
   | some oq => rw [hq] at ht; simpa using ht
  ·unfold guardV;split at h
   ·rename_i b hb; rw [hb]; exact h
   ·rename_i g b hb; rw [hb]; exact h
   ·cases h
 ·cases h

theorem wpC_trace {Q : St -> List (Nat × Nat) -> Prop} {nxt : Nat} : ∀ (rest : List Oper) (i : Nat) (s : St) (acc : List (Nat × List Nat × List Nat)) (cf : List (Nat × Nat)) (E : Nat -> Option Eff × AV),
  l.drop i = rest -> i <= l.length -> (∀ j o, j < i -> l[j]? = some o -> Fact ty P orc l E g0 o0 n base j o) -> (∀ t, s.get t = zit l E g0 i t) -> (∀ id, s.obj id = zir E o0 i id) -> s.n = n -> s.nxt = nxt ->
  (∀ j, j < i -> (j, zds l E g0 orc j, keys l E j) ∈ acc) -> (∀ j k, j < k -> k < i -> zlz (zds l E g0 orc j) (keys l E j) (zds l E g0 orc k) (keys l E k) = true -> (j, k) ∈ cf) ->
  wpC ty P orc (l.map fun o => o.dst) base i rest s acc cf Q ->
  ∃ E' s' cf', (∀ j o, l[j]? = some o -> Fact ty P orc l E' g0 o0 n base j o) /\ (∀ t, s'.get t = zit l E' g0 l.length t) /\ (∀ id, s'.obj id = zir E' o0 l.length id) /\ s'.n = n /\ s'.nxt = nxt /\
   (∀ j k, j < k -> k < l.length -> zlz (zds l E' g0 orc j) (keys l E' j) (zds l E' g0 orc k) (keys l E' k) = true -> (j, k) ∈ cf') /\ Q s' cf'
 | [], i, s, acc, cf, E, hl, hi, hf, hg, ho, hn, hx, ha, hc, h => by
  have hil : i = l.length := by
   have := congrArg List.length hl;simp at this;omega
  subst hil;exact ⟨E, s, cf, fun j o hj => hf j o (List.getElem?_eq_some_iff.1 hj).1 hj, hg, ho, hn, hx, hc, h⟩
 | o :: rest, i, s, acc, cf, E, hl, hi, hf, hg, ho, hn, hx, ha, hc, h => by
  have hli : l[i]? = some o := by
   have : (l.drop i)[0]? = some o := by rw [hl]; rfl
   simpa using this
  have hlt : i < l.length := (List.getElem?_eq_some_iff.1 hli).1;have hl' : l.drop (i + 1) = rest := by
   have : (l.drop i).drop 1 = rest := by rw [hl]; rfl
   simpa [List.drop_drop, Nat.add_comm] using this
  have hget_i : s.get = zit l E g0 i := funext hg;have hobj_i : s.obj = zir E o0 i := funext ho;have hev : (o.op.operands.toList.map s.eval) = zjj (zit l E g0 i) o := by unfold zjj; rw [<- hget_i, evalG_eval]
  -- one operation
  have one : ∀ (s1 : St) (x : Option Eff) (v : AV) (ks : List Nat), (∀ t, s1.get t = zgu s.get o.dst v t) -> (∀ id, s1.obj id = match x with | some e => zcu s.obj e.wr id | none => s.obj id) -> s1.n = n -> s1.nxt = nxt ->
    (match o.guard with | none => x.isSome = true | some (q, want) => ∃ t, zqp l q = some t /\ guardV (s.get t) want = some x.isSome) ->
    (∀ e, x = some e -> eff ty P (find orc i) o.op s.obj (base + i) (zqu o (o.op.operands.toList.map s.eval)) = some e /\ e.ob /\ (o.guard ≠ none -> zao o.op (o.op.operands.toList.map s.eval)) /\ ∀ g w u, zh g w e.val u -> zh g w v u) ->
    (x = none -> ∀ g w, zh g w v undef) -> (∀ d, o.dst = some d -> d < n) -> ks = (match x with | some e => zqf o.op e.wr | none => []) ->
    wpC ty P orc (l.map fun o => o.dst) base (i + 1) rest s1 ((i, zbz (find orc i) o.op (o.op.operands.toList.map s.eval), ks) :: acc) (confs acc i (zbz (find orc i) o.op (o.op.operands.toList.map s.eval)) ks ++ cf) Q ->
    ∃ E' s' cf', (∀ j o, l[j]? = some o -> Fact ty P orc l E' g0 o0 n base j o) /\ (∀ t, s'.get t = zit l E' g0 l.length t) /\ (∀ id, s'.obj id = zir E' o0 l.length id) /\ s'.n = n /\ s'.nxt = nxt /\
     (∀ j k, j < k -> k < l.length -> zlz (zds l E' g0 orc j) (keys l E' j) (zds l E' g0 orc k) (keys l E' k) = true -> (j, k) ∈ cf') /\ Q s' cf' := by
   intro s1 x v ks h1 h2 h3 h4 hguard heff hskip hd hks hrest;rw [hev] at heff hrest
   let E1 : Nat -> Option Eff × AV := fun j => if j = i then (x, v) else E j
   have hE1 : ∀ k, k < i -> E1 k = E k := fun k hk => by simp only [E1]; rw [if_neg (by omega)]
   have hE1i : E1 i = (x, v) := by simp [E1]
   have hgT : zit l E1 g0 i = zit l E g0 i := funext fun t => ztn hE1 t;have hoT : zir E1 o0 i = zir E o0 i := funext fun t => objT_congr hE1 t;have htouch : zds l E1 g0 orc i = zbz (find orc i) o.op (zjj (zit l E g0 i) o) := by unfold zds; rw [hli, hgT]
   have hkeys : keys l E1 i = ks := by unfold keys; rw [hE1i, hks, hli]; cases x <;> rfl
   refine wpC_trace rest (i + 1) s1 _ _ E1 hl' hlt ?_ ?_ ?_ h3 h4 ?_ ?_ hrest
   ·intro j o' hj hlj;by_cases e' : j = i
    ·subst e';rw [hli] at hlj; cases hlj;refine ⟨hd, ?_, fun e2 he2 => ?_, fun hx => ?_⟩
     ·rw [hE1i, hgT, <- hget_i];exact hguard
     ·rw [hE1i] at he2 ⊢;rw [hgT, hoT, <- hobj_i];exact heff e2 he2
     ·rw [hE1i] at hx ⊢;exact hskip hx
    ·exact (hf j o' (by omega) hlj).congr fun k hk => hE1 k (by omega)
   ·intro t;rw [h1];have hW : Wt l E1 i t = if o.dst = some t then some v else none := by unfold Wt zqp; rw [hli, hE1i]; rfl
    show _ = zhn (Wt l E1) (fun _ => true) g0 t (i + 1)
    simp only [zhn, if_true, hW];unfold zgu;by_cases e' : o.dst = some t
    ·rw [if_pos e', if_pos e']
    ·rw [if_neg e', if_neg e']
     show _ = zit l E1 g0 i t
     rw [hgT, <- hget_i]
   ·intro id;rw [h2]
    show _ = zhn (Wo E1) (fun _ => true) o0 id (i + 1)
    cases x with
    | none =>
     have hW : Wo E1 i id = none := by unfold Wo; rw [hE1i]; rfl
     simp only [zhn, if_true, hW]
     show _ = zir E1 o0 i id
     rw [hoT, <- hobj_i]
    | some e =>
     have hW : Wo E1 i id = find (zdd [] e.wr) id := by unfold Wo; rw [hE1i]; rfl
     simp only [zhn, if_true, hW, zqz];cases find (zdd [] e.wr) id with
     | some v => rfl
     | none =>
      show _ = zir E1 o0 i id
      rw [hoT, <- hobj_i]; rfl
   ·intro j hj;by_cases e' : j = i
    ·subst e';rw [htouch, hkeys];exact List.mem_cons_self
    ·rw [zlc (E := E) (fun k hk => hE1 k (by omega)), zob (hE1 j (by omega))];exact List.mem_cons_of_mem _ (ha j (by omega))
   ·intro j k hjk hk hconf;by_cases e' : k = i
    ·subst e';rw [zlc (E := E) (j := j) (fun q hq => hE1 q (by omega)), zob (hE1 j (by omega)), htouch, hkeys] at hconf;exact List.mem_append_left _ (List.mem_map.2 ⟨_, List.mem_filter.2 ⟨ha j hjk, hconf⟩, rfl⟩)
    ·rw [zlc (E := E) (j := j) (fun q hq => hE1 q (by omega)), zob (hE1 j (by omega)), zlc (E := E) (j := k) (fun q hq => hE1 q (by omega)), zob (hE1 k (by omega))] at hconf;exact List.mem_append_right _ (hc j k hjk (by omega) hconf)
  have happ : ∀ e, (s.app o.dst e).n = n /\ (s.app o.dst e).nxt = nxt := fun e => by rw [<- hn, <- hx]; unfold St.app St.put; cases o.dst <;> exact ⟨rfl, rfl⟩
  have hput : ∀ v, (s.put o.dst v).n = n /\ (s.put o.dst v).nxt = nxt := fun v => by rw [<- hn, <- hx]; unfold St.put; cases o.dst <;> exact ⟨rfl, rfl⟩
  unfold wpC at h;split at h
  ·rename_i hgd;split at h
   ·rename_i e he;obtain ⟨h1, h2, h3⟩ := h;exact one (s.app o.dst e) (some e) e.val _ (fun t => zos s o.dst e t) (fun id => zor s o.dst e id) (happ e).1 (happ e).2 (by rw [hgd]; rfl)
     (fun e2 he2 => by cases he2; unfold zqu; rw [hgd]; exact ⟨he, h1, fun hh => absurd rfl hh, fun _ _ _ hv => hv⟩) (fun hh => by cases hh) (fun d hd => by rw [hd] at h2; rw [<- hn]; exact h2) rfl h3
   ·exact h.elim
  ·rename_i q want hgd;split at h
   ·rename_i x hgv;obtain ⟨hd, h⟩ := h;have hd' : ∀ d, o.dst = some d -> d < n := fun d hd' => by rw [hd'] at hd; rw [<- hn]; exact hd
    obtain ⟨t, ht1, ht2⟩ := guard_at (t := 0) hgv;split at h
    ·rename_i e he;split at h
     ·rename_i hwr;obtain ⟨hexec, hrest⟩ := h;cases x with
      | true =>
       obtain ⟨hso, hob⟩ := hexec rfl;exact one (s.put o.dst (.opt true e.val)) (some e) (.opt true e.val) [] (fun t => St.get_put s o.dst _ t) (fun id => by rw [zlh]; simp only [hwr, zcu]) (hput _).1 (hput _).2 (by rw [hgd]; exact ⟨t, ht1, ht2⟩)
        (fun e2 he2 => by cases he2; unfold zqu; rw [hgd]; exact ⟨he, hob, fun _ => hso, fun _ _ _ hv => by simp only [zh]; exact ⟨fun _ => hv, fun hb => by cases hb⟩⟩) (fun hh => by cases hh) hd' (by simp only [hwr]; unfold zqf; cases zaz o.op <;> rfl) hrest
      | false =>
       exact one (s.put o.dst (.opt false e.val)) none (.opt false e.val) [] (fun t => St.get_put s o.dst _ t) (fun id => by rw [zlh]) (hput _).1 (hput _).2 (by rw [hgd]; exact ⟨t, ht1, ht2⟩)
        (fun e2 he2 => by cases he2) (fun _ _ _ => by simp [zh]) hd' rfl hrest
     ·obtain ⟨rfl, hso, hob, hrest⟩ := h;exact one (s.app o.dst e) (some e) e.val _ (fun t => zos s o.dst e t) (fun id => zor s o.dst e id) (happ e).1 (happ e).2 (by rw [hgd]; exact ⟨t, ht1, ht2⟩)
       (fun e2 he2 => by cases he2; unfold zqu; rw [hgd]; exact ⟨he, hob, fun _ => hso, fun _ _ _ hv => hv⟩) (fun hh => by cases hh) hd' rfl hrest
    ·obtain ⟨rfl, hrest⟩ := h;exact one (s.put o.dst (.opt false (.d (.bool false)))) none (.opt false (.d (.bool false))) [] (fun t => St.get_put s o.dst _ t) (fun id => by rw [zlh]) (hput _).1 (hput _).2 (by rw [hgd]; exact ⟨t, ht1, ht2⟩)
      (fun e2 he2 => by cases he2) (fun _ _ _ => by simp [zh]) hd' rfl hrest
   ·exact h.elim

theorem any_sound (hc : Ctx P ty) {cf : List (Nat × Nat)} (hreg : zps l.toArray cf = true) (hcf : ∀ i j, i < j -> j < l.length -> zlz (zds l E g0 orc i) (keys l E i) (zds l E g0 orc j) (keys l E j) = true -> (i, j) ∈ cf)
  (hfact : ∀ j o, l[j]? = some o -> Fact ty P orc l E g0 o0 n base j o) {Q : Exit -> Act -> World -> Prop} {gg : G} {ww : World}
  (hQ : ∀ g a w, Rel (fun k => k < base + l.length) g (zit l E g0 l.length) (zir E o0 l.length) n a w -> zan gg ww g w -> Q .normal a w) :
  ∀ (fuel : Nat) (L : List Nat) (listed : Array Bool) (g : G) (a : Act) (w : World), listed.size = l.length -> L.Nodup -> L.length = fuel -> (∀ i, i < l.length -> (listed.getD i true = false ↔ i ∈ L)) ->
   Closed l.toArray (fun i => listed.getD i false = true) -> Rel (fun k => k < base \/ ∃ i, i < l.length /\ listed.getD i false = true /\ k = base + i) g (zpd l E g0 fun i => listed.getD i false) (zpx l E o0 fun i => listed.getD i false) n a w -> zan gg ww g w ->
   wpAny P .any l.toArray Q fuel listed a w := by
 have flip : ∀ (listed : Array Bool) (i : Nat), listed.size = l.length -> i < l.length -> (listed.getD i true = false ↔ listed.getD i false = false) := by
  intro listed i hsz hi;have : i < listed.size := by omega
  simp [this]
 have fin : ∀ (listed : Array Bool) (g : G) (a : Act) (w : World), listed.size = l.length -> (∀ i, i < l.length -> listed.getD i true = true) -> Rel (fun k => k < base \/ ∃ i, i < l.length /\ listed.getD i false = true /\ k = base + i) g (zpd l E g0 fun i => listed.getD i false) (zpx l E o0 fun i => listed.getD i false) n a w -> zan gg ww g w -> Q .normal a w := by
  intro listed g a w hsz hall hrel hst;have hall' : ∀ i, i < l.length -> listed.getD i false = true := fun i hi => by
   have := (flip listed i hsz hi)
   cases hb : listed.getD i false with
   | true => rfl
   | false => rw [this.2 hb] at *; have := hall i hi; rw [(flip listed i hsz hi).2 hb] at this; cases this
  have h1 : zpd l E g0 (fun i => listed.getD i false) = zit l E g0 l.length := funext fun t => zhv fun i hi _ => hall' i hi;have h2 : zpx l E o0 (fun i => listed.getD i false) = zir E o0 l.length := funext fun t => zhv fun i hi _ => hall' i hi;rw [h1, h2] at hrel;exact hQ g a w ⟨hrel.defers, hrel.size, hrel.tmp, fun k hk => by
   rcases hrel.used k hk with h | ⟨i, q1, _, q3⟩
   ·show k < base + l.length; omega
   ·show k < base + l.length; omega, hrel.heap⟩ hst
 intro fuel;induction fuel with
 | zero =>
  intro L listed g a w hsz hnd hlen hL hcl hrel hst;have hL0 : L = [] := List.eq_nil_of_length_eq_zero hlen;subst hL0;have hall : ∀ i, i < l.length -> listed.getD i true = true := fun i hi => by
   cases hb : listed.getD i true with
   | true => rfl
   | false => have := (hL i hi).1 hb; simp at this
  refine ⟨?_, fin listed g a w hsz hall hrel hst⟩;rw [List.eq_nil_iff_forall_not_mem];intro i hi;obtain ⟨h1, o, ho, _⟩ := mem_ready.1 hi;have := hall i (by have := (Array.getElem?_eq_some_iff.1 ho).1; simpa using this);rw [h1] at this; cases this
 | succ fuel ih =>
  intro L listed g a w hsz hnd hlen hL hcl hrel hst;refine ⟨fun hnil => ?_, fun i hi => ?_⟩
  ·refine fin listed g a w hsz (fun i hi => ?_) hrel hst;induction i using Nat.strongRecOn with
   | _ i ihi =>
    cases hb : listed.getD i true with
    | true => rfl
    | false =>
     exfalso
     have hready : i ∈ Region.ready .any l.toArray listed := by
      refine mem_ready.2 ⟨hb, l[i], by simp [hi], fun e he hbd => ?_⟩;have hlt := regOk_edge hreg (j := i) (o := l[i]) (by simp [hi]) he hbd;have := ihi e.on hlt (by omega);cases hb2 : listed.getD e.on false with
      | true => rfl
      | false => rw [(flip listed e.on hsz (by omega)).2 hb2] at this; cases this
     rw [hnil] at hready;cases hready
  ·obtain ⟨hun, o, ho, hall⟩ := mem_ready.1 hi;have hil : i < l.length := by have := (Array.getElem?_eq_some_iff.1 ho).1; simpa using this
   have hSi : listed.getD i false = false := (flip listed i hsz hil).1 hun;have hset : (fun k => (listed.setIfInBounds i true).getD k false) = fun k => listed.getD k false || k == i := by
    funext k
    by_cases e : k = i
    ·subst e;have : k < listed.size := by omega
     simp [this]
    ·rw [getD_set_ne false (Ne.symm e)];have : (k == i) = false := by simpa using e
     simp [this]
   refine any_step hc hreg hcf hfact (S := fun k => listed.getD k false) hcl (by simpa using ho) hSi (fun e he hb => hall e he hb) hrel fun g' a' w' hr hs => ?_;refine ih (L.erase i) (listed.setIfInBounds i true) g' a' w' (by simpa using hsz) (hnd.erase i) (by rw [List.length_erase_of_mem ((hL i hil).1 hun), hlen]; rfl) (fun k hk => ?_) ?_ ?_ (hst.trans hs)
   ·by_cases e : k = i
    ·subst e;have : k < listed.size := by omega
     constructor
     ·intro h; simp [this] at h
     ·intro h; exact absurd h (List.Nodup.not_mem_erase hnd)
    ·rw [getD_set_ne true (Ne.symm e), hL k hk, List.mem_erase_of_ne e]
   ·intro j oj hj hlj e he hb;by_cases e' : j = i
    ·subst e';have : oj = o := by rw [hj] at ho; exact Option.some.inj ho
     subst this;exact getD_set_true (hall e he hb)
    ·rw [getD_set_ne false (Ne.symm e')] at hlj;exact getD_set_true (hcl j oj hj hlj e he hb)
   ·have h1 : ∀ k, (listed.setIfInBounds i true).getD k false = (listed.getD k false || k == i) := fun k => congrFun hset k;simp only [h1];exact hr

end

theorem zf {P : Program} {ty : TypeId -> Option TI} (hc : Ctx P ty) (hm : P.follows .mixedOrders = true) (orc : List (Nat × Res)) {id : Nat} {l : List Oper} {Q : Exit -> St -> Prop} {s : St}
  (h : ∀ K : St -> List (Nat × List Nat × List Nat) -> Prop, (∀ s' acc, zps l.toArray (cfOf acc) = true -> Q .normal s' -> K s' acc) -> wpD ty P orc (l.map fun o => o.dst) s.nxt 0 l { s with nxt := s.nxt + l.length } [] K) : AWp P (.region id l.toArray true) Q s := by
 intro g a w hr;have hwp := zub _ _ _ _ _ _ _ _ _ (h (fun s' acc => zps l.toArray (cfOf acc) = true /\ Q .normal s') fun s' acc h1 h2 => ⟨h1, h2⟩);obtain ⟨E, s', cf, hfact, hget, hobj, hn, hnx, hcf, acc', rfl, hreg, hQ⟩ := wpC_trace (l := l) (g0 := s.get) (o0 := s.obj) (n := s.n) (nxt := s.nxt + l.length) l 0 { s with nxt := s.nxt + l.length } [] [] (fun _ => (none, .any)) rfl (Nat.zero_le _) (fun j o hj _ => absurd hj (by omega)) (fun t => rfl) (fun id => rfl) rfl rfl
  (fun j hj => absurd hj (by omega)) (fun j k _ hk _ => absurd hk (by omega)) hwp
 refine wp_region_any hm ?_;obtain ⟨d1, d2, d3⟩ := hr.heap.idle (w' := { w with drawn := w.drawn + 1 }) ⟨rfl, ⟨rfl, .inr (Nat.le_succ _)⟩, rfl, Nat.le_refl _, fun _ _ => rfl⟩;refine any_sound hc hreg hcf hfact (gg := g) (ww := w) (fun g' a' w' hrel hst => ?_) l.length (List.range l.length) (Array.replicate l.length false) g a _ (by simp) List.nodup_range (by simp) (fun i hi => by simp [hi]) (fun j o _ hj => by
  have hj' : (Array.replicate l.length false).getD j false = true := hj; rw [show (Array.replicate l.length false).getD j false = false by rcases Nat.lt_or_ge j l.length with h | h <;> simp [h]] at hj'; cases hj') ?_ d2
 ·refine ⟨s', g', ?_, hst, hQ⟩;have := hrel.congr hget hobj;refine ⟨this.defers, by rw [hn]; exact this.size, this.tmp, fun id hid => by have := this.used id hid; show id < s'.nxt; rw [hnx]; exact this, this.heap⟩
 ·have hf : ∀ j, (Array.replicate l.length false).getD j false = false := fun j => by rcases Nat.lt_or_ge j l.length with h | h <;> simp [h]
  have e1 : zpd l E s.get (fun i => (Array.replicate l.length false).getD i false) = s.get := funext fun t => by
   unfold zpd;rw [zmf (j := 0) (Nat.zero_le _) fun i _ _ h => by rw [hf] at h; cases h];rfl
  have e2 : zpx l E s.obj (fun i => (Array.replicate l.length false).getD i false) = s.obj := funext fun t => by
   unfold zpx;rw [zmf (j := 0) (Nat.zero_le _) fun i _ _ h => by rw [hf] at h; cases h];rfl
  rw [e1, e2];exact ⟨hr.defers, hr.size, fun t => zh.later d3 _ _ (hr.tmp t), fun id hid => .inl (hr.used id hid), d1⟩

theorem rd {P : Program} {Q : Exit -> St -> Prop} {s : St} {ty : TypeId -> Option TI} (hc : Ctx P ty) (hm : P.follows .mixedOrders = true) (orc : List (Nat × Res)) {id : Nat} {l : List Oper} {s1 : St} {Y : Prop} {acc : List (Nat × List Nat × List Nat)} (h : ∀ K : St -> List (Nat × List Nat × List Nat) -> Prop, K s1 acc -> wpD ty P orc (l.map fun o => o.dst) s.nxt 0 l { s with nxt := s.nxt + l.length } [] K) [n : Nav (Q .normal s1) Y] (k : Y) (hr : zps l.toArray (cfOf acc) = true := by kernel_rfl) : AWp P (.region id l.toArray true) Q s := zf hc hm orc fun K hK => h K (hK s1 acc hr (n.imp k))
end Go.Abs

namespace Go.Abs
variable [Flag]
open Go.RowKit Go.ChangeShapes Go.WideShapes Go.ChangeAt

def zgc (P : Program) : Nat -> TypeId -> List D -> Prop
 | 0, _, _ => False
 | f + 1, t, ds => match P.underlying t with
  | some .bool => ∃ b, ds = [.bool b]
  | some (.int k) => ∃ n, ds = [.int k n] /\ (Lit.int k n).wf = true
  | some .string => ∃ s : ByteArray, ds = [.str s] /\ s.size <= maxLen
  | some (.slice e) => ∃ rows, ds = [.sl rows] /\ rows.length <= maxLen /\ ∀ r ∈ rows, zgc P f e r
  | some (.struct fs) => ds.length = P.cellsOf t /\ ∀ fd ∈ fs.toList, zgc P f fd.type ((ds.drop fd.offset).take (P.cellsOf fd.type))
  | some (.array n e) => ds.length = n * P.cellsOf e /\ ∀ i < n, zgc P f e ((ds.drop (i * P.cellsOf e)).take (P.cellsOf e))
  | _ => False

def zov (P : Program) : List Field -> Nat -> Nat -> Bool
 | [], o, total => o == total
 | f :: r, o, total => f.offset == o && zov P r (o + P.cellsOf f.type) total

def zjd (P : Program) : Nat -> TypeId -> Bool
 | 0, _ => false
 | f + 1, t => match P.underlying t with
  | some .bool | some (.int _) | some .string => true
  | some (.slice e) => decide (0 < P.cellsOf e) && zjd P f e
  | some (.struct fs) => zov P fs.toList 0 (P.cellsOf t) && fs.toList.all fun fd => zjd P f fd.type
  | some (.array n e) => decide (P.cellsOf t = n * P.cellsOf e) && zjd P f e
  | _ => false

section
variable {H : Type} {enc : TypeId × Value -> H} {P : Program} {w : World}

theorem zuj {fuel : Nat} {spare : Nat -> Bool} {held : Bool} (ro : Nat -> Prop) (f : Nat) (total : Nat) (cs : List Value) (hcs : cs.length = total)
  (ih : ∀ (t : TypeId) (cs : List Value) (x : DataW H × List MemPlace), zjd P f t = true -> DataW.trod enc P w 0 spare held fuel t cs = some x -> ∃ ds, zq ro w ds cs /\ zbl cs /\ zgc P f t ds) :
  ∀ (fs : List Field) (o : Nat), zov P fs o total = true -> (∀ fd ∈ fs, zjd P f fd.type = true /\ ∃ x, DataW.trod enc P w 0 spare held fuel fd.type ((cs.drop fd.offset).take (P.cellsOf fd.type)) = some x) ->
   ∃ ds, zq ro w ds (cs.drop o) /\ zbl (cs.drop o) /\ ds.length = total - o /\ ∀ fd ∈ fs, o <= fd.offset /\ zgc P f fd.type ((ds.drop (fd.offset - o)).take (P.cellsOf fd.type))
 | [], o, ht, _ => by
  simp only [zov, beq_iff_eq] at ht;subst ht;refine ⟨[], by rw [List.drop_of_length_le (by omega)]; simp [zq], (by rw [List.drop_of_length_le (by omega)]; intro v hv; cases hv), by simp, fun _ h => (by cases h)⟩
 | fd :: fs, o, ht, h => by
  simp only [zov, Bool.and_eq_true, beq_iff_eq] at ht;obtain ⟨ho, ht⟩ := ht;obtain ⟨hp, x, hx⟩ := h fd List.mem_cons_self;obtain ⟨ds1, hr1, ho1, ht1⟩ := ih fd.type _ x hp hx;obtain ⟨ds2, hr2, ho2, hl2, ht2⟩ := zuj ro f total cs hcs ih fs (o + P.cellsOf fd.type) ht fun fd' hfd' => h fd' (List.mem_cons_of_mem _ hfd');have hle : ∀ (fs : List Field) (o : Nat), zov P fs o total = true -> o <= total := by
   intro fs;induction fs with
   | nil => intro o h; simp [zov] at h; omega
   | cons f fs ih => intro o h; simp only [zov, Bool.and_eq_true] at h; have := ih _ h.2; omega
  have hle2 := hle fs _ ht;have hsplit : cs.drop o = (cs.drop fd.offset).take (P.cellsOf fd.type) ++ cs.drop (o + P.cellsOf fd.type) := by
   rw [ho]
   conv => lhs; rw [<- List.take_append_drop (P.cellsOf fd.type) (cs.drop o)]
   rw [List.drop_drop]
  have hl1 : ds1.length = P.cellsOf fd.type := by
   have := hr1.length;rw [<- this];simp; omega
  refine ⟨ds1 ++ ds2, by rw [hsplit]; exact hr1.append hr2, by rw [hsplit]; intro v hv; exact (List.mem_append.1 hv).elim (ho1 v) (ho2 v), by simp [hl1, hl2]; omega, fun fd' hfd' => ?_⟩;rcases List.mem_cons.1 hfd' with rfl | hmem
  ·refine ⟨by omega, ?_⟩;rw [ho, Nat.sub_self, List.drop_zero, List.take_left' hl1];exact ht1
  ·obtain ⟨a1, a2⟩ := ht2 fd' hmem;refine ⟨by omega, ?_⟩;rw [show fd'.offset - o = ds1.length + (fd'.offset - (o + P.cellsOf fd.type)) by omega, List.drop_append, List.drop_of_length_le (by omega), List.nil_append, Nat.add_sub_cancel_left];exact a2

theorem trod_arr {spare : Nat -> Bool} {held : Bool} {fuel : Nat} {t : TypeId} {cs : List Value} {x : DataW H × List MemPlace} {n : Nat} {e : TypeId} (ht : P.underlying t = some (.array n e)) (h : DataW.trod enc P w 0 spare held (fuel + 1) t cs = some x) :
  ∃ xs : List (DataW H × List MemPlace), cs.length = P.cellsOf t /\ xs.length = n /\ ∀ (i : Nat), i < n -> DataW.trod enc P w 0 spare held fuel e ((cs.drop (i * P.cellsOf e)).take (P.cellsOf e)) = xs[i]? := by
 unfold DataW.trod at h;rw [ht] at h;split at h <;> simp_all
 obtain ⟨hl, xs, hp, hd⟩ := h;exact ⟨xs, by simpa using mapM_some_length hp, fun i hi => mapM_some_get hp i i (by simp [hi])⟩

theorem array_cells (ro : Nat -> Prop) {Q : List D -> Prop} {m : Nat} : ∀ (n : Nat) (cs : List Value), cs.length = n * m -> (∀ i < n, ∃ ds, zq ro w ds ((cs.drop (i * m)).take m) /\ zbl ((cs.drop (i * m)).take m) /\ Q ds) ->
  ∃ ds, zq ro w ds cs /\ zbl cs /\ ds.length = n * m /\ ∀ i < n, Q ((ds.drop (i * m)).take m)
 | 0, cs, hl, _ => by
  have : cs = [] := List.eq_nil_of_length_eq_zero (by simpa using hl);subst this;exact ⟨[], by simp [zq], fun v hv => by simp at hv, by simp, fun i hi => by omega⟩
 | n + 1, cs, hl, h => by
  rw [Nat.succ_mul] at hl;obtain ⟨d0, a1, a2, a3⟩ := h 0 (by omega);simp only [Nat.zero_mul, List.drop_zero] at a1 a2;have hl0 : d0.length = m := by rw [<- a1.length]; simp; omega
  obtain ⟨ds, b1, b2, b3, b4⟩ := array_cells ro (Q := Q) (m := m) n (cs.drop m) (by rw [List.length_drop]; omega) fun i hi => by
   have := h (i + 1) (by omega);rw [List.drop_drop, show m + i * m = (i + 1) * m by rw [Nat.succ_mul]; omega];exact this
  refine ⟨d0 ++ ds, ?_, ?_, by rw [List.length_append, Nat.succ_mul]; omega, fun i hi => ?_⟩
  ·have := a1.append b1
   rwa [List.take_append_drop] at this
  ·intro v hv;rw [<- List.take_append_drop m cs] at hv;exact (List.mem_append.1 hv).elim (a2 v) (b2 v)
  ·cases i with
   | zero => simp only [Nat.zero_mul, List.drop_zero]; rw [List.take_left' hl0]; exact a3
   | succ i =>
    rw [Nat.succ_mul, show i * m + m = d0.length + i * m by omega, List.drop_append, List.drop_of_length_le (by omega), List.nil_append, Nat.add_sub_cancel_left];exact b4 i (by omega)

theorem zue (spare : Nat -> Bool) (held : Bool) : ∀ (fuel f : Nat) (t : TypeId) (cs : List Value) (x : DataW H × List MemPlace), zjd P f t = true -> DataW.trod enc P w 0 spare held fuel t cs = some x -> ∃ ds, zq (fun b => b < w.heap.size) w ds cs /\ zbl cs /\ zgc P f t ds
 | 0, f, t, cs, x, _, h => by simp [DataW.trod] at h
 | fuel + 1, 0, t, cs, x, hp, _ => by simp [zjd] at hp
 | fuel + 1, f + 1, t, cs, x, hp, h => by
  simp only [zjd] at hp;split at hp
  ·rename_i hu;obtain ⟨b, rfl, _⟩ := DataW.trod_bool hu h;exact ⟨[.bool b], by simp [zq, zr], fun v hv => by simp at hv; subst hv; rfl, by simp only [zgc, hu]; exact ⟨b, rfl⟩⟩
  ·rename_i k hu;obtain ⟨n, rfl, _, hwf⟩ := DataW.trod_int hu h;exact ⟨[.int k n], by simp [zq, zr], fun v hv => by simp at hv; subst hv; rfl, by simp only [zgc, hu]; exact ⟨n, rfl, hwf⟩⟩
  ·rename_i hu;obtain ⟨s, rfl, _, hs⟩ := DataW.trod_string hu h;exact ⟨[.str s], by simp [zq, zr], fun v hv => by simp at hv; subst hv; rfl, by simp only [zgc, hu]; exact ⟨s, rfl, hs⟩⟩
  ·rename_i e hu;simp only [Bool.and_eq_true, decide_eq_true_eq] at hp;rcases DataW.trod_slice hu h with ⟨rfl, _⟩ | ⟨a, len, cap, elems, rest, n, hn, rfl, _, _, hlc, hcm, hel, heach, _, _⟩
   ·refine ⟨[.sl []], ?_, fun v hv => by simp at hv; subst hv; rfl, by simp only [zgc, hu]; exact ⟨[], rfl, by simp, by simp⟩⟩;simp only [zq];exact ⟨_, [], rfl, zff, rfl⟩
   ·cases hn;have rowsEx : ∀ i, i < len -> ∃ ds us, w.cells? 0 (a.add (i * P.cellsOf e)) (P.cellsOf e) = some us /\ zq (fun b => b < w.heap.size) w ds us /\ zbl us /\ zgc P f e ds := by
     intro i hi;have h1 := heach i hi;have h2 : ∃ y, elems[i]? = some y := ⟨elems[i]'(by omega), List.getElem?_eq_getElem _⟩
     obtain ⟨y, hy⟩ := h2;rw [hy] at h1;cases hc : w.cells? 0 (a.add (i * P.cellsOf e)) (P.cellsOf e) with
     | none => rw [hc] at h1; cases h1
     | some us =>
      rw [hc] at h1;obtain ⟨ds, k1, k2, k3⟩ := zue spare held fuel f e us y hp.2 h1;exact ⟨ds, us, rfl, k1, k2, k3⟩
    have pick : ∃ g : Nat -> List D, ∀ i, i < len -> ∃ us, w.cells? 0 (a.add (i * P.cellsOf e)) (P.cellsOf e) = some us /\ zq (fun b => b < w.heap.size) w (g i) us /\ zbl us /\ zgc P f e (g i) := by
     refine ⟨fun i => if hi : i < len then Classical.choose (rowsEx i hi) else [], fun i hi => ?_⟩;simp only [hi, dif_pos];exact Classical.choose_spec (rowsEx i hi)
    obtain ⟨g, hg⟩ := pick;have hlen : ((List.range len).map g).length = len := by simp
    have hspot : 0 < len -> a.spot = none /\ a.block < w.heap.size := by
     intro hpos;obtain ⟨us, hc, _⟩ := hg 0 hpos;obtain ⟨_, hul, hcell⟩ := World.cells?_some hc;have h0 := hcell 0 hp.1;have hu0 : ∃ v, us[0]? = some v := ⟨us[0]'(by omega), List.getElem?_eq_getElem _⟩
     obtain ⟨v, hv⟩ := hu0;rw [hv] at h0;simp only [Nat.zero_mul, Addr.add_zero'] at h0;refine ⟨?_, World.block_lt_of_cell? w _ h0⟩;unfold World.cell? at h0;split at h0
     ·cases hs : a.spot with
      | none => rfl
      | some q => rw [hs] at h0; simp at h0
     ·cases h0
    refine ⟨[.sl ((List.range len).map g)], ?_, fun v hv => by simp at hv; subst hv; rfl, ?_⟩
    ·simp only [zq, zr];refine ⟨_, [], rfl, ⟨some a, cap, by rw [hlen], by rw [hlen]; exact hlc, hcm, ?_⟩, rfl⟩;by_cases hpos : 0 < len
     ·right
      obtain ⟨hs, hb⟩ := hspot hpos;obtain ⟨blk, off, spot⟩ := a;simp only at hs hb;subst hs;refine ⟨blk, off, P.cellsOf e, rfl, hb, zau.of_get fun i r hi => ?_⟩;have hil : i < len := by
       have h1 := (List.getElem?_eq_some_iff.1 hi).1;rw [hlen] at h1;exact h1
      have hr : g i = r := by
       rw [List.getElem?_map, List.getElem?_range hil] at hi;exact Option.some.inj hi
      subst hr;obtain ⟨us, hc, k1, k2, k3⟩ := hg i hil;obtain ⟨_, hul, hcell⟩ := World.cells?_some hc;refine ⟨us, hul, k1, fun j v hj => ⟨?_, k2 v (List.mem_of_getElem? hj)⟩⟩;have hjl : j < P.cellsOf e := by rw [<- hul]; exact (List.getElem?_eq_some_iff.1 hj).1
      have := hcell j hjl;rw [hj, Addr.add_lit, Addr.add_lit] at this;exact this
     ·left
      have : len = 0 := by omega
      subst this; rfl
    ·simp only [zgc, hu];refine ⟨_, rfl, by rw [hlen]; omega, fun r hr => ?_⟩;obtain ⟨i, hi, rfl⟩ := List.mem_map.1 hr;obtain ⟨us, _, _, _, k3⟩ := hg i (List.mem_range.1 hi);exact k3
  ·rename_i fs hu;simp only [Bool.and_eq_true] at hp;obtain ⟨xs, n, hn, _, hl, hlen, hf⟩ := DataW.trod_struct hu h;cases hn;obtain ⟨ds, k1, k2, k3, k4⟩ := zuj (fun b => b < w.heap.size) f (P.cellsOf t) cs hl (fun t cs x h1 h2 => zue spare held fuel f t cs x h1 h2) fs.toList 0 hp.1 fun fd hfd => by
    refine ⟨List.all_eq_true.1 hp.2 fd hfd, ?_⟩;obtain ⟨i, hi⟩ := List.mem_iff_getElem?.1 hfd;have hif : fs[i]? = some fd := by simpa using hi
    have := hf i fd hif;rw [this];have hil : i < xs.length := by rw [hlen]; exact (Array.getElem?_eq_some_iff.1 hif).1
    exact ⟨_, List.getElem?_eq_getElem hil⟩
   refine ⟨ds, by simpa using k1, by simpa using k2, ?_⟩;simp only [zgc, hu];exact ⟨by simpa using k3, fun fd hfd => by simpa using (k4 fd hfd).2⟩
  ·rename_i n e hu;simp only [Bool.and_eq_true, decide_eq_true_eq] at hp;obtain ⟨xs, hd1, hd2, hd3⟩ := trod_arr hu h;obtain ⟨ds, k1, k2, k3, k4⟩ := array_cells (fun b => b < w.heap.size) (Q := zgc P f e) n cs (hd1.trans hp.1) fun i hi => by
    have hx := hd3 i hi;rw [List.getElem?_eq_getElem (show i < xs.length by omega)] at hx;exact zue spare held fuel f e _ _ hp.2 hx
   refine ⟨ds, k1, k2, ?_⟩;simp only [zgc, hu];exact ⟨k3, k4⟩
  ·cases hp

def hasV (P : Program) (t : TypeId) (x : D) : Prop :=
 match P.underlying t with
 | some (.struct _) | some (.array _ _) => ∃ cs, x = .agg cs /\ zgc P 30 t cs
 | _ => zgc P 30 t [x]

theorem trod_repV {t : TypeId} {v : Value} {d : DataW H} {ps : List MemPlace} {base : Nat} (hp : zjd P 30 t = true) (hok : Value.okWide P w .any base t v) (h : DataW.Trod enc P w 0 (fun _ => true) true t v d ps) :
  ∃ x, zr (fun b => b < w.heap.size) w x v /\ hasV P t x := by
 obtain ⟨fuel, h⟩ := h;obtain ⟨ds, h1, h2, h3⟩ := zue _ _ fuel 30 t _ _ hp h;unfold Value.okWide at hok;unfold hasV;have one : v.oneCell' = true -> ∃ x, zr (fun b => b < w.heap.size) w x v /\ zgc P 30 t [x] := by
  intro hv;have hc : v.cells.toList = [v] := by cases v <;> simp_all [Value.cells, Value.oneCell']
  rw [hc] at h1
  match ds, h1, h1.length with
  | [x], h1, _ =>
   simp only [zq] at h1;obtain ⟨u, us, heq, hr, _⟩ := h1;cases heq;exact ⟨x, hr, h3⟩
 unfold zjd at hp;cases hu : P.underlying t with
 | none => rw [hu] at hp; cases hp
 | some ty =>
  rw [hu] at hp hok;cases ty with
  | struct fs =>
   obtain ⟨cs, rfl, _⟩ := hok;refine ⟨.agg ds, ?_, ds, rfl, h3⟩;simp only [zr];exact ⟨cs.toList, by simp, by simpa [Value.cells] using h2, by simpa [Value.cells] using h1⟩
  | array n e =>
   obtain ⟨cs, rfl, _⟩ := hok;refine ⟨.agg ds, ?_, ds, rfl, h3⟩;simp only [zr];exact ⟨cs.toList, by simp, by simpa [Value.cells] using h2, by simpa [Value.cells] using h1⟩
  | bool =>
   refine one ?_;simp only [Cell.okWide, hu] at hok;cases v <;> first | rfl | (simp [Cell.ok, hu] at hok)
  | int k =>
   refine one ?_;simp only [Cell.okWide, hu] at hok;cases v <;> first | rfl | (simp [Cell.ok, hu] at hok)
  | string =>
   refine one ?_;simp only [Cell.okWide, hu] at hok;cases v <;> first | rfl | (simp [Cell.ok, hu] at hok)
  | slice e =>
   refine one ?_;simp only [Cell.okWide, hu] at hok;cases v <;> first | rfl | (simp [Cell.ok, hu] at hok)
  | _ => cases hp

def hasVs (P : Program) : List TypeId -> List D -> Prop
 | [], xs => xs = []
 | t :: ts, xs => ∃ x r, xs = x :: r /\ hasV P t x /\ hasVs P ts r

theorem trodAll_rep {base : Nat} : ∀ {ts : List TypeId} {vs : List Value} {ds : List (DataW H)} {ps : List MemPlace}, ts.all (zjd P 30) = true -> (∀ (j : Nat) t v, ts[j]? = some t -> vs[j]? = some v -> Value.okWide P w .any base t v) ->
  DataW.TrodAll enc P w 0 (fun _ => true) true ts vs ds ps -> ∃ xs, zq (fun b => b < w.heap.size) w xs vs /\ hasVs P ts xs
 | [], vs, ds, ps, _, _, h => by
  obtain ⟨rfl, rfl, rfl⟩ := trodAll_nil h;exact ⟨[], by simp [zq], by simp [hasVs]⟩
 | t :: ts, vs, ds, ps, hp, hok, h => by
  obtain ⟨v, vs1, d, ds1, a, b, rfl, rfl, rfl, h1, h2⟩ := trodAll_cons h;simp only [List.all_cons, Bool.and_eq_true] at hp;obtain ⟨x, k1, k2⟩ := trod_repV hp.1 (hok 0 t v rfl rfl) h1;obtain ⟨xs, k3, k4⟩ := trodAll_rep hp.2 (fun j t v hj hv => hok (j + 1) t v (by simpa using hj) (by simpa using hv)) h2;refine ⟨x :: xs, by simp only [zq]; exact ⟨v, vs1, rfl, k1, k3⟩, by simp only [hasVs]; exact ⟨x, xs, rfl, k2, k4⟩⟩

theorem zsi (hl : laidOutB P = true) {W' : World} (hb : Below w.heap.size w W') : ∀ {ts : List TypeId} {vs : List Value} {ds : List (DataW H)} {ps : List MemPlace}, (∀ t ∈ ts, P.readableRec t = true /\ t < P.types.size) -> (∀ p ∈ ps, p.block < w.heap.size) ->
  DataW.TrodAll enc P w 0 (fun _ => true) true ts vs ds ps -> ∀ sp : Nat -> Bool, (∀ p ∈ ps, sp p.block = true) -> DataW.TrodAll enc P W' 0 sp true ts vs ds ps
 | [], vs, ds, ps, _, _, h, _, _ => by
  obtain ⟨rfl, rfl, rfl⟩ := trodAll_nil h;exact rfl
 | t :: ts, vs, ds, ps, hr, hlt, h, sp, hsp => by
  obtain ⟨v, vs1, d, ds1, a, b, rfl, rfl, rfl, h1, h2⟩ := trodAll_cons h;refine ⟨a, b, ?_, zsi hl hb (fun t ht => hr t (List.mem_cons_of_mem _ ht)) (fun p hp => hlt p (List.mem_append_right _ hp)) h2 sp (fun p hp => hsp p (List.mem_append_right _ hp)), rfl⟩;obtain ⟨k1, k2⟩ := hr t List.mem_cons_self;exact WideElems.Trod_stays hl k1 k2 h1 (fun x hx => hb.kit.same (hlt x (List.mem_append_left _ hx))) (fun x hx => hsp x (List.mem_append_left _ hx))

theorem zvf {f : FuncId} {fn : Func} {s : ChangeSpec} {fresh handsOn : Bool} {bt : TypeId} (hvars : s.vars = []) (hspec : ∀ ds : List (DataW H), ds.length = fn.params.size -> s.fn H ds = { results := [.lit (.bool true)], args := ds })
  (hl : laidOutB P = true) (hread : ∀ t ∈ fn.params.toList, P.readableRec t = true /\ t < P.types.size) (hplain : fn.params.toList.all (zjd P 30) = true) (hres : fn.resultTypes = #[bt]) (hbt : P.underlying bt = some .bool)
  (hlaw : ∀ xs, hasVs P fn.params.toList xs -> PC P f xs (.p (.bool true)))
  (W : World) (base : Nat) (args : Array Value) (ds gs : List (DataW H)) (before : List MemPlace)
  (hval : ∀ (j : Nat) t v, fn.params[j]? = some t -> args[j]? = some v -> Value.okWide P W .any base t v)
  (hW : DataW.Whole enc P fn.params.toList s.vars false W args.toList ds gs before) :
  Calls P f args W fun e W' => ∃ v, e = .returned v /\ s.post enc P fn false fresh handsOn false W args v W' := by
 have hW' := hW;obtain ⟨p, q, hA, hV, rfl, hfz, _⟩ := hW;rw [hvars] at hV;obtain ⟨rfl, rfl⟩ := trodVars_none hV;simp only [List.append_nil] at hW';obtain ⟨xs, hx, hv⟩ := trodAll_rep hplain (fun j t v hj hv => hval j t v (by simpa using hj) (by simpa using hv)) hA;have hlen : ds.length = fn.params.size := by
  have key : ∀ {ts : List TypeId} {vs : List Value} {ds : List (DataW H)} {ps : List MemPlace}, DataW.TrodAll enc P W 0 (fun _ => true) true ts vs ds ps -> ds.length = ts.length := by
   intro ts;induction ts with
   | nil => intro vs ds ps h; obtain ⟨_, rfl, _⟩ := trodAll_nil h; rfl
   | cons t ts ih => intro vs ds ps h; obtain ⟨v, vs1, d, ds1, a, b, _, rfl, _, _, h2⟩ := trodAll_cons h; simp [ih h2]
  simpa using key hA
 obtain ⟨_, hc⟩ := hlaw xs hv;have hcall := hc (fun b => b < W.heap.size) W args.toList (fun _ h => h) hx;simp only [Array.toArray_toList] at hcall;refine hcall.mono fun e W' ⟨v, he, hb, hr⟩ => ⟨v, he, ?_⟩
 simp only [zdn, zr] at hr;subst hr;have hlt : ∀ x ∈ p, x.block < W.heap.size := fun x hx => hW'.lt x hx;refine ⟨ds, [], p, [], p, [], hW', ?_, ?_, ?_, World.keptBut_mono (fun x hx => ⟨hx, .inr (.inl hx)⟩) (hb.kit.frame _), fun h => by cases h⟩
 ·rw [List.append_nil, hspec ds hlen, hres];exact trodAll_mk1 (shut_bool hbt true)
 ·rw [List.append_nil, hspec ds hlen];exact zsi hl hb hread hlt hA _ fun x hx => by simpa using hlt x hx
 ·rw [List.append_nil, hspec ds hlen, hvars];exact rfl

end
end Go.Abs

namespace Go.Abs
variable [Flag]
open Go.RowKit

theorem take_map_len {α β : Type} (f : α -> β) (l : List α) : List.take l.length (l.map f) = l.map f := List.take_of_length_le (by simp)

mutual
def fz (id : Nat) (rs : List (List D)) : AV -> AV
 | .hs i off len => if i = id then (if off + len <= rs.length then .d (.sl ((rs.drop off).take len)) else .any) else .hs i off len
 | .ptr i r c => if i = id then (match rs[r]? with | some row => .d (.rp (row.drop c)) | none => .any) else .ptr i r c
 | .agg l => mkAgg (fzL id rs l)
 | .clo f l => .clo f (fzL id rs l)
 | .tup l => .tup (fzL id rs l)
 | .opt b x => .opt b (fz id rs x)
 | .any => .any
 | .nl => .nl
 | .d x => .d x
 | .ub p q => .ub p q
 | .lit v => .lit v
 | .pin i L => if i = id then .any else .pin i L
 | .hm i => if i = id then .d (.mp rs) else .hm i
def fzL (id : Nat) (rs : List (List D)) : List AV -> List AV
 | [] => []
 | a :: l => fz id rs a :: fzL id rs l
end

def fzR (id : Nat) (rs : List (List D)) : List (List AV) -> List (List AV)
 | [] => []
 | r :: l => fzL id rs r :: fzR id rs l

theorem zaq (id : Nat) (rs : List (List D)) : ∀ l : List D, fzL id rs (l.map AV.d) = l.map AV.d
 | [] => rfl
 | x :: l => by simp only [List.map_cons, fzL, fz, zaq id rs l]
theorem zbc (id : Nat) (rs : List (List D)) : ∀ l : List (List D), fzR id rs (dr l) = dr l
 | [] => rfl
 | x :: l => by
  show fzR id rs (x.map AV.d :: dr l) = x.map AV.d :: dr l
  simp only [fzR, zaq, zbc id rs l]
theorem zat (id : Nat) (rs : List (List D)) (b : List (List AV)) : ∀ a : List (List AV), fzR id rs (a ++ b) = fzR id rs a ++ fzR id rs b
 | [] => rfl
 | x :: l => by simp only [List.cons_append, fzR, zat id rs b l]
theorem zas (id : Nat) (rs : List (List D)) (r : List AV) : ∀ (a : List (List AV)) (k : Nat), fzR id rs (a.set k r) = (fzR id rs a).set k (fzL id rs r)
 | [], _ => rfl
 | x :: l, 0 => rfl
 | x :: l, k + 1 => by simp only [List.set_cons_succ, fzR, zas id rs r l k]
theorem fzL_length (id : Nat) (rs : List (List D)) : ∀ l : List AV, (fzL id rs l).length = l.length
 | [] => rfl
 | a :: l => by simp only [fzL, List.length_cons, fzL_length id rs l]
theorem fzR_length (id : Nat) (rs : List (List D)) : ∀ l : List (List AV), (fzR id rs l).length = l.length
 | [] => rfl
 | a :: l => by simp only [fzR, List.length_cons, fzR_length id rs l]
theorem fzR_get (id : Nat) (rs : List (List D)) : ∀ (l : List (List AV)) (i : Nat) (r : List AV), (fzR id rs l)[i]? = some r -> ∃ r0, l[i]? = some r0 /\ r = fzL id rs r0
 | [], i, r, h => by simp [fzR] at h
 | a :: l, 0, r, h => by simp [fzR] at h; exact ⟨a, by simp, h.symm⟩
 | a :: l, i + 1, r, h => by simp [fzR] at h; obtain ⟨r0, h1, h2⟩ := fzR_get id rs l i r h; exact ⟨r0, by simpa using h1, h2⟩
theorem fzL_get (id : Nat) (rs : List (List D)) : ∀ (l : List AV) (i : Nat) (r : AV), (fzL id rs l)[i]? = some r -> ∃ r0, l[i]? = some r0 /\ r = fz id rs r0
 | [], i, r, h => by simp [fzL] at h
 | a :: l, 0, r, h => by simp [fzL] at h; exact ⟨a, by simp, h.symm⟩
 | a :: l, i + 1, r, h => by simp [fzL] at h; obtain ⟨r0, h1, h2⟩ := fzL_get id rs l i r h; exact ⟨r0, by simpa using h1, h2⟩

def fzT (id : Nat) (rs : List (List D)) : List (Nat × AV) -> List (Nat × AV)
 | [] => []
 | (t, v) :: l => (t, fz id rs v) :: fzT id rs l
def fzO (id : Nat) (rs : List (List D)) : Option Ob -> Option Ob
 | none => none
 | some o => some ⟨o.elem, o.m, fzR id rs o.rows⟩
def fzH (id : Nat) (rs : List (List D)) : List (Nat × Option Ob) -> List (Nat × Option Ob)
 | [] => []
 | (t, v) :: l => (t, fzO id rs v) :: fzH id rs l

def St.fz (s : St) (id : Nat) (rs : List (List D)) : St := ⟨s.n, fzT id rs s.tm, (id, none) :: fzH id rs s.hp, s.nxt⟩

theorem fzT_find (id : Nat) (rs : List (List D)) (t : Nat) : ∀ l, find (fzT id rs l) t = (find l t).map (Abs.fz id rs)
 | [] => rfl
 | (k, v) :: l => by
  simp only [fzT, find];split
  ·rfl
  ·exact fzT_find id rs t l
theorem fzH_find (id : Nat) (rs : List (List D)) (t : Nat) : ∀ l, find (fzH id rs l) t = (find l t).map (fzO id rs)
 | [] => rfl
 | (k, v) :: l => by
  simp only [fzH, find];split
  ·rfl
  ·exact fzH_find id rs t l

section
variable {g : G} {w : World} {id : Nat} {o : Ob} {rs : List (List D)} {L : Loc}

mutual
theorem fz_rep (hL : g.loc id = some L) (hok : znf g w L o) (hrs : zdc o.rows = some rs) : ∀ (x : AV) (v : Value), zh g w x v -> zh (frozen g id) w (fz id rs x) v
 | .any, v, h => by simp [fz, zh]
 | .nl, v, h => by simpa [fz, zh] using h
 | .d x, v, h => by simp only [fz]; exact zh.later zft _ _ h
 | .ub p q, v, h => by simpa only [fz, zh] using h
 | .lit u, v, h => by simpa only [fz, zh] using h
 | .pin i L0, v, h => by
  simp only [fz];split
  ·simp [zh]
  ·rename_i e;simp only [zh] at h ⊢;exact ⟨h.1, fun M hM => h.2 M (by simpa [frozen, e] using hM)⟩
 | .hm i, v, h => by
  simp only [fz];split
  ·rename_i e;subst e;simp only [zh] at h ⊢;obtain ⟨hv, rfl⟩ := h.2 L hL;obtain ⟨_, es, clock, e1, e2, e3⟩ := hok.ents hv;simp only [zr];exact ⟨L.blk, es, clock, rfl, .inr ⟨L, hL, hv.1, rfl⟩, e1, zdz.mono (fun b hb => ⟨.inl hb, rfl⟩) _ _ (ents_D hrs e3)⟩
  ·exact zh.later zft _ _ h
 | .hs i off len, v, h => by
  simp only [fz];split
  ·rename_i e;subst e;split
   ·rename_i hle;simp only [zh] at h ⊢;have hrl := zgz hrs;rcases h.2 L hL with ⟨hv, rfl, rfl, a0, rfl⟩ | ⟨hv, hlc, rfl⟩
    ·simpa using zff
    ·have hlen : ((rs.drop off).take len).length = len := by simp; omega
     obtain ⟨_, _, _, hcapm, _⟩ := hok.cells hv;simp only [zr];refine ⟨some ⟨L.blk, off * L.m, none⟩, L.cap - off, by rw [hlen], by rw [hlen]; omega, by omega, ?_⟩;refine .inr ⟨L.blk, off * L.m, L.m, rfl, .inr ⟨L, hL, hv.1, rfl⟩, zau.of_get fun i r hi => ?_⟩;rw [List.getElem?_take] at hi;split at hi
     ·rw [List.getElem?_drop] at hi;obtain ⟨row, hrow, ha⟩ := zgs hrs _ r hi;obtain ⟨us, hul, hur, huc⟩ := hok.row hv hrow;refine ⟨us, hul, zq.mono (fun b hb => ⟨.inl hb, rfl⟩) r us (zj.allD ha hur), ?_⟩
      rwa [Nat.add_mul] at huc
     ·cases hi
   ·simp [zh]
  ·exact zh.later zft _ _ h
 | .ptr i r c, v, h => by
  simp only [fz];split
  ·rename_i e;subst e;split
   ·rename_i row hrow;simp only [zh] at h ⊢;obtain ⟨hv, rfl⟩ := h.2 L hL;obtain ⟨arow, harow, ha⟩ := zgs hrs _ row hrow;obtain ⟨us, hul, hur, huc⟩ := hok.row hv harow;simp only [zr];exact ⟨L.blk, r * L.m + c, us.drop c, rfl, .inr ⟨L, hL, hv.1, rfl⟩, (zq.mono (fun b hb => ⟨.inl hb, rfl⟩) row us (zj.allD ha hur)).drop c, huc.drop c⟩
   ·simp [zh]
  ·exact zh.later zft _ _ h
 | .agg l, v, h => by
  simp only [fz];simp only [zh] at h;obtain ⟨vs, rfl, ho, hr⟩ := h;exact zh.mkAgg ho (zvk hL hok hrs l vs hr)
 | .clo f l, v, h => by
  simp only [fz, zh] at h ⊢;obtain ⟨vs, hv, hr⟩ := h;exact ⟨vs, hv, zvk hL hok hrs l vs hr⟩
 | .tup l, v, h => by
  simp only [fz, zh] at h ⊢;obtain ⟨vs, hv, hr⟩ := h;exact ⟨vs, hv, zvk hL hok hrs l vs hr⟩
 | .opt b x, v, h => by
  simp only [fz, zh] at h ⊢;exact ⟨fun hb => fz_rep hL hok hrs x v (h.1 hb), h.2⟩
theorem zvk (hL : g.loc id = some L) (hok : znf g w L o) (hrs : zdc o.rows = some rs) : ∀ (x : List AV) (v : List Value), zj g w x v -> zj (frozen g id) w (fzL id rs x) v
 | [], v, h => by simpa [fzL, zj] using h
 | a :: l, v, h => by
  simp only [fzL, zj] at h ⊢;obtain ⟨u, us, rfl, h1, h2⟩ := h;exact ⟨u, us, rfl, fz_rep hL hok hrs a u h1, zvk hL hok hrs l us h2⟩
end
theorem fzR_ents (hL : g.loc id = some L) (hok : znf g w L o) (hrs : zdc o.rows = some rs) : ∀ (x : List (List AV)) (es : List MapEntry), zad g w x es -> zad (frozen g id) w (fzR id rs x) es
 | [], es, h => by simpa [fzR, zad] using h
 | a :: l, es, h => by
  simp only [fzR, zad] at h ⊢;obtain ⟨e, es', rfl, h1, h2⟩ := h;exact ⟨e, es', rfl, zvk hL hok hrs a _ h1, fzR_ents hL hok hrs l es' h2⟩

end

theorem zeh.trans {s s' s'' : St} (h : zeh s s') (k : zeh s' s'') : zeh s s'' := fun g a w hr => by
 obtain ⟨g', h1, h2⟩ := h g a w hr;obtain ⟨g'', k1, k2⟩ := k g' a w h1;exact ⟨g'', k1, h2.trans k2⟩

theorem zpg {s : St} (id : Nat) {o : Ob} (rs : List (List D)) (ho : s.obj id = some o) (hrs : zdc o.rows = some rs) : zeh s (s.fz id rs) := by
 intro g a w hr;obtain ⟨L, hL, hok⟩ := hr.heap.own id o ho;have hget : ∀ t, (s.fz id rs).get t = Abs.fz id rs (s.get t) := fun t => by
  unfold St.get St.fz;rw [fzT_find];cases find s.tm t <;> simp [Abs.fz]
 have hobj : ∀ x, (s.fz id rs).obj x = if x = id then none else fzO id rs (s.obj x) := fun x => by
  unfold St.obj St.fz;simp only [find];by_cases e : x = id
  ·subst e; simp
  ·rw [if_neg (Ne.symm e), if_neg e, fzH_find];cases find s.hp x <;> simp [fzO]
 have hloc : ∀ x M, (frozen g id).loc x = some M -> x ≠ id /\ g.loc x = some M := by
  intro x M hx;simp only [frozen] at hx;split at hx
  ·cases hx
  ·rename_i e; exact ⟨e, hx⟩
 refine ⟨frozen g id, ⟨hr.defers, hr.size, fun t => by rw [hget]; exact fz_rep hL hok hrs _ _ (hr.tmp t), hr.used, ⟨?_, ?_, ?_, ?_, ?_⟩⟩, ⟨rfl, ⟨rfl, .inr (Nat.le_refl _)⟩, rfl, Nat.le_refl _, fun _ _ _ => rfl, ?_, fun _ hb => .inl hb, ?_⟩⟩
 ·intro x o' ho';rw [hobj] at ho';split at ho'
  ·cases ho'
  ·rename_i e;unfold fzO at ho';split at ho'
   ·cases ho'
   ·rename_i ox hox;cases ho';obtain ⟨M, hM, hk⟩ := hr.heap.own x ox hox;refine ⟨M, by simp [frozen, e, hM], hk.m, hk.pos, by simpa only [fzR_length] using hk.len, fun hv => by simp [hk.virt hv, fzR], fun hv => ?_, fun hv => ⟨(hk.ents hv).1, (hk.ents hv).2.imp fun es he => he.imp fun clock he => ⟨he.1, he.2.1, fzR_ents hL hok hrs _ _ he.2.2⟩⟩⟩;obtain ⟨cur, c1, c2, c3, c5⟩ := hk.cells hv;refine ⟨cur, c1, c2, c3, fun i row hi => ?_⟩;obtain ⟨r0, hr0, rfl⟩ := fzR_get id rs _ i row hi;obtain ⟨d1, d2⟩ := c5 i r0 hr0;refine ⟨by rw [fzL_length]; exact d1, fun j av hj => ?_⟩;obtain ⟨a0, ha0, rfl⟩ := fzL_get id rs _ j av hj;obtain ⟨v, q1, q2, q3⟩ := d2 j a0 ha0;exact ⟨v, q1, q2, fz_rep hL hok hrs _ _ q3⟩
 ·intro x hx;rw [hobj] at hx;simp only [frozen];split at hx
  ·rename_i e; rw [if_pos e]
  ·rename_i e;rw [if_neg e];unfold fzO at hx;split at hx
   ·rename_i hn; exact hr.heap.gone x hn
   ·cases hx
 ·intro x M hx;obtain ⟨e, hM⟩ := hloc x M hx;refine ⟨(hr.heap.live x M hM).1, fun hv => ⟨((hr.heap.live x M hM).2 hv).1, ?_⟩⟩;rintro (hro | ⟨L', hL', hv', hb⟩)
  ·exact ((hr.heap.live x M hM).2 hv).2 hro
  ·exact e (hr.heap.inj x id M L' hM hL' hv hv' hb)
 ·intro x y M M' hx hy hv hv' hb;exact hr.heap.inj x y M M' (hloc x M hx).2 (hloc y M' hy).2 hv hv' hb
 ·rintro b (hro | ⟨L', hL', hv', rfl⟩)
  ·exact hr.heap.ro b hro
  ·exact ((hr.heap.live id L' hL').2 hv').1
 ·rintro b ⟨x, M, hx, hv, rfl⟩;exact .inr ⟨x, M, (hloc x M hx).2, hv, rfl⟩
 ·rintro b (hro | ⟨L', hL', hv', rfl⟩)
  ·exact .inl hro
  ·exact .inr (.inr ⟨id, L', hL', hv', rfl⟩)

theorem zaf {P : Program} {c : Code} {Q : Exit -> St -> Prop} {s : St} (id : Nat) {o : Ob} (rs : List (List D)) (ho : s.obj id = some o) (hrs : zdc o.rows = some rs)
  (h : ∀ K : St -> Prop, (∀ s', AWp P c Q s' -> K s') -> K (s.fz id rs)) : AWp P c Q s :=
 zby (zpg id rs ho hrs) (h _ fun _ hk => hk)

end Go.Abs

namespace Go.Abs
variable [Flag]
open Go.RowKit

section
variable {P : Program} {f : Nat} {t : TypeId} {ds : List D}

theorem zvi {k : IntKind} (hu : P.underlying t = some (.int k)) (h : zgc P (f + 1) t ds) : ∃ n, ds = [.int k n] /\ (Lit.int k n).wf = true := by
 simp only [zgc, hu] at h; exact h
theorem hasT_slice {e : TypeId} (hu : P.underlying t = some (.slice e)) (h : zgc P (f + 1) t ds) : ∃ rows, ds = [.sl rows] /\ rows.length <= maxLen /\ ∀ r ∈ rows, zgc P f e r := by
 simp only [zgc, hu] at h; exact h

def zfx (P : Program) (f : Nat) : List TypeId -> List D -> Prop
 | [], ds => ds = []
 | t :: ts, ds => zgc P f t (ds.take (P.cellsOf t)) /\ zfx P f ts (ds.drop (P.cellsOf t))

theorem parts_of (g : Nat) : ∀ (fs : List Field) (o : Nat) (ds : List D), zov P fs o ds.length = true -> (∀ fd ∈ fs, zgc P g fd.type ((ds.drop fd.offset).take (P.cellsOf fd.type))) -> zfx P g (fs.map (·.type)) (ds.drop o)
 | [], o, ds, ht, _ => by
  simp only [zov, beq_iff_eq] at ht;simp [zfx, ht]
 | fd :: fs, o, ds, ht, h => by
  simp only [zov, Bool.and_eq_true, beq_iff_eq] at ht;have h0 := h fd List.mem_cons_self;rw [ht.1] at h0;simp only [List.map_cons, zfx];refine ⟨h0, ?_⟩;rw [List.drop_drop];exact parts_of g fs _ ds ht.2 fun x hx => h x (List.mem_cons_of_mem _ hx)

theorem zqj {fs : Array Field} {n : Nat} {ts : List TypeId} (hu : P.underlying t = some (.struct fs)) (hn : P.cellsOf t = n) (hts : fs.toList.map (·.type) = ts) (ht : zov P fs.toList 0 n = true) (h : zgc P (f + 1) t ds) : ds.length = n /\ zfx P f ts ds := by
 simp only [zgc, hu] at h;obtain ⟨h1, h2⟩ := h;rw [hn] at h1;refine ⟨h1, ?_⟩;have := parts_of f fs.toList 0 ds (by rw [h1]; exact ht) h2;rw [hts] at this;simpa using this

theorem zmn {ts : List TypeId} (hc : P.cellsOf t = 1) (h : zfx P f (t :: ts) ds) (hl : 0 < ds.length) : ∃ d r, ds = d :: r /\ zgc P f t [d] /\ zfx P f ts r := by
 cases ds with
 | nil => simp at hl
 | cons d r =>
  simp only [zfx, hc] at h;exact ⟨d, r, rfl, by simpa using h.1, by simpa using h.2⟩

theorem rows_of {α : Type} {row : α -> List D} {rows : List (List D)} (h : ∀ r ∈ rows, ∃ a, r = row a) : ∃ l : List α, rows = l.map row := by
 induction rows with
 | nil => exact ⟨[], rfl⟩
 | cons r rs ih =>
  obtain ⟨a, rfl⟩ := h r List.mem_cons_self;obtain ⟨l, rfl⟩ := ih fun x hx => h x (List.mem_cons_of_mem _ hx);exact ⟨a :: l, rfl⟩
end
end Go.Abs

namespace Go.Abs
variable [Flag]
open Go.RowKit

theorem zq.of_cells {ro : Nat -> Prop} {w : World} {row : List D} {cur : Array Value} {m i : Nat} (hl : row.length = m) (hc : i * m + m <= cur.size)
  (h : ∀ (j : Nat) (d : D), row[j]? = some d -> ∃ u : Value, cur[i * m + j]? = some u /\ u.oneCell' = true /\ zr ro w d u) :
  ∃ vs : List Value, vs.length = m /\ zq ro w row vs /\ ∀ j v, vs[j]? = some v -> cur[i * m + j]? = some v /\ v.oneCell' = true := by
 refine ⟨(cur.toList.drop (i * m)).take m, by simp; omega, zq.of_get (by simp; omega) fun j d hj => ?_, fun j v hj => ?_⟩
 ·obtain ⟨u, h1, h2, h3⟩ := h j d hj;refine ⟨u, ?_, h3⟩;have hjm : j < m := by rw [<- hl]; exact (List.getElem?_eq_some_iff.1 hj).1
  rw [List.getElem?_take, if_pos hjm, List.getElem?_drop];simpa using h1
 ·have hjm : j < m := by
   rw [List.getElem?_take] at hj;split at hj
   ·assumption
   ·cases hj
  rw [List.getElem?_take, if_pos hjm, List.getElem?_drop] at hj;have hj' : cur[i * m + j]? = some v := by simpa using hj
  obtain ⟨d, hd⟩ : ∃ d, row[j]? = some d := ⟨row[j]'(by omega), List.getElem?_eq_getElem (by omega)⟩
  obtain ⟨u, h1, h2, h3⟩ := h j d hd;rw [hj'] at h1;cases h1;exact ⟨hj', h2⟩

theorem PC.data {P : Program} {f : FuncId} {ds : List D} {e : TypeId} {m : Nat} {rows : List (List D)} (h : PC P f ds (.o e m rows)) : PC P f ds (.p (.sl rows)) := by
 refine ⟨h.1, fun ro w vs hro hd => (h.2 ro w vs hro hd).mono fun ex w' ⟨v, he, hb, hr⟩ => ⟨v, he, hb, ?_⟩⟩;simp only [zdn, zr, OwnRes] at hr ⊢;obtain ⟨hm, hr⟩ := hr;rcases hr with ⟨rfl, a0, rfl⟩ | ⟨B, cap, cur, hB, rfl, hblk, hlen, hcap, hcs, hrows⟩
 ·exact ⟨a0, 0, rfl, Nat.le_refl _, by simp [maxLen], .inl rfl⟩
 ·have hlt : B < w'.heap.size := hblk.lt;refine ⟨some ⟨B, 0, none⟩, cap, rfl, hlen, hcap, .inr ⟨B, 0, m, rfl, .inr ⟨hB, hlt⟩, zau.of_get fun i r hi => ?_⟩⟩;obtain ⟨h1, h2⟩ := hrows i r hi;have hi' : i < rows.length := (List.getElem?_eq_some_iff.1 hi).1;obtain ⟨us, hu1, hu2, hu3⟩ := zq.of_cells (ro := fun b => ro b \/ w.heap.size <= b /\ b < w'.heap.size) (w := w') (cur := cur) (i := i) h1 (by
   rw [hcs, <- Nat.succ_mul]; exact Nat.mul_le_mul_right _ (by omega)) fun j d hj => by
    obtain ⟨u, q1, q2, q3⟩ := h2 j d hj;exact ⟨u, q1, q2, zr.mono (fun b hb => ⟨hb.imp id fun h => ⟨h.1, h.2.1⟩, rfl⟩) d u q3⟩
  refine ⟨us, hu1, hu2, fun j v hj => ?_⟩;obtain ⟨q1, q2⟩ := hu3 j v hj;refine ⟨?_, q2⟩;rw [hblk.cell, Nat.zero_add];exact q1

theorem PC.fresh {P : Program} {f : FuncId} {ds : List D} {d : D} (h : PC P f ds (.f d)) : PC P f ds (.p d) :=
 ⟨h.1, fun ro w vs hro hd => (h.2 ro w vs hro hd).mono fun ex w' ⟨v, he, hb, hr⟩ => ⟨v, he, hb, by
  simp only [zdn] at hr ⊢;exact zr.mono (fun b hb => ⟨.inr hb, rfl⟩) d v hr⟩⟩

theorem hasV_int {P : Program} {t : TypeId} {k : IntKind} {x : D} (hu : P.underlying t = some (.int k)) (h : hasV P t x) : ∃ n, x = .int k n /\ (Lit.int k n).wf = true := by
 simp only [hasV, hu] at h;obtain ⟨n, he, hw⟩ := zvi (f := 29) hu h;cases he;exact ⟨n, rfl, hw⟩

theorem awp_trunc {P : Program} {c : Code} {Q : Exit -> St -> Prop} {s : St} (id k : Nat) {o : Ob} (ho : s.obj id = some o) (hom : Nat.beq o.m mapM = false)
  (h : ∀ K : St -> Prop, (∀ s', AWp P c Q s' -> K s') -> K { s with hp := (id, some ⟨o.elem, o.m, o.rows.take k⟩) :: s.hp }) : AWp P c Q s := by
 refine zby (s' := { s with hp := (id, some ⟨o.elem, o.m, o.rows.take k⟩) :: s.hp }) (fun g a w hr => ⟨g, ⟨hr.defers, hr.size, hr.tmp, hr.used, ⟨fun x o' hx => ?_, fun x hx => ?_, hr.heap.live, hr.heap.inj, hr.heap.ro⟩⟩, zan.refl g w⟩) (h _ fun _ hk => hk)
 ·simp only [St.obj, find] at hx;split at hx
  ·rename_i e;subst e;cases hx;obtain ⟨L, hL, hok⟩ := hr.heap.own id o ho;refine ⟨L, hL, hok.m, hok.pos, fun hmp => Nat.le_trans (by simp; omega) (hok.len hmp), fun hv => by simp [hok.virt hv], fun hv => ?_, fun hv => by have := (hok.ents hv).1; rw [<- hok.m, this] at hom; cases hom⟩;obtain ⟨cur, c1, c2, c3, c5⟩ := hok.cells hv;refine ⟨cur, c1, c2, c3, fun i row hi => ?_⟩;simp only [List.getElem?_take] at hi;split at hi
   ·exact c5 i row hi
   ·cases hi
  ·exact hr.heap.own x o' hx
 ·simp only [St.obj, find] at hx;split at hx
  ·cases hx
  ·exact hr.heap.gone x hx

theorem rnR_dr (σ : List (Nat × Nat)) (l : List (List D)) : rnR σ (dr l) = some (dr l) := rnR_dr' σ l
theorem dnR_dr (τ : List (Nat × Nat)) (l : List (List D)) : dnR τ (dr l) = dr l := dnR_dr' τ l
theorem dnR_app (τ : List (Nat × Nat)) (b : List (List AV)) : ∀ a : List (List AV), dnR τ (a ++ b) = dnR τ a ++ dnR τ b
 | [] => rfl
 | x :: l => by simp only [List.cons_append, dnR, dnR_app τ b l]
theorem rnR_app (σ : List (Nat × Nat)) (b : List (List AV)) : ∀ a : List (List D), rnR σ (dr a ++ b) = (rnR σ b).map (dr a ++ ·)
 | [] => by show rnR σ b = _; cases rnR σ b <;> rfl
 | x :: l => by
  show rnR σ (x.map AV.d :: (dr l ++ b)) = _
  simp only [rnR, rnL_map, rnR_app σ b l];cases rnR σ b <;> rfl

theorem nbf (a b : Nat) : (Nat.beq a b = false) = ¬ a = b := by
 cases h : Nat.beq a b
 ·simp; exact Nat.ne_of_beq_eq_false h
 ·simp; exact Nat.eq_of_beq_eq_true h

def Fin (Q : Exit -> St -> Prop) (e : Exit) (s : St) : Prop := ∃ s', zeh s s' /\ Q e s'
structure Hid (X : Prop) : Prop where
 h : X
theorem cut_ {X G : Prop} (h : Hid X -> G) (hx : X) : G := h ⟨hx⟩

theorem wrap_0 : IntKind.i64.wrap 0 = 0 := by decide
theorem wrap_1 : IntKind.i64.wrap 1 = 1 := by decide
theorem wrap_2 : IntKind.i64.wrap 2 = 2 := by decide
theorem wrap_n1 : IntKind.i64.wrap (-1) = -1 := by decide

end Go.Abs
