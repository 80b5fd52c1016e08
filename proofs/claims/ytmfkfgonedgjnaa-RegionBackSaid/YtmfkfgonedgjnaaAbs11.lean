/-
  The abstract machine, part 11: a table of types checked by the kernel; small laws for the walk.
-/
import Derived.Test.YtmfkfgonedgjnaaAbs10
set_option linter.unusedVariables false
set_option linter.unusedSimpArgs false
namespace Go.Abs

def avEq : AV → AV → Bool
  | .any, .any => true
  | .nl, .nl => true
  | .d (.bool a), .d (.bool b) => a == b
  | .d (.int k a), .d (.int k' b) => decide (k = k') && decide (a = b)
  | .d (.str a), .d (.str b) => decide (a.data = b.data)
  | _, _ => false

theorem avEq_sound {a b : AV} (h : avEq a b = true) : a = b := by
  unfold avEq at h
  split at h <;> simp at h ⊢
  · exact h
  · exact h
  · rename_i a b
    cases a; cases b; simpa using h

def avsEq : List AV → List AV → Bool
  | [], [] => true
  | a :: as, b :: bs => avEq a b && avsEq as bs
  | _, _ => false

theorem avsEq_sound : ∀ {a b : List AV}, avsEq a b = true → a = b
  | [], [], _ => rfl
  | a :: as, b :: bs, h => by
    simp only [avsEq, Bool.and_eq_true] at h
    rw [avEq_sound h.1, avsEq_sound h.2]
  | [], _ :: _, h => by simp [avsEq] at h
  | _ :: _, [], h => by simp [avsEq] at h

def kindB (P : Program) (t : TypeId) : TK → Bool
  | .slice e => match P.underlying t with | some (.slice e') => e == e' | _ => false
  | .struct l => match P.underlying t with
    | some (.struct fs) => decide (fs.toList.map (fun f => (f.offset, P.cellsOf f.type, (P.underlying f.type).any descAgg)) = l) && fs.toList.all (fun f => (P.underlying f.type).isSome && decide (P.cellsOf f.type ≠ 0))
    | _ => false
  | .arr n e => match P.underlying t with | some (.array n' e') => n == n' && e == e' | _ => false
  | .int k => match P.underlying t with | some (.int k') => decide (k = k') | _ => false
  | .bool => match P.underlying t with | some .bool => true | _ => false
  | .str => match P.underlying t with | some .string => true | _ => false
  | .one => (P.underlying t).any fun d => !descAgg d

def tokB (P : Program) (t : TypeId) (ti : TI) : Bool :=
  (match P.info? t with
   | some i => i.size == ti.size && i.bytes == ti.bytes && (match i.zero with
     | some z => avsEq (z.cells.toList.map zav) ti.zero && z.cells.size == ti.size && z.cells.toList.all Value.oneCell'
     | none => false)
   | none => false) && kindB P t ti.kind &&
  (ti.eqs == 0 || (P.stoodInHeld t == false && P.eqGuardType P.depth t == false && (match P.underlying t with
    | some (.struct fs) => fs.toList.zipIdx.all (fun x => decide (x.1.offset = x.2) && decide (x.1.name ≠ "_") && eqKind P x.1.type ti.eqs) && fs.toList.length == ti.size
    | _ => false)))

theorem tok_sound {P : Program} {t : TypeId} {ti : TI} (h : tokB P t ti = true) : TOk P t ti := by
  simp only [tokB, Bool.and_eq_true] at h
  obtain ⟨⟨h1, h2⟩, h3⟩ := h
  refine ⟨?_, ?_, fun he => ?_⟩
  · cases hi : P.info? t with
    | none => rw [hi] at h1; cases h1
    | some i =>
      rw [hi] at h1
      simp only [Bool.and_eq_true, beq_iff_eq] at h1
      obtain ⟨⟨k1, k2⟩, k3⟩ := h1
      cases hz : i.zero with
      | none => rw [hz] at k3; cases k3
      | some z =>
        rw [hz] at k3
        simp only [Bool.and_eq_true, beq_iff_eq] at k3
        exact ⟨i, z, rfl, k1, k2, hz, avsEq_sound k3.1.1, k3.1.2, k3.2⟩
  · unfold kindB at h2
    cases hk : ti.kind <;> rw [hk] at h2 <;> simp only at h2 ⊢
    case slice e =>
      split at h2
      · rename_i e' he; rw [he]; simp at h2; rw [h2]
      · cases h2
    case struct l =>
      split at h2
      · rename_i fs he
        simp only [Bool.and_eq_true, decide_eq_true_eq] at h2
        exact ⟨fs, he, h2.1, h2.2⟩
      · cases h2
    case arr n e =>
      split at h2
      · rename_i n' e' he; rw [he]; simp at h2; rw [h2.1, h2.2]
      · cases h2
    case int k =>
      split at h2
      · rename_i k' he; rw [he]; simp at h2; rw [h2]
      · cases h2
    case bool =>
      split at h2
      · rename_i he; exact he
      · cases h2
    case str =>
      split at h2
      · rename_i he; exact he
      · cases h2
    case one => exact h2
  · have he' : (ti.eqs == 0) = false := by simpa using he
    simp only [he', Bool.false_or, Bool.and_eq_true, beq_iff_eq] at h3
    obtain ⟨⟨k1, k2⟩, k3⟩ := h3
    split at k3
    · rename_i fs hf
      simp only [Bool.and_eq_true, beq_iff_eq] at k3
      exact ⟨k1, k2, fs, hf, k3.1, k3.2⟩
    · cases k3

theorem find_mem {α : Type} : ∀ {l : List (Nat × α)} {t : Nat} {v : α}, find l t = some v → (t, v) ∈ l
  | [], t, v, h => by simp [find] at h
  | (k, x) :: r, t, v, h => by
    simp only [find] at h
    split at h
    · rename_i e; subst e; cases h; exact List.mem_cons_self
    · exact List.mem_cons_of_mem _ (find_mem h)

theorem ctx_of_table {P : Program} (tab : List (Nat × TI)) (h : tab.all (fun x => tokB P x.1 x.2) = true) : Ctx P (find tab) :=
  ⟨fun t ti ht => tok_sound (List.all_eq_true.1 h _ (find_mem ht))⟩

end Go.Abs
