/-
  The abstract machine, part 18: rows that nobody will look at are forgotten; recursion.
-/
import Derived.Test.YtmfkfgonedgjnaaAbs17
set_option linter.unusedVariables false
set_option linter.unusedSimpArgs false
namespace Go.Abs
open Go.RowKit

/-- An object of which only the first k rows are known any more. -/
theorem awp_trunc {P : Program} {c : Code} {Q : Exit → St → Prop} {s : St} (id k : Nat) {o : Ob} (ho : s.obj id = some o)
    (h : ∀ K : St → Prop, (∀ s', AWp P c Q s' → K s') → K { s with hp := (id, some ⟨o.elem, o.m, o.rows.take k⟩) :: s.hp }) : AWp P c Q s := by
  refine awp_weak (s' := { s with hp := (id, some ⟨o.elem, o.m, o.rows.take k⟩) :: s.hp }) (fun g a w hr => ⟨g, ⟨hr.defers, hr.size, hr.tmp, hr.used, ⟨fun x o' hx => ?_, fun x hx => ?_, hr.heap.live, hr.heap.inj, hr.heap.ro⟩⟩, Step.refl g w⟩) (h _ fun _ hk => hk)
  · simp only [St.obj, find] at hx
    split at hx
    · rename_i e
      subst e
      cases hx
      obtain ⟨L, hL, hok⟩ := hr.heap.own id o ho
      refine ⟨L, hL, hok.m, hok.pos, Nat.le_trans (by simp; omega) hok.len, fun hv => by simp [hok.virt hv], fun hv => ?_⟩
      obtain ⟨cur, c1, c2, c3, c5⟩ := hok.cells hv
      refine ⟨cur, c1, c2, c3, fun i row hi => ?_⟩
      simp only [List.getElem?_take] at hi
      split at hi
      · exact c5 i row hi
      · cases hi
    · exact hr.heap.own x o' hx
  · simp only [St.obj, find] at hx
    split at hx
    · cases hx
    · exact hr.heap.gone x hx

/-- A nil slice is an empty one. -/
def den : AV → AV
  | .nl => .d (.sl [])
  | x => x
theorem den_rep {g : G} {w : World} {x : AV} {v : Value} (h : RepA g w x v) : RepA g w (den x) v := by
  cases x <;> simp only [den] <;> try exact h
  simp only [RepA] at h ⊢
  subst h
  exact repD_nil

theorem awp_den {P : Program} {c : Code} {Q : Exit → St → Prop} {s : St} (id : Nat) {o : Ob} (ho : s.obj id = some o)
    (h : ∀ K : St → Prop, (∀ s', AWp P c Q s' → K s') → K { s with hp := (id, some ⟨o.elem, o.m, o.rows.map (fun r => r.map den)⟩) :: s.hp }) : AWp P c Q s := by
  refine awp_weak (s' := { s with hp := (id, some ⟨o.elem, o.m, o.rows.map (fun r => r.map den)⟩) :: s.hp }) (fun g a w hr => ⟨g, ⟨hr.defers, hr.size, hr.tmp, hr.used, ⟨fun x o' hx => ?_, fun x hx => ?_, hr.heap.live, hr.heap.inj, hr.heap.ro⟩⟩, Step.refl g w⟩) (h _ fun _ hk => hk)
  · simp only [St.obj, find] at hx
    split at hx
    · rename_i e
      subst e
      cases hx
      obtain ⟨L, hL, hok⟩ := hr.heap.own id o ho
      refine ⟨L, hL, hok.m, hok.pos, by simpa using hok.len, fun hv => by simp [hok.virt hv], fun hv => ?_⟩
      obtain ⟨cur, c1, c2, c3, c5⟩ := hok.cells hv
      refine ⟨cur, c1, c2, c3, fun i row hi => ?_⟩
      simp only [List.getElem?_map, Option.map_eq_some_iff] at hi
      obtain ⟨r0, hr0, rfl⟩ := hi
      obtain ⟨d1, d2⟩ := c5 i r0 hr0
      refine ⟨by simpa using d1, fun j av hj => ?_⟩
      simp only [List.getElem?_map, Option.map_eq_some_iff] at hj
      obtain ⟨a0, ha0, rfl⟩ := hj
      obtain ⟨v, q1, q2, q3⟩ := d2 j a0 ha0
      exact ⟨v, q1, q2, den_rep q3⟩
    · exact hr.heap.own x o' hx
  · simp only [St.obj, find] at hx
    split at hx
    · cases hx
    · exact hr.heap.gone x hx

theorem rnR_dr (σ : List (Nat × Nat)) (l : List (List D)) : rnR σ (dr l) = some (dr l) := rnR_dr' σ l
theorem dnR_dr (τ : List (Nat × Nat)) (l : List (List D)) : dnR τ (dr l) = dr l := dnR_dr' τ l
theorem dnR_app (τ : List (Nat × Nat)) (b : List (List AV)) : ∀ a : List (List AV), dnR τ (a ++ b) = dnR τ a ++ dnR τ b
  | [] => rfl
  | x :: l => by simp only [List.cons_append, dnR, dnR_app τ b l]
theorem rnR_app (σ : List (Nat × Nat)) (b : List (List AV)) : ∀ a : List (List D), rnR σ (dr a ++ b) = (rnR σ b).map (dr a ++ ·)
  | [] => by show rnR σ b = _; cases rnR σ b <;> rfl
  | x :: l => by
    show rnR σ (x.map AV.d :: (dr l ++ b)) = _
    simp only [rnR, rnL_map, rnR_app σ b l]
    cases rnR σ b <;> rfl

theorem nbf (a b : Nat) : (Nat.beq a b = false) = ¬ a = b := by
  cases h : Nat.beq a b
  · simp; exact Nat.ne_of_beq_eq_false h
  · simp; exact Nat.eq_of_beq_eq_true h

/-- The end, seen as another state. -/
def Fin (Q : Exit → St → Prop) (e : Exit) (s : St) : Prop := ∃ s', Weak s s' ∧ Q e s'
theorem awp_fin {P : Program} {c : Code} {Q : Exit → St → Prop} {s : St} (h : AWp P c (Fin Q) s) : AWp P c Q s := by
  intro g a w hr
  refine wp_mono (h g a w hr) fun e a' w' ⟨s2, g2, h1, h2, s3, hw, hq⟩ => ?_
  obtain ⟨g3, h4, h5⟩ := hw g2 a' w' h1
  exact ⟨s3, g3, h4, h2.trans h5, hq⟩
theorem fin_id {Q : Exit → St → Prop} {e : Exit} {s : St} (h : Q e s) : Fin Q e s := ⟨s, Weak.refl s, h⟩
theorem fin_freeze {Q : Exit → St → Prop} {e : Exit} {s : St} (id : Nat) {o : Ob} (rs : List (List D)) (ho : s.obj id = some o) (hrs : rowsD o.rows = some rs) (h : ∀ K : St → Prop, (∀ s', Q e s' → K s') → K (s.fz id rs)) : Fin Q e s := ⟨_, weak_freeze id rs ho hrs, h _ fun _ hk => hk⟩

/-- What two branches reach alike is shown once. -/
structure Hid (X : Prop) : Prop where
  h : X
theorem cut_ {X G : Prop} (h : Hid X → G) (hx : X) : G := h ⟨hx⟩

theorem upR_rep (σ : List (Nat × Option Nat)) (b : Bool) : ∀ n : Nat, upR σ (List.replicate n [AV.d (.bool b)]) = some (List.replicate n [AV.d (.bool b)])
  | 0 => rfl
  | n + 1 => by simp [List.replicate_succ, upR, upL, up, upR_rep σ b n]
theorem rnR_rep (σ : List (Nat × Nat)) (b : Bool) : ∀ n : Nat, rnR σ (List.replicate n [AV.d (.bool b)]) = some (List.replicate n [AV.d (.bool b)])
  | 0 => rfl
  | n + 1 => by simp [List.replicate_succ, rnR, rnL, rn, rnR_rep σ b n]
theorem dnR_rep (σ : List (Nat × Nat)) (b : Bool) : ∀ n : Nat, dnR σ (List.replicate n [AV.d (.bool b)]) = List.replicate n [AV.d (.bool b)]
  | 0 => rfl
  | n + 1 => by simp [List.replicate_succ, dnR, dnL, dn, dnR_rep σ b n]

theorem wrap_0 : IntKind.i64.wrap 0 = 0 := by decide
theorem wrap_1 : IntKind.i64.wrap 1 = 1 := by decide
theorem wrap_2 : IntKind.i64.wrap 2 = 2 := by decide
theorem wrap_n1 : IntKind.i64.wrap (-1) = -1 := by decide

/-- A contract by induction on a number: the callee's contract may be asked for smaller numbers. -/
theorem PC.weaken {P : Program} {f : FuncId} {ds : List D} {r r' : Res} (h : PC P f ds r) (e : r = r') : PC P f ds r' := e ▸ h

end Go.Abs
