/-
  The abstract machine, part 4a: contracts of functions that turn the objects that they are handed.
-/
import Derived.Test.YtmfkfgonedgjnaaAbs4
set_option linter.unusedVariables false
set_option linter.unusedSimpArgs false
namespace Go.Abs
open Go.RowKit

def find {α : Type} : List (Nat × α) → Nat → Option α
  | [], _ => none
  | (k, v) :: r, t => if k = t then some v else find r t

theorem find_cons {α : Type} (k : Nat) (v : α) (r : List (Nat × α)) (t : Nat) : find ((k, v) :: r) t = if k = t then some v else find r t := rfl

theorem find_key {α : Type} : ∀ {l : List (Nat × α)} {t : Nat} {v : α}, find l t = some v → t ∈ l.map (·.1)
  | (k, x) :: r, t, v, h => by
    simp only [find] at h
    split at h
    · rename_i e; simp [e]
    · exact List.mem_cons_of_mem _ (find_key h)

theorem find_some_of_key {α : Type} : ∀ {l : List (Nat × α)} {t : Nat}, t ∈ l.map (·.1) → ∃ v, find l t = some v
  | (k, x) :: r, t, h => by
    simp only [find]
    by_cases e : k = t
    · exact ⟨x, by rw [if_pos e]⟩
    · rw [if_neg e]
      refine find_some_of_key ?_
      rcases List.mem_cons.1 h with h | h
      · exact absurd h.symm e
      · exact h

theorem find_val {l : List (Nat × Nat)} {t v : Nat} (h : find l t = some v) : v ∈ l.map (·.2) := by
  induction l with
  | nil => simp [find] at h
  | cons p r ih =>
    obtain ⟨k, x⟩ := p
    simp only [find] at h
    split at h
    · cases h; simp
    · exact List.mem_cons_of_mem _ (ih h)

theorem find_inj2 : ∀ {l : List (Nat × Nat)} {a b v : Nat}, (l.map (·.2)).Nodup → find l a = some v → find l b = some v → a = b
  | (k, x) :: r, a, b, v, hn, h1, h2 => by
    simp only [List.map_cons, List.nodup_cons] at hn
    simp only [find] at h1 h2
    split at h1 <;> split at h2
    · omega
    · cases h1; exact absurd (find_val h2) hn.1
    · cases h2; exact absurd (find_val h1) hn.1
    · exact find_inj2 hn.2 h1 h2

def swp : List (Nat × Nat) → List (Nat × Nat)
  | [] => []
  | (a, b) :: r => (b, a) :: swp r

theorem swp_find : ∀ {l : List (Nat × Nat)} {a b : Nat}, (l.map (·.1)).Nodup → (l.map (·.2)).Nodup → find (swp l) b = some a → find l a = some b
  | (k, x) :: r, a, b, h1, h2, h => by
    simp only [List.map_cons, List.nodup_cons] at h1 h2
    simp only [swp, find] at h ⊢
    split at h
    · rename_i e; cases h; rw [if_pos rfl, e]
    · have hr := swp_find h1.2 h2.2 h
      rw [if_neg (fun e : k = a => h1.1 (by rw [e]; exact find_key hr))]
      exact hr

def objL (hp : List (Nat × Ob)) (id : Nat) : Option Ob := find hp id

/-! ### Other names for objects -/
mutual
def rn (σ : List (Nat × Nat)) : AV → Option AV
  | .any => none
  | .nl => some .nl
  | .d x => some (.d x)
  | .hs id off len => (find σ id).map fun x => .hs x off len
  | .ptr id i j => (find σ id).map fun x => .ptr x i j
  | .agg l => (rnL σ l).map .agg
  | .clo f l => (rnL σ l).map (.clo f)
  | .tup l => (rnL σ l).map .tup
  | .opt _ _ => none
  | .ub _ _ => none
  | .pin _ _ => none
def rnL (σ : List (Nat × Nat)) : List AV → Option (List AV)
  | [] => some []
  | a :: as => match rn σ a, rnL σ as with | some x, some y => some (x :: y) | _, _ => none
end
def rnR (σ : List (Nat × Nat)) : List (List AV) → Option (List (List AV))
  | [] => some []
  | a :: as => match rnL σ a, rnR σ as with | some x, some y => some (x :: y) | _, _ => none

mutual
def dn (τ : List (Nat × Nat)) : AV → AV
  | .any => .any
  | .nl => .nl
  | .d x => .d x
  | .hs id off len => match find τ id with | some x => .hs x off len | none => .any
  | .ptr id i j => match find τ id with | some x => .ptr x i j | none => .any
  | .agg l => .agg (dnL τ l)
  | .clo f l => .clo f (dnL τ l)
  | .tup l => .tup (dnL τ l)
  | .opt b x => .opt b (dn τ x)
  | .ub p q => .ub p q
  | .pin _ _ => .any
def dnL (τ : List (Nat × Nat)) : List AV → List AV
  | [] => []
  | a :: as => dn τ a :: dnL τ as
end
def dnR (τ : List (Nat × Nat)) : List (List AV) → List (List AV)
  | [] => []
  | a :: as => dnL τ a :: dnR τ as

theorem rnL_map (σ : List (Nat × Nat)) : ∀ l : List D, rnL σ (l.map AV.d) = some (l.map AV.d)
  | [] => rfl
  | x :: l => by simp [rnL, rn, rnL_map σ l]
theorem dnL_map (τ : List (Nat × Nat)) : ∀ l : List D, dnL τ (l.map AV.d) = l.map AV.d
  | [] => rfl
  | x :: l => by simp [dnL, dn, dnL_map τ l]
theorem dnL_length (τ : List (Nat × Nat)) : ∀ l : List AV, (dnL τ l).length = l.length
  | [] => rfl
  | a :: l => by simp only [dnL, List.length_cons, dnL_length τ l]
theorem dnR_length (τ : List (Nat × Nat)) : ∀ l : List (List AV), (dnR τ l).length = l.length
  | [] => rfl
  | a :: l => by simp only [dnR, List.length_cons, dnR_length τ l]
theorem dnL_get (τ : List (Nat × Nat)) : ∀ (l : List AV) (i : Nat) (r : AV), (dnL τ l)[i]? = some r → ∃ r0, l[i]? = some r0 ∧ r = dn τ r0
  | [], i, r, h => by simp [dnL] at h
  | a :: l, 0, r, h => by simp [dnL] at h; exact ⟨a, by simp, h.symm⟩
  | a :: l, i + 1, r, h => by simp [dnL] at h; obtain ⟨r0, h1, h2⟩ := dnL_get τ l i r h; exact ⟨r0, by simpa using h1, h2⟩
theorem dnR_get (τ : List (Nat × Nat)) : ∀ (l : List (List AV)) (i : Nat) (r : List AV), (dnR τ l)[i]? = some r → ∃ r0, l[i]? = some r0 ∧ r = dnL τ r0
  | [], i, r, h => by simp [dnR] at h
  | a :: l, 0, r, h => by simp [dnR] at h; exact ⟨a, by simp, h.symm⟩
  | a :: l, i + 1, r, h => by simp [dnR] at h; obtain ⟨r0, h1, h2⟩ := dnR_get τ l i r h; exact ⟨r0, by simpa using h1, h2⟩
theorem rnL_get {σ : List (Nat × Nat)} : ∀ {x y : List AV}, rnL σ x = some y → x.length = y.length ∧ ∀ (i : Nat) (r : AV), x[i]? = some r → ∃ r', y[i]? = some r' ∧ rn σ r = some r'
  | [], y, h => by simp [rnL] at h; subst h; exact ⟨rfl, fun i r hi => by simp at hi⟩
  | a :: as, y, h => by
    simp only [rnL] at h
    cases h1 : rn σ a with
    | none => rw [h1] at h; cases h
    | some b =>
      cases h2 : rnL σ as with
      | none => rw [h1, h2] at h; cases h
      | some bs =>
        rw [h1, h2] at h
        cases h
        obtain ⟨k1, k2⟩ := rnL_get h2
        refine ⟨by simp [k1], fun i r hi => ?_⟩
        cases i with
        | zero => simp at hi; subst hi; exact ⟨b, by simp, h1⟩
        | succ i => simp at hi; obtain ⟨r', hr', hu⟩ := k2 i r hi; exact ⟨r', by simpa using hr', hu⟩
theorem rnR_get {σ : List (Nat × Nat)} : ∀ {x y : List (List AV)}, rnR σ x = some y → x.length = y.length ∧ ∀ (i : Nat) (r : List AV), x[i]? = some r → ∃ r', y[i]? = some r' ∧ rnL σ r = some r'
  | [], y, h => by simp [rnR] at h; subst h; exact ⟨rfl, fun i r hi => by simp at hi⟩
  | a :: as, y, h => by
    simp only [rnR] at h
    cases h1 : rnL σ a with
    | none => rw [h1] at h; cases h
    | some b =>
      cases h2 : rnR σ as with
      | none => rw [h1, h2] at h; cases h
      | some bs =>
        rw [h1, h2] at h
        cases h
        obtain ⟨k1, k2⟩ := rnR_get h2
        refine ⟨by simp [k1], fun i r hi => ?_⟩
        cases i with
        | zero => simp at hi; subst hi; exact ⟨b, by simp, h1⟩
        | succ i => simp at hi; obtain ⟨r', hr', hu⟩ := k2 i r hi; exact ⟨r', by simpa using hr', hu⟩

/-- Data stays data under other names. -/
theorem rnR_dr' (σ : List (Nat × Nat)) : ∀ l : List (List D), rnR σ (l.map fun r => r.map AV.d) = some (l.map fun r => r.map AV.d)
  | [] => rfl
  | x :: l => by simp only [List.map_cons, rnR, rnL_map, rnR_dr' σ l]
theorem dnR_dr' (τ : List (Nat × Nat)) : ∀ l : List (List D), dnR τ (l.map fun r => r.map AV.d) = l.map fun r => r.map AV.d
  | [] => rfl
  | x :: l => by simp only [List.map_cons, dnR, dnL_map, dnR_dr' τ l]

section
variable {w : World} {g g' : G} {σ : List (Nat × Nat)}
mutual
/-- g' knows as id what g knows as σ id. -/
theorem rn_rep (hu : ∀ i x, find σ i = some x → g'.used i) (hl : ∀ i x, find σ i = some x → g'.loc i = g.loc x) (hro : ∀ b, g.ro b → g'.ro b) : ∀ (x y : AV) (v : Value), rn σ x = some y → RepA g w y v → RepA g' w x v
  | .any, y, v, hx, _ => by simp [rn] at hx
  | .opt _ _, y, v, hx, _ => by simp [rn] at hx
  | .ub _ _, y, v, hx, _ => by simp [rn] at hx
  | .pin _ _, y, v, hx, _ => by simp [rn] at hx
  | .nl, y, v, hx, h => by simp [rn] at hx; subst hx; simpa [RepA] using h
  | .d x, y, v, hx, h => by simp [rn] at hx; subst hx; simp only [RepA] at h ⊢; exact RepD.mono (fun b hb => ⟨hro b hb, rfl⟩) _ _ h
  | .hs id off len, y, v, hx, h => by
    simp only [rn, Option.map_eq_some_iff] at hx
    obtain ⟨z, hz, rfl⟩ := hx
    simp only [RepA] at h ⊢
    exact ⟨⟨hu id z hz, h.1.2⟩, fun L hL => h.2 L (by rw [← hl id z hz]; exact hL)⟩
  | .ptr id i j, y, v, hx, h => by
    simp only [rn, Option.map_eq_some_iff] at hx
    obtain ⟨z, hz, rfl⟩ := hx
    simp only [RepA] at h ⊢
    exact ⟨⟨hu id z hz, h.1.2⟩, fun L hL => h.2 L (by rw [← hl id z hz]; exact hL)⟩
  | .agg l, y, v, hx, h => by
    simp only [rn, Option.map_eq_some_iff] at hx
    obtain ⟨l', hl', rfl⟩ := hx
    simp only [RepA] at h ⊢
    obtain ⟨vs, hv, ho, hr⟩ := h
    exact ⟨vs, hv, ho, rnL_rep hu hl hro l l' vs hl' hr⟩
  | .clo f l, y, v, hx, h => by
    simp only [rn, Option.map_eq_some_iff] at hx
    obtain ⟨l', hl', rfl⟩ := hx
    simp only [RepA] at h ⊢
    obtain ⟨vs, hv, hr⟩ := h
    exact ⟨vs, hv, rnL_rep hu hl hro l l' vs hl' hr⟩
  | .tup l, y, v, hx, h => by
    simp only [rn, Option.map_eq_some_iff] at hx
    obtain ⟨l', hl', rfl⟩ := hx
    simp only [RepA] at h ⊢
    obtain ⟨vs, hv, hr⟩ := h
    exact ⟨vs, hv, rnL_rep hu hl hro l l' vs hl' hr⟩
theorem rnL_rep (hu : ∀ i x, find σ i = some x → g'.used i) (hl : ∀ i x, find σ i = some x → g'.loc i = g.loc x) (hro : ∀ b, g.ro b → g'.ro b) : ∀ (x y : List AV) (v : List Value), rnL σ x = some y → RepAs g w y v → RepAs g' w x v
  | [], y, v, hx, h => by simp [rnL] at hx; subst hx; simpa [RepAs] using h
  | a :: as, y, v, hx, h => by
    simp only [rnL] at hx
    cases h1 : rn σ a with
    | none => rw [h1] at hx; cases hx
    | some b =>
      cases h2 : rnL σ as with
      | none => rw [h1, h2] at hx; cases hx
      | some bs =>
        rw [h1, h2] at hx
        cases hx
        simp only [RepAs] at h ⊢
        obtain ⟨u, us, rfl, k1, k2⟩ := h
        exact ⟨u, us, rfl, rn_rep hu hl hro a b u h1 k1, rnL_rep hu hl hro as bs us h2 k2⟩
end
mutual
/-- g' knows as τ id what g knows as id. -/
theorem dn_rep {τ : List (Nat × Nat)} (hu : ∀ i x, find τ i = some x → g'.used x) (hl : ∀ i x, find τ i = some x → g'.loc x = g.loc i) (hro : ∀ b, g.ro b → g'.ro b) : ∀ (x : AV) (v : Value), RepA g w x v → RepA g' w (dn τ x) v
  | .any, v, h => by simp [dn, RepA]
  | .nl, v, h => by simpa [dn, RepA] using h
  | .d x, v, h => by simp only [dn, RepA] at h ⊢; exact RepD.mono (fun b hb => ⟨hro b hb, rfl⟩) _ _ h
  | .ub p q, v, h => by simpa only [dn, RepA] using h
  | .pin _ _, v, h => by simp [dn, RepA]
  | .hs id off len, v, h => by
    simp only [dn]
    split
    · rename_i x hx
      simp only [RepA] at h ⊢
      exact ⟨⟨hu id x hx, h.1.2⟩, fun L hL => h.2 L (by rw [← hl id x hx]; exact hL)⟩
    · simp [RepA]
  | .ptr id i j, v, h => by
    simp only [dn]
    split
    · rename_i x hx
      simp only [RepA] at h ⊢
      exact ⟨⟨hu id x hx, h.1.2⟩, fun L hL => h.2 L (by rw [← hl id x hx]; exact hL)⟩
    · simp [RepA]
  | .agg l, v, h => by
    simp only [dn, RepA] at h ⊢
    obtain ⟨vs, hv, ho, hr⟩ := h
    exact ⟨vs, hv, ho, dnL_rep hu hl hro l vs hr⟩
  | .clo f l, v, h => by
    simp only [dn, RepA] at h ⊢
    obtain ⟨vs, hv, hr⟩ := h
    exact ⟨vs, hv, dnL_rep hu hl hro l vs hr⟩
  | .tup l, v, h => by
    simp only [dn, RepA] at h ⊢
    obtain ⟨vs, hv, hr⟩ := h
    exact ⟨vs, hv, dnL_rep hu hl hro l vs hr⟩
  | .opt b x, v, h => by
    simp only [dn, RepA] at h ⊢
    exact ⟨fun hb => dn_rep hu hl hro x v (h.1 hb), h.2⟩
theorem dnL_rep {τ : List (Nat × Nat)} (hu : ∀ i x, find τ i = some x → g'.used x) (hl : ∀ i x, find τ i = some x → g'.loc x = g.loc i) (hro : ∀ b, g.ro b → g'.ro b) : ∀ (x : List AV) (v : List Value), RepAs g w x v → RepAs g' w (dnL τ x) v
  | [], v, h => by simpa [dnL, RepAs] using h
  | a :: as, v, h => by
    simp only [dnL, RepAs] at h ⊢
    obtain ⟨u, us, rfl, k1, k2⟩ := h
    exact ⟨u, us, rfl, dn_rep hu hl hro a u k1, dnL_rep hu hl hro as us k2⟩
end
end

/-! ### The contract -/
def Enters (P : Program) (f : FuncId) : Prop := ∃ fn, P.funcs[f]? = some fn ∧ (fn.name == "runtime.NumGoroutine") = false ∧ fn.body.isNone = false

/-- THE CONTRACT of a function that turns what it is handed: 'as' its arguments, 'hp' the objects that it is handed (by names of its own); 'hp'' what they are behind it, r its result. An object i of 'pin' (i, j) is j behind it, in its place. Nothing else has turned. -/
def PX (P : Program) (f : FuncId) (as : List AV) (hp : List (Nat × Ob)) (pin : List (Nat × Nat)) (hp' : List (Nat × Ob)) (r : AV) : Prop :=
  Enters P f ∧ ∀ (g : G) (w : World) (vs : List Value), HRel g (objL hp) w → (∀ id, g.used id → (find hp id).isSome = true) → RepAs g w as vs →
    Calls P f vs.toArray w fun e w' => ∃ v g', e = .returned v ∧ HRel g' (objL hp') w' ∧ RepA g' w' r v ∧ Step g w g' w' ∧ ∀ i j, (i, j) ∈ pin → g'.loc j = g.loc i

/-- A call: 'σ' the caller's names for the objects that are handed over; 'fr' an object behind the call that gets a new name. -/
structure XC where
  σ : List (Nat × Nat)
  as : List AV
  hp : List (Nat × Ob)
  pin : List (Nat × Nat)
  fr : Option Nat
  hp' : List (Nat × Ob)
  r : AV

/-- The caller's names for what is known behind the call. -/
def pinT (σ : List (Nat × Nat)) : List (Nat × Nat) → List (Nat × Nat)
  | [] => []
  | (i, j) :: r => match find σ i with | some x => (x, j) :: pinT σ r | none => pinT σ r
def frT (nid : Nat) : Option Nat → List (Nat × Nat)
  | some j => [(nid, j)]
  | none => []
def XC.ti (c : XC) (nid : Nat) : List (Nat × Nat) := frT nid c.fr ++ pinT c.σ c.pin

def gone : List (Nat × Nat) → List (Nat × Option Ob)
  | [] => []
  | (_, x) :: r => (x, none) :: gone r
def back (τ : List (Nat × Nat)) (hp' : List (Nat × Ob)) : List (Nat × Nat) → List (Nat × Option Ob)
  | [] => []
  | (x, j) :: r => (x, (find hp' j).map fun o => ⟨o.elem, o.m, dnR τ o.rows⟩) :: back τ hp' r

/-- What is handed over is what the contract asks for. -/
def rnsOk (σ : List (Nat × Nat)) : List AV → List AV → Prop
  | [], [] => True
  | .any :: as, _ :: bs => rnsOk σ as bs
  | a :: as, b :: bs => rn σ a = some b ∧ rnsOk σ as bs
  | _, _ => False
def hpOk (obj : Nat → Option Ob) (σ : List (Nat × Nat)) : List (Nat × Ob) → Prop
  | [] => True
  | (i, o) :: r => (match find σ i with | some x => (match obj x with | some o' => o'.elem = o.elem ∧ o'.m = o.m ∧ rnR σ o.rows = some o'.rows | none => False) | none => False) ∧ hpOk obj σ r
def nodupB : List Nat → Bool
  | [] => true
  | a :: r => r.all (fun b => !Nat.beq a b) && nodupB r
theorem nodup_of : ∀ {l : List Nat}, nodupB l = true → l.Nodup
  | [], _ => List.nodup_nil
  | a :: r, h => by
    simp only [nodupB, Bool.and_eq_true, List.all_eq_true, Bool.not_eq_true'] at h
    refine List.nodup_cons.2 ⟨fun hm => ?_, nodup_of h.2⟩
    have := h.1 a hm
    rw [Nat.beq_refl] at this
    cases this

def effX (P : Program) (f : FuncId) (c : XC) (nid : Nat) (obj : Nat → Option Ob) (args : List AV) : Eff :=
  { val := dn (swp (c.ti nid)) c.r, wr := gone c.σ ++ back (swp (c.ti nid)) c.hp' (c.ti nid),
    ob := (rnsOk c.σ c.as args ∧ hpOk obj c.σ c.hp ∧ nodupB (c.σ.map (·.2)) = true ∧ c.σ.map (·.1) = c.hp.map (·.1) ∧ nodupB ((c.ti nid).map (·.1)) = true ∧ nodupB ((c.ti nid).map (·.2)) = true) ∧ PX P f c.as c.hp c.pin c.hp' c.r }

theorem hpOk_find {obj : Nat → Option Ob} {σ : List (Nat × Nat)} : ∀ {hp : List (Nat × Ob)}, hpOk obj σ hp → ∀ i o, find hp i = some o → ∃ x o', find σ i = some x ∧ obj x = some o' ∧ o'.elem = o.elem ∧ o'.m = o.m ∧ rnR σ o.rows = some o'.rows
  | [], _, i, o, h => by simp [find] at h
  | (k, q) :: r, hk, i, o, h => by
    simp only [hpOk] at hk
    simp only [find] at h
    split at h
    · rename_i e
      subst e
      cases h
      have h1 := hk.1
      split at h1
      · rename_i x hx
        split at h1
        · rename_i o' ho'; exact ⟨x, o', hx, ho', h1.1, h1.2.1, h1.2.2⟩
        · exact h1.elim
      · exact h1.elim
    · exact hpOk_find hk.2 i o h

theorem rnsOk_rep {w : World} {g g' : G} {σ : List (Nat × Nat)} (hu : ∀ i x, find σ i = some x → g'.used i) (hl : ∀ i x, find σ i = some x → g'.loc i = g.loc x) (hro : ∀ b, g.ro b → g'.ro b) : ∀ {as bs : List AV} {vs : List Value}, rnsOk σ as bs → RepAs g w bs vs → RepAs g' w as vs
  | [], [], vs, _, h => by simpa [RepAs] using h
  | a :: as, [], vs, hx, _ => by cases a <;> simp [rnsOk] at hx
  | [], b :: bs, vs, hx, _ => by simp [rnsOk] at hx
  | a :: as, b :: bs, vs, hx, h => by
    simp only [RepAs] at h ⊢
    obtain ⟨v, vs', rfl, h1, h2⟩ := h
    by_cases ha : a = .any
    · subst ha
      simp only [rnsOk] at hx
      exact ⟨v, vs', rfl, by simp [RepA], rnsOk_rep hu hl hro hx h2⟩
    · have hx' : rn σ a = some b ∧ rnsOk σ as bs := by
        cases a <;> first | exact absurd rfl ha | exact hx
      exact ⟨v, vs', rfl, rn_rep hu hl hro a b v hx'.1 h1, rnsOk_rep hu hl hro hx'.2 h2⟩

theorem updL_get {obj : Nat → Option Ob} : ∀ {l : List (Nat × Option Ob)}, (l.map (·.1)).Nodup → ∀ x, updL obj l x = (find l x).getD (obj x)
  | [], _, x => rfl
  | (i, o) :: r, hn, x => by
    simp only [List.map_cons, List.nodup_cons] at hn
    simp only [updL, find]
    rw [updL_get hn.2]
    by_cases e : i = x
    · subst e
      rw [if_pos rfl]
      cases hf : find r i with
      | none => simp [upd1]
      | some v => exact absurd (find_key hf) hn.1
    · rw [if_neg e]
      cases hf : find r x with
      | none => simp [upd1, Ne.symm e]
      | some v => rfl

theorem updL_append (obj : Nat → Option Ob) : ∀ (a b : List (Nat × Option Ob)), updL obj (a ++ b) = updL (updL obj a) b
  | [], b => rfl
  | (i, o) :: r, b => by simp only [List.cons_append, updL]; exact updL_append _ r b

theorem gone_find (x : Nat) : ∀ σ : List (Nat × Nat), find (gone σ) x = if x ∈ σ.map (·.2) then some none else none
  | [] => by simp [gone, find]
  | (i, y) :: r => by
    simp only [gone, find, gone_find x r]
    by_cases e : y = x
    · rw [if_pos e, if_pos (by simp [e])]
    · have e' : ¬ x = y := fun h => e h.symm
      rw [if_neg e]
      by_cases hm : x ∈ r.map (·.2)
      · rw [if_pos hm, if_pos (by simp only [List.map_cons]; exact List.mem_cons_of_mem _ hm)]
      · rw [if_neg hm, if_neg (by simp only [List.map_cons, List.mem_cons, not_or]; exact ⟨e', hm⟩)]
theorem gone_keys : ∀ σ : List (Nat × Nat), (gone σ).map (·.1) = σ.map (·.2)
  | [] => rfl
  | (i, y) :: r => by simp [gone, gone_keys r]
theorem back_keys (τ : List (Nat × Nat)) (hp' : List (Nat × Ob)) : ∀ l : List (Nat × Nat), (back τ hp' l).map (·.1) = l.map (·.1)
  | [] => rfl
  | (i, y) :: r => by simp [back, back_keys τ hp' r]
theorem back_find (τ : List (Nat × Nat)) (hp' : List (Nat × Ob)) (x : Nat) : ∀ l : List (Nat × Nat), find (back τ hp' l) x = (find l x).map fun j => (find hp' j).map fun o => ⟨o.elem, o.m, dnR τ o.rows⟩
  | [] => by simp [back, find]
  | (i, y) :: r => by
    simp only [back, find, back_find τ hp' x r]
    by_cases e : i = x <;> simp [e]

theorem pinT_find {σ : List (Nat × Nat)} {x j : Nat} : ∀ {pin : List (Nat × Nat)}, find (pinT σ pin) x = some j → ∃ i, (i, j) ∈ pin ∧ find σ i = some x
  | [], h => by simp [pinT, find] at h
  | (i, k) :: r, h => by
    simp only [pinT] at h
    cases hf : find σ i with
    | none =>
      rw [hf] at h
      obtain ⟨i', h1, h2⟩ := pinT_find h
      exact ⟨i', List.mem_cons_of_mem _ h1, h2⟩
    | some y =>
      rw [hf] at h
      simp only [find] at h
      split at h
      · rename_i e; subst e; cases h; exact ⟨i, List.mem_cons_self, hf⟩
      · obtain ⟨i', h1, h2⟩ := pinT_find h
        exact ⟨i', List.mem_cons_of_mem _ h1, h2⟩

theorem ti_find {c : XC} {nid x j : Nat} (h : find (c.ti nid) x = some j) : x = nid ∨ ∃ i, (i, j) ∈ c.pin ∧ find c.σ i = some x := by
  unfold XC.ti at h
  cases hf : c.fr with
  | none => rw [hf] at h; exact .inr (pinT_find h)
  | some k =>
    rw [hf] at h
    simp only [frT, List.cons_append, List.nil_append, find] at h
    split at h
    · rename_i e; exact .inl e.symm
    · exact .inr (pinT_find h)

/-- What is seen through other names. -/
def via (g : G) (σ : List (Nat × Nat)) (hp : List (Nat × Ob)) : G := ⟨g.ro, fun i => (find σ i).bind g.loc, fun i => (find hp i).isSome = true⟩

theorem via_loc {g : G} {σ : List (Nat × Nat)} {hp : List (Nat × Ob)} {i x : Nat} (h : find σ i = some x) : (via g σ hp).loc i = g.loc x := by simp [via, h]
theorem via_loc' {g : G} {σ : List (Nat × Nat)} {hp : List (Nat × Ob)} {i : Nat} {L : Loc} (h : (via g σ hp).loc i = some L) : ∃ x, find σ i = some x ∧ g.loc x = some L := by
  simp only [via] at h
  cases hf : find σ i with
  | none => rw [hf] at h; cases h
  | some x => rw [hf] at h; exact ⟨x, rfl, h⟩
theorem via_used {σ : List (Nat × Nat)} {hp : List (Nat × Ob)} (hdom : σ.map (·.1) = hp.map (·.1)) {i x : Nat} (h : find σ i = some x) : (find hp i).isSome = true := by
  have := find_key h
  rw [hdom] at this
  obtain ⟨v, hv⟩ := find_some_of_key this
  rw [hv]; rfl

theorem via_rel {g : G} {obj : Nat → Option Ob} {w : World} (h : HRel g obj w) {σ : List (Nat × Nat)} {hp : List (Nat × Ob)} (hhp : hpOk obj σ hp) (hσ : (σ.map (·.2)).Nodup) (hdom : σ.map (·.1) = hp.map (·.1)) : HRel (via g σ hp) (objL hp) w := by
  refine ⟨?_, ?_, ?_, ?_, h.ro⟩
  · intro i o ho
    obtain ⟨x, o', h1, h2, h3, h4, h5⟩ := hpOk_find hhp i o ho
    obtain ⟨L, hL, hok⟩ := h.own x o' h2
    obtain ⟨k1, k2⟩ := rnR_get h5
    refine ⟨L, by rw [via_loc h1]; exact hL, by rw [hok.m, h4], hok.pos, by rw [k1]; exact hok.len, fun hv => ?_, fun hv => ?_⟩
    · have := hok.virt hv
      rw [this] at k1
      exact List.eq_nil_of_length_eq_zero (by simpa using k1)
    · obtain ⟨cur, c1, c2, c3, c5⟩ := hok.cells hv
      refine ⟨cur, by rw [← h3]; exact c1, c2, c3, fun k row hi => ?_⟩
      obtain ⟨r', hr', hu⟩ := k2 k row hi
      obtain ⟨d1, d2⟩ := c5 k r' hr'
      obtain ⟨q1, q2⟩ := rnL_get hu
      refine ⟨by rw [q1]; exact d1, fun j av hj => ?_⟩
      obtain ⟨av', hav', huv⟩ := q2 j av hj
      obtain ⟨v, hv', ho, hr⟩ := d2 j av' hav'
      exact ⟨v, hv', ho, rn_rep (g' := via g σ hp) (fun i x hi => via_used hdom hi) (fun i x hi => via_loc hi) (fun _ hb => hb) av av' v huv hr⟩
  · intro i hi
    cases hf : find σ i with
    | none => simp [via, hf]
    | some x =>
      have := via_used hdom hf
      unfold objL at hi
      rw [hi] at this
      cases this
  · intro i L hL
    obtain ⟨x, h1, h2⟩ := via_loc' hL
    exact ⟨via_used hdom h1, (h.live x L h2).2⟩
  · intro i i' L L' hL hL' hv hv' hb
    obtain ⟨x, h1, h2⟩ := via_loc' hL
    obtain ⟨x', h1', h2'⟩ := via_loc' hL'
    have := h.inj x x' L L' h2 h2' hv hv' hb
    subst this
    exact find_inj2 hσ h1 h1'

theorem x_sound {P : Program} {f : FuncId} {g : G} {obj : Nat → Option Ob} {w : World} (h : HRel g obj w) {nid : Nat} (hid : ¬ g.used nid) {c : XC} {args : List AV} {us : List Value} (hargs : RepAs g w args us) (hob : (effX P f c nid obj args).ob) :
    Calls P f us.toArray w fun e w' => ∃ v, e = .returned v ∧ After g obj w nid (effX P f c nid obj args) v w' := by
  obtain ⟨⟨ha, hhp, hσ0, hdom, ht10, ht20⟩, _, hpx⟩ := hob
  have hσ := nodup_of hσ0
  have ht1 := nodup_of ht10
  have ht2 := nodup_of ht20
  have hin : ∀ {i x}, find c.σ i = some x → (find c.hp i).isSome = true := fun {i x} hi => by
    have := find_key hi
    rw [hdom] at this
    obtain ⟨v, hv⟩ := find_some_of_key this
    rw [hv]; rfl
  let g0 : G := via g c.σ c.hp
  have hloc0 : ∀ i x, find c.σ i = some x → g0.loc i = g.loc x := fun i x hi => via_loc hi
  have hused0 : ∀ i x, find c.σ i = some x → g0.used i := fun i x hi => hin hi
  have hl0 : ∀ i L, g0.loc i = some L → ∃ x, find c.σ i = some x ∧ g.loc x = some L := fun i L hL => via_loc' hL
  have hH0 : HRel g0 (objL c.hp) w := via_rel h hhp hσ hdom
  refine (hpx g0 w us hH0 (fun _ hk => hk) (rnsOk_rep hused0 hloc0 (fun _ hb => hb) ha hargs)).mono fun e w' ⟨v, g1, he, hH1, hr1, hs1, hp1⟩ => ⟨v, he, ?_⟩
  have hown0 : ∀ b, g0.owns b → ∃ x, x ∈ c.σ.map (·.2) ∧ ∃ L, g.loc x = some L ∧ L.virt = false ∧ L.blk = b := by
    rintro b ⟨i, L, hL, hv, hb⟩
    obtain ⟨x, h1, h2⟩ := hl0 i L hL
    exact ⟨x, find_val h1, L, h2, hv, hb⟩
  have hkeep : ∀ x L, x ∉ c.σ.map (·.2) → g.loc x = some L → L.virt = false → ¬ g0.owns L.blk := by
    rintro x L hx hL hv ho
    obtain ⟨y, hy, M, hM, hvM, hb⟩ := hown0 _ ho
    have := h.inj y x M L hM hL hvM hv hb
    exact hx (this ▸ hy)
  let g2 : G := ⟨g1.ro, fun x => match find (c.ti nid) x with | some j => g1.loc j | none => if x ∈ c.σ.map (·.2) then none else g.loc x, fun x => g.used x ∨ find (c.ti nid) x ≠ none⟩
  have hg2t : ∀ x j, find (c.ti nid) x = some j → g2.loc x = g1.loc j := fun x j hx => by simp only [g2, hx]
  have hg2n : ∀ x, find (c.ti nid) x = none → g2.loc x = if x ∈ c.σ.map (·.2) then none else g.loc x := fun x hx => by simp only [g2, hx]
  have hτ : ∀ i x, find (swp (c.ti nid)) i = some x → find (c.ti nid) x = some i := fun i x hi => swp_find ht1 ht2 hi
  have hlater : Later g w g2 w' := by
    refine ⟨fun b hb => ⟨hs1.ro b hb, ?_⟩, fun x hx => .inl hx, fun x hx => ?_⟩
    · refine hs1.block b (h.ro b hb) fun ho => ?_
      obtain ⟨y, hy, M, hM, hvM, hbb⟩ := hown0 b ho
      exact ((h.live y M hM).2 hvM).2 (hbb ▸ hb)
    · cases hf : find (c.ti nid) x with
      | none =>
        rw [hg2n x hf]
        split
        · exact .inr rfl
        · exact .inl rfl
      | some j =>
        rcases ti_find hf with rfl | ⟨i, h1, h2⟩
        · exact absurd hx hid
        · left
          rw [hg2t x j hf, hp1 i j h1, hloc0 i x h2]
  have hobj2 : ∀ x, updL obj (effX P f c nid obj args).wr x = match find (c.ti nid) x with
      | some j => (find c.hp' j).map fun o => ⟨o.elem, o.m, dnR (swp (c.ti nid)) o.rows⟩
      | none => if x ∈ c.σ.map (·.2) then none else obj x := by
    intro x
    simp only [effX]
    rw [updL_append, updL_get (by rw [back_keys]; exact ht1), updL_get (by rw [gone_keys]; exact hσ), back_find, gone_find]
    cases find (c.ti nid) x with
    | some j => rfl
    | none => simp only [Option.map_none, Option.getD_none]; split <;> rfl
  refine ⟨g2, ⟨?_, ?_, ?_, ?_, hH1.ro⟩, ?_, hlater, ?_, ?_⟩
  · intro x o ho
    rw [hobj2] at ho
    cases hf : find (c.ti nid) x with
    | some j =>
      rw [hf] at ho
      simp only [Option.map_eq_some_iff] at ho
      obtain ⟨o1, ho1, rfl⟩ := ho
      obtain ⟨L, hL, hok⟩ := hH1.own j o1 ho1
      refine ⟨L, by rw [hg2t x j hf]; exact hL, hok.m, hok.pos, by simpa only [dnR_length] using hok.len, fun hv => by simp [hok.virt hv, dnR], fun hv => ?_⟩
      obtain ⟨cur, c1, c2, c3, c5⟩ := hok.cells hv
      refine ⟨cur, c1, c2, c3, fun k row hi => ?_⟩
      obtain ⟨r0, hr0, rfl⟩ := dnR_get _ _ k row hi
      obtain ⟨d1, d2⟩ := c5 k r0 hr0
      refine ⟨by rw [dnL_length]; exact d1, fun q av hq => ?_⟩
      obtain ⟨a0, ha0, rfl⟩ := dnL_get _ _ q av hq
      obtain ⟨u, q1, q2, q3⟩ := d2 q a0 ha0
      exact ⟨u, q1, q2, dn_rep (fun i y hy => Or.inr (by rw [hτ i y hy]; simp)) (fun i y hy => hg2t y i (hτ i y hy)) (fun _ hb => hb) _ _ q3⟩
    | none =>
      rw [hf] at ho
      simp only at ho
      split at ho
      · cases ho
      · rename_i hx
        obtain ⟨L, hL, hok⟩ := h.own x o ho
        exact ⟨L, by rw [hg2n x hf, if_neg hx]; exact hL, hok.later hlater fun hv => hs1.block _ ((h.live x L hL).2 hv).1 (hkeep x L hx hL hv)⟩
  · intro x hx
    rw [hobj2] at hx
    cases hf : find (c.ti nid) x with
    | some j =>
      rw [hf] at hx
      rw [hg2t x j hf]
      simp only [Option.map_eq_none_iff] at hx
      exact hH1.gone j hx
    | none =>
      rw [hf] at hx
      simp only at hx
      rw [hg2n x hf]
      split
      · rfl
      · rename_i hn; rw [if_neg hn] at hx; exact h.gone x hx
  · intro x L hL
    cases hf : find (c.ti nid) x with
    | some j =>
      rw [hg2t x j hf] at hL
      exact ⟨.inr (by rw [hf]; simp), (hH1.live j L hL).2⟩
    | none =>
      rw [hg2n x hf] at hL
      split at hL
      · cases hL
      · rename_i hx
        refine ⟨.inl (h.live x L hL).1, fun hv => ⟨Nat.lt_of_lt_of_le ((h.live x L hL).2 hv).1 hs1.size, fun hro => ?_⟩⟩
        rcases hs1.ro' _ hro with h1 | h1 | h1
        · exact ((h.live x L hL).2 hv).2 h1
        · have := ((h.live x L hL).2 hv).1; omega
        · exact hkeep x L hx hL hv h1
  · intro x y L L' hL hL' hv hv' hb
    have mix : ∀ x y L L', (∃ j, find (c.ti nid) x = some j) → find (c.ti nid) y = none → g2.loc x = some L → g2.loc y = some L' → L.virt = false → L'.virt = false → L.blk = L'.blk → False := by
      rintro x y L L' ⟨j, hx⟩ hy hL hL' hv hv' hb
      rw [hg2t x j hx] at hL
      rw [hg2n y hy] at hL'
      split at hL'
      · cases hL'
      · rename_i hny
        rcases hs1.own L.blk ⟨j, L, hL, hv, rfl⟩ with h1 | h1
        · have := ((h.live y L' hL').2 hv').1; omega
        · exact hkeep y L' hny hL' hv' (hb ▸ h1)
    cases hx : find (c.ti nid) x with
    | some j =>
      cases hy : find (c.ti nid) y with
      | some k =>
        rw [hg2t x j hx] at hL
        rw [hg2t y k hy] at hL'
        have := hH1.inj j k L L' hL hL' hv hv' hb
        subst this
        exact find_inj2 ht2 hx hy
      | none => exact (mix x y L L' ⟨j, hx⟩ hy hL hL' hv hv' hb).elim
    | none =>
      cases hy : find (c.ti nid) y with
      | some k => exact (mix y x L' L ⟨k, hy⟩ hx hL' hL hv' hv hb.symm).elim
      | none =>
        rw [hg2n x hx] at hL
        rw [hg2n y hy] at hL'
        split at hL
        · cases hL
        · split at hL'
          · cases hL'
          · exact h.inj x y L L' hL hL' hv hv' hb
  · refine ⟨hs1.os, hs1.tape, hs1.output, hs1.size, fun b hb hn => hs1.block b hb fun ho => hn ?_, ?_, fun b hb => hs1.ro b hb, fun b hb => ?_⟩
    · obtain ⟨x, _, L, h1, h2, h3⟩ := hown0 b ho
      exact ⟨x, L, h1, h2, h3⟩
    · rintro b ⟨x, L, hL, hv, hb⟩
      cases hf : find (c.ti nid) x with
      | some j =>
        rw [hg2t x j hf] at hL
        rcases hs1.own b ⟨j, L, hL, hv, hb⟩ with h1 | h1
        · exact .inl h1
        · obtain ⟨y, _, M, q1, q2, q3⟩ := hown0 b h1
          exact .inr ⟨y, M, q1, q2, q3⟩
      | none =>
        rw [hg2n x hf] at hL
        split at hL
        · cases hL
        · exact .inr ⟨x, L, hL, hv, hb⟩
    · rcases hs1.ro' b hb with h1 | h1 | h1
      · exact .inl h1
      · exact .inr (.inl h1)
      · obtain ⟨y, _, M, q1, q2, q3⟩ := hown0 b h1
        exact .inr (.inr ⟨y, M, q1, q2, q3⟩)
  · intro k hk
    rcases hk with hk | hk
    · exact .inl hk
    · cases hf : find (c.ti nid) k with
      | none => exact absurd hf hk
      | some j =>
        rcases ti_find hf with rfl | ⟨i, h1, h2⟩
        · exact .inr rfl
        · have h3 := hin h2
          obtain ⟨o, ho⟩ := Option.isSome_iff_exists.1 h3
          obtain ⟨x', o', q1, q2, _⟩ := hpOk_find hhp i o ho
          rw [h2] at q1
          cases q1
          obtain ⟨L, hL, _⟩ := h.own k o' q2
          exact .inl (h.live k L hL).1
  · exact dn_rep (fun i y hy => Or.inr (by rw [hτ i y hy]; simp)) (fun i y hy => hg2t y i (hτ i y hy)) (fun _ hb => hb) _ _ hr1
end Go.Abs
