/-
  The abstract machine, part 13: regions whose order is drawn.
-/
import Derived.Test.YtmfkfgonedgjnaaAbs12
set_option linter.unusedVariables false
set_option linter.unusedSimpArgs false
namespace Go.Abs
open Go.RowKit

def confs (acc : List (Nat × List Nat × List Nat)) (i : Nat) (t k : List Nat) : List (Nat × Nat) := (acc.filter fun x => conflB x.2.1 x.2.2 t k).map fun x => (x.1, i)

section
variable (ty : TypeId → Option TI) (P : Program) (orc : List (Nat × Res)) (gs : List (Option Tmp)) (base : Nat)

/-- A region in the text's order, with the pairs that must be ordered. -/
def wpC : Nat → List Oper → St → List (Nat × List Nat × List Nat) → List (Nat × Nat) → (St → List (Nat × Nat) → Prop) → Prop
  | _, [], s, _, cf, Q => Q s cf
  | i, o :: rest, s, acc, cf, Q =>
    match o.guard with
    | none =>
      match eff ty P (find orc i) o.op s.obj (base + i) (o.op.operands.toList.map s.eval) with
      | some e => e.ob ∧ (match o.dst with | some d => d < s.n | none => True) ∧
          wpC (i + 1) rest (s.app o.dst e) ((i, touched (find orc i) o.op (o.op.operands.toList.map s.eval), keyed o.op e.wr) :: acc) (confs acc i (touched (find orc i) o.op (o.op.operands.toList.map s.eval)) (keyed o.op e.wr) ++ cf) Q
      | none => False
    | some (j, want) =>
      match s.guard gs j want with
      | some x =>
        (match o.dst with | some d => d < s.n | none => True) ∧
        (match eff ty P (find orc i) o.op s.obj (base + i) (stripG o.op (o.op.operands.toList.map s.eval)) with
        | some e => (match e.wr with
          | [] => (x = true → stripOkG o.op (o.op.operands.toList.map s.eval) ∧ e.ob) ∧ wpC (i + 1) rest (s.put o.dst (.opt x e.val)) ((i, touched (find orc i) o.op (o.op.operands.toList.map s.eval), []) :: acc) (confs acc i (touched (find orc i) o.op (o.op.operands.toList.map s.eval)) [] ++ cf) Q
          | _ => x = true ∧ stripOkG o.op (o.op.operands.toList.map s.eval) ∧ e.ob ∧ wpC (i + 1) rest (s.app o.dst e) ((i, touched (find orc i) o.op (o.op.operands.toList.map s.eval), keyed o.op e.wr) :: acc) (confs acc i (touched (find orc i) o.op (o.op.operands.toList.map s.eval)) (keyed o.op e.wr) ++ cf) Q)
        | none => x = false ∧ wpC (i + 1) rest (s.put o.dst (.opt false (.d (.bool false)))) ((i, touched (find orc i) o.op (o.op.operands.toList.map s.eval), []) :: acc) (confs acc i (touched (find orc i) o.op (o.op.operands.toList.map s.eval)) [] ++ cf) Q)
      | none => False
/-- The same, that only notes what each operation touches. -/
def wpD : Nat → List Oper → St → List (Nat × List Nat × List Nat) → (St → List (Nat × List Nat × List Nat) → Prop) → Prop
  | _, [], s, acc, Q => Q s acc
  | i, o :: rest, s, acc, Q =>
    match o.guard with
    | none =>
      match eff ty P (find orc i) o.op s.obj (base + i) (o.op.operands.toList.map s.eval) with
      | some e => e.ob ∧ (match o.dst with | some d => d < s.n | none => True) ∧
          wpD (i + 1) rest (s.app o.dst e) ((i, touched (find orc i) o.op (o.op.operands.toList.map s.eval), keyed o.op e.wr) :: acc) Q
      | none => False
    | some (j, want) =>
      match s.guard gs j want with
      | some x =>
        (match o.dst with | some d => d < s.n | none => True) ∧
        (match eff ty P (find orc i) o.op s.obj (base + i) (stripG o.op (o.op.operands.toList.map s.eval)) with
        | some e => (match e.wr with
          | [] => (x = true → stripOkG o.op (o.op.operands.toList.map s.eval) ∧ e.ob) ∧ wpD (i + 1) rest (s.put o.dst (.opt x e.val)) ((i, touched (find orc i) o.op (o.op.operands.toList.map s.eval), []) :: acc) Q
          | _ => x = true ∧ stripOkG o.op (o.op.operands.toList.map s.eval) ∧ e.ob ∧ wpD (i + 1) rest (s.app o.dst e) ((i, touched (find orc i) o.op (o.op.operands.toList.map s.eval), keyed o.op e.wr) :: acc) Q)
        | none => x = false ∧ wpD (i + 1) rest (s.put o.dst (.opt false (.d (.bool false)))) ((i, touched (find orc i) o.op (o.op.operands.toList.map s.eval), []) :: acc) Q)
      | none => False

def cfOf : List (Nat × List Nat × List Nat) → List (Nat × Nat)
  | [] => []
  | x :: acc => confs acc x.1 x.2.1 x.2.2 ++ cfOf acc

theorem wpD_wpC {Q : St → List (Nat × List Nat × List Nat) → Prop} : ∀ (l : List Oper) (i : Nat) (s : St) (acc : List (Nat × List Nat × List Nat)), wpD ty P orc gs base i l s acc Q → wpC ty P orc gs base i l s acc (cfOf acc) (fun s' cf => ∃ acc', cf = cfOf acc' ∧ Q s' acc')
  | [], i, s, acc, h => ⟨acc, rfl, h⟩
  | o :: rest, i, s, acc, h => by
    unfold wpD at h
    unfold wpC
    cases hg : o.guard with
    | none =>
      simp only [hg] at h ⊢
      cases he : eff ty P (find orc i) o.op s.obj (base + i) (o.op.operands.toList.map s.eval) with
      | none => simp only [he] at h
      | some e =>
        simp only [he] at h ⊢
        obtain ⟨h1, h2, h3⟩ := h
        exact ⟨h1, h2, wpD_wpC rest _ _ _ h3⟩
    | some q =>
      obtain ⟨j, want⟩ := q
      simp only [hg] at h ⊢
      cases hx : s.guard gs j want with
      | none => simp only [hx] at h
      | some x =>
        simp only [hx] at h ⊢
        refine ⟨h.1, ?_⟩
        have h := h.2
        cases he : eff ty P (find orc i) o.op s.obj (base + i) (stripG o.op (o.op.operands.toList.map s.eval)) with
        | none =>
          simp only [he] at h ⊢
          exact ⟨h.1, wpD_wpC rest _ _ _ h.2⟩
        | some e =>
          simp only [he] at h ⊢
          cases hw : e.wr with
          | nil =>
            simp only [hw] at h ⊢
            exact ⟨h.1, wpD_wpC rest _ _ _ h.2⟩
          | cons z zs =>
            simp only [hw] at h ⊢
            obtain ⟨h1, h2, h3, h4⟩ := h
            exact ⟨h1, h2, h3, wpD_wpC rest _ _ _ h4⟩
end

section
variable {P : Program} {ty : TypeId → Option TI} {orc : List (Nat × Res)} {l : List Oper} {E E' : Nat → Option Eff × AV} {g0 : Nat → AV} {o0 : Nat → Option Ob} {n base : Nat}

theorem stAt_congr {V : Type} {W W' : Nat → Nat → Option V} {S : Nat → Bool} {s0 : Nat → V} {k : Nat} : ∀ {m : Nat}, (∀ i, i < m → W i k = W' i k) → stAt W S s0 k m = stAt W' S s0 k m
  | 0, _ => rfl
  | m + 1, h => by
    simp only [stAt]
    rw [stAt_congr (m := m) fun i hi => h i (by omega), h m (by omega)]

theorem getT_congr {j : Nat} (h : ∀ i, i < j → E' i = E i) (t : Nat) : getT l E' g0 j t = getT l E g0 j t :=
  stAt_congr fun i hi => by unfold Wt; rw [h i hi]

theorem objT_congr {j : Nat} (h : ∀ i, i < j → E' i = E i) (id : Nat) : objT E' o0 j id = objT E o0 j id :=
  stAt_congr fun i hi => by unfold Wo; rw [h i hi]

theorem Fact.congr {j : Nat} {o : Oper} (hf : Fact ty P orc l E g0 o0 n base j o) (h : ∀ i, i ≤ j → E' i = E i) : Fact ty P orc l E' g0 o0 n base j o := by
  have hg : getT l E' g0 j = getT l E g0 j := funext fun t => getT_congr (fun i hi => h i (by omega)) t
  have ho : objT E' o0 j = objT E o0 j := funext fun t => objT_congr (fun i hi => h i (by omega)) t
  have hE := h j (Nat.le_refl j)
  refine ⟨hf.dst, ?_, fun e he => ?_, ?_⟩
  · have := hf.guard
    rw [hE, hg]
    exact this
  · rw [hE] at he
    rw [hg, ho, hE]
    exact hf.eff e he
  · have := hf.skip
    rw [← hE] at this
    exact this

theorem touch_congr {j : Nat} (h : ∀ i, i < j → E' i = E i) : touch l E' g0 orc j = touch l E g0 orc j := by
  have hg : getT l E' g0 j = getT l E g0 j := funext fun t => getT_congr (fun i hi => h i hi) t
  unfold touch
  rw [hg]

theorem keys_congr {j : Nat} (h : E' j = E j) : keys l E' j = keys l E j := by unfold keys; rw [h]

theorem evalG_eval (s : St) : evalG s.get = s.eval := by
  funext x; cases x <;> rfl

/-- The word of a guard is what the value says. -/
theorem guard_at {s : St} {q t : Nat} {want x : Bool} (h : s.guard (l.map fun o => o.dst) q want = some x) : ∃ t, dstOf l q = some t ∧ guardV (s.get t) want = some x := by
  unfold St.guard at h
  split at h
  · rename_i t ht
    refine ⟨t, ?_, ?_⟩
    · unfold dstOf
      rw [List.getElem?_map] at ht
      cases hq : l[q]? with
      | none => rw [hq] at ht; cases ht
      | some oq => rw [hq] at ht; simpa using ht
    · unfold guardV
      split at h
      · rename_i b hb; rw [hb]; exact h
      · rename_i g b hb; rw [hb]; exact h
      · cases h
  · cases h

theorem wpC_trace {Q : St → List (Nat × Nat) → Prop} {nxt : Nat} : ∀ (rest : List Oper) (i : Nat) (s : St) (acc : List (Nat × List Nat × List Nat)) (cf : List (Nat × Nat)) (E : Nat → Option Eff × AV),
    l.drop i = rest → i ≤ l.length → (∀ j o, j < i → l[j]? = some o → Fact ty P orc l E g0 o0 n base j o) → (∀ t, s.get t = getT l E g0 i t) → (∀ id, s.obj id = objT E o0 i id) → s.n = n → s.nxt = nxt →
    (∀ j, j < i → (j, touch l E g0 orc j, keys l E j) ∈ acc) → (∀ j k, j < k → k < i → conflB (touch l E g0 orc j) (keys l E j) (touch l E g0 orc k) (keys l E k) = true → (j, k) ∈ cf) →
    wpC ty P orc (l.map fun o => o.dst) base i rest s acc cf Q →
    ∃ E' s' cf', (∀ j o, l[j]? = some o → Fact ty P orc l E' g0 o0 n base j o) ∧ (∀ t, s'.get t = getT l E' g0 l.length t) ∧ (∀ id, s'.obj id = objT E' o0 l.length id) ∧ s'.n = n ∧ s'.nxt = nxt ∧
      (∀ j k, j < k → k < l.length → conflB (touch l E' g0 orc j) (keys l E' j) (touch l E' g0 orc k) (keys l E' k) = true → (j, k) ∈ cf') ∧ Q s' cf'
  | [], i, s, acc, cf, E, hl, hi, hf, hg, ho, hn, hx, ha, hc, h => by
    have hil : i = l.length := by
      have := congrArg List.length hl
      simp at this
      omega
    subst hil
    exact ⟨E, s, cf, fun j o hj => hf j o (List.getElem?_eq_some_iff.1 hj).1 hj, hg, ho, hn, hx, hc, h⟩
  | o :: rest, i, s, acc, cf, E, hl, hi, hf, hg, ho, hn, hx, ha, hc, h => by
    have hli : l[i]? = some o := by
      have : (l.drop i)[0]? = some o := by rw [hl]; rfl
      simpa using this
    have hlt : i < l.length := (List.getElem?_eq_some_iff.1 hli).1
    have hl' : l.drop (i + 1) = rest := by
      have : (l.drop i).drop 1 = rest := by rw [hl]; rfl
      simpa [List.drop_drop, Nat.add_comm] using this
    have hget_i : s.get = getT l E g0 i := funext hg
    have hobj_i : s.obj = objT E o0 i := funext ho
    have hev : (o.op.operands.toList.map s.eval) = argsG (getT l E g0 i) o := by unfold argsG; rw [← hget_i, evalG_eval]
    -- one operation
    have one : ∀ (s1 : St) (x : Option Eff) (v : AV) (ks : List Nat), (∀ t, s1.get t = putG s.get o.dst v t) → (∀ id, s1.obj id = match x with | some e => updL s.obj e.wr id | none => s.obj id) → s1.n = n → s1.nxt = nxt →
        (match o.guard with | none => x.isSome = true | some (q, want) => ∃ t, dstOf l q = some t ∧ guardV (s.get t) want = some x.isSome) →
        (∀ e, x = some e → eff ty P (find orc i) o.op s.obj (base + i) (argsE o (o.op.operands.toList.map s.eval)) = some e ∧ e.ob ∧ (o.guard ≠ none → stripOkG o.op (o.op.operands.toList.map s.eval)) ∧ ∀ g w u, RepA g w e.val u → RepA g w v u) →
        (x = none → ∀ g w, RepA g w v undef) → (∀ d, o.dst = some d → d < n) → ks = (match x with | some e => keyed o.op e.wr | none => []) →
        wpC ty P orc (l.map fun o => o.dst) base (i + 1) rest s1 ((i, touched (find orc i) o.op (o.op.operands.toList.map s.eval), ks) :: acc) (confs acc i (touched (find orc i) o.op (o.op.operands.toList.map s.eval)) ks ++ cf) Q →
        ∃ E' s' cf', (∀ j o, l[j]? = some o → Fact ty P orc l E' g0 o0 n base j o) ∧ (∀ t, s'.get t = getT l E' g0 l.length t) ∧ (∀ id, s'.obj id = objT E' o0 l.length id) ∧ s'.n = n ∧ s'.nxt = nxt ∧
          (∀ j k, j < k → k < l.length → conflB (touch l E' g0 orc j) (keys l E' j) (touch l E' g0 orc k) (keys l E' k) = true → (j, k) ∈ cf') ∧ Q s' cf' := by
      intro s1 x v ks h1 h2 h3 h4 hguard heff hskip hd hks hrest
      rw [hev] at heff hrest
      let E1 : Nat → Option Eff × AV := fun j => if j = i then (x, v) else E j
      have hE1 : ∀ k, k < i → E1 k = E k := fun k hk => by simp only [E1]; rw [if_neg (by omega)]
      have hE1i : E1 i = (x, v) := by simp [E1]
      have hgT : getT l E1 g0 i = getT l E g0 i := funext fun t => getT_congr hE1 t
      have hoT : objT E1 o0 i = objT E o0 i := funext fun t => objT_congr hE1 t
      have htouch : touch l E1 g0 orc i = touched (find orc i) o.op (argsG (getT l E g0 i) o) := by unfold touch; rw [hli, hgT]
      have hkeys : keys l E1 i = ks := by unfold keys; rw [hE1i, hks, hli]; cases x <;> rfl
      refine wpC_trace rest (i + 1) s1 _ _ E1 hl' hlt ?_ ?_ ?_ h3 h4 ?_ ?_ hrest
      · intro j o' hj hlj
        by_cases e' : j = i
        · subst e'
          rw [hli] at hlj; cases hlj
          refine ⟨hd, ?_, fun e2 he2 => ?_, fun hx => ?_⟩
          · rw [hE1i, hgT, ← hget_i]
            exact hguard
          · rw [hE1i] at he2 ⊢
            rw [hgT, hoT, ← hobj_i]
            exact heff e2 he2
          · rw [hE1i] at hx ⊢
            exact hskip hx
        · exact (hf j o' (by omega) hlj).congr fun k hk => hE1 k (by omega)
      · intro t
        rw [h1]
        have hW : Wt l E1 i t = if o.dst = some t then some v else none := by unfold Wt dstOf; rw [hli, hE1i]; rfl
        show _ = stAt (Wt l E1) (fun _ => true) g0 t (i + 1)
        simp only [stAt, if_true, hW]
        unfold putG
        by_cases e' : o.dst = some t
        · rw [if_pos e', if_pos e']
        · rw [if_neg e', if_neg e']
          show _ = getT l E1 g0 i t
          rw [hgT, ← hget_i]
      · intro id
        rw [h2]
        show _ = stAt (Wo E1) (fun _ => true) o0 id (i + 1)
        cases x with
        | none =>
          have hW : Wo E1 i id = none := by unfold Wo; rw [hE1i]; rfl
          simp only [stAt, if_true, hW]
          show _ = objT E1 o0 i id
          rw [hoT, ← hobj_i]
        | some e =>
          have hW : Wo E1 i id = find (pushL [] e.wr) id := by unfold Wo; rw [hE1i]; rfl
          simp only [stAt, if_true, hW, updL_find]
          cases find (pushL [] e.wr) id with
          | some v => rfl
          | none =>
            show _ = objT E1 o0 i id
            rw [hoT, ← hobj_i]; rfl
      · intro j hj
        by_cases e' : j = i
        · subst e'
          rw [htouch, hkeys]
          exact List.mem_cons_self
        · rw [touch_congr (E := E) (fun k hk => hE1 k (by omega)), keys_congr (hE1 j (by omega))]
          exact List.mem_cons_of_mem _ (ha j (by omega))
      · intro j k hjk hk hconf
        by_cases e' : k = i
        · subst e'
          rw [touch_congr (E := E) (j := j) (fun q hq => hE1 q (by omega)), keys_congr (hE1 j (by omega)), htouch, hkeys] at hconf
          exact List.mem_append_left _ (List.mem_map.2 ⟨_, List.mem_filter.2 ⟨ha j hjk, hconf⟩, rfl⟩)
        · rw [touch_congr (E := E) (j := j) (fun q hq => hE1 q (by omega)), keys_congr (hE1 j (by omega)), touch_congr (E := E) (j := k) (fun q hq => hE1 q (by omega)), keys_congr (hE1 k (by omega))] at hconf
          exact List.mem_append_right _ (hc j k hjk (by omega) hconf)
    have happ : ∀ e, (s.app o.dst e).n = n ∧ (s.app o.dst e).nxt = nxt := fun e => by rw [← hn, ← hx]; unfold St.app St.put; cases o.dst <;> exact ⟨rfl, rfl⟩
    have hput : ∀ v, (s.put o.dst v).n = n ∧ (s.put o.dst v).nxt = nxt := fun v => by rw [← hn, ← hx]; unfold St.put; cases o.dst <;> exact ⟨rfl, rfl⟩
    unfold wpC at h
    split at h
    · rename_i hgd
      split at h
      · rename_i e he
        obtain ⟨h1, h2, h3⟩ := h
        exact one (s.app o.dst e) (some e) e.val _ (fun t => app_get s o.dst e t) (fun id => app_obj s o.dst e id) (happ e).1 (happ e).2 (by rw [hgd]; rfl)
          (fun e2 he2 => by cases he2; unfold argsE; rw [hgd]; exact ⟨he, h1, fun hh => absurd rfl hh, fun _ _ _ hv => hv⟩) (fun hh => by cases hh) (fun d hd => by rw [hd] at h2; rw [← hn]; exact h2) rfl h3
      · exact h.elim
    · rename_i q want hgd
      split at h
      · rename_i x hgv
        obtain ⟨hd, h⟩ := h
        have hd' : ∀ d, o.dst = some d → d < n := fun d hd' => by rw [hd'] at hd; rw [← hn]; exact hd
        obtain ⟨t, ht1, ht2⟩ := guard_at (t := 0) hgv
        split at h
        · rename_i e he
          split at h
          · rename_i hwr
            obtain ⟨hexec, hrest⟩ := h
            cases x with
            | true =>
              obtain ⟨hso, hob⟩ := hexec rfl
              exact one (s.put o.dst (.opt true e.val)) (some e) (.opt true e.val) [] (fun t => St.get_put s o.dst _ t) (fun id => by rw [put_obj]; simp only [hwr, updL]) (hput _).1 (hput _).2 (by rw [hgd]; exact ⟨t, ht1, ht2⟩)
                (fun e2 he2 => by cases he2; unfold argsE; rw [hgd]; exact ⟨he, hob, fun _ => hso, fun _ _ _ hv => by simp only [RepA]; exact ⟨fun _ => hv, fun hb => by cases hb⟩⟩) (fun hh => by cases hh) hd' (by simp only [hwr]; unfold keyed; cases isStore o.op <;> rfl) hrest
            | false =>
              exact one (s.put o.dst (.opt false e.val)) none (.opt false e.val) [] (fun t => St.get_put s o.dst _ t) (fun id => by rw [put_obj]) (hput _).1 (hput _).2 (by rw [hgd]; exact ⟨t, ht1, ht2⟩)
                (fun e2 he2 => by cases he2) (fun _ _ _ => by simp [RepA]) hd' rfl hrest
          · obtain ⟨rfl, hso, hob, hrest⟩ := h
            exact one (s.app o.dst e) (some e) e.val _ (fun t => app_get s o.dst e t) (fun id => app_obj s o.dst e id) (happ e).1 (happ e).2 (by rw [hgd]; exact ⟨t, ht1, ht2⟩)
              (fun e2 he2 => by cases he2; unfold argsE; rw [hgd]; exact ⟨he, hob, fun _ => hso, fun _ _ _ hv => hv⟩) (fun hh => by cases hh) hd' rfl hrest
        · obtain ⟨rfl, hrest⟩ := h
          exact one (s.put o.dst (.opt false (.d (.bool false)))) none (.opt false (.d (.bool false))) [] (fun t => St.get_put s o.dst _ t) (fun id => by rw [put_obj]) (hput _).1 (hput _).2 (by rw [hgd]; exact ⟨t, ht1, ht2⟩)
            (fun e2 he2 => by cases he2) (fun _ _ _ => by simp [RepA]) hd' rfl hrest
      · exact h.elim

/-- Every schedule. -/
theorem any_sound (hc : Ctx P ty) {cf : List (Nat × Nat)} (hreg : regOk l.toArray cf = true) (hcf : ∀ i j, i < j → j < l.length → conflB (touch l E g0 orc i) (keys l E i) (touch l E g0 orc j) (keys l E j) = true → (i, j) ∈ cf)
    (hfact : ∀ j o, l[j]? = some o → Fact ty P orc l E g0 o0 n base j o) {Q : Exit → Act → World → Prop} {gg : G} {ww : World}
    (hQ : ∀ g a w, Rel (fun k => k < base + l.length) g (getT l E g0 l.length) (objT E o0 l.length) n a w → Step gg ww g w → Q .normal a w) :
    ∀ (fuel : Nat) (L : List Nat) (listed : Array Bool) (g : G) (a : Act) (w : World), listed.size = l.length → L.Nodup → L.length = fuel → (∀ i, i < l.length → (listed.getD i true = false ↔ i ∈ L)) →
      Closed l.toArray (fun i => listed.getD i false = true) → Rel (fun k => k < base ∨ ∃ i, i < l.length ∧ listed.getD i false = true ∧ k = base + i) g (getS l E g0 fun i => listed.getD i false) (objS l E o0 fun i => listed.getD i false) n a w → Step gg ww g w →
      wpAny P .any l.toArray Q fuel listed a w := by
  have flip : ∀ (listed : Array Bool) (i : Nat), listed.size = l.length → i < l.length → (listed.getD i true = false ↔ listed.getD i false = false) := by
    intro listed i hsz hi
    have : i < listed.size := by omega
    simp [this]
  have fin : ∀ (listed : Array Bool) (g : G) (a : Act) (w : World), listed.size = l.length → (∀ i, i < l.length → listed.getD i true = true) → Rel (fun k => k < base ∨ ∃ i, i < l.length ∧ listed.getD i false = true ∧ k = base + i) g (getS l E g0 fun i => listed.getD i false) (objS l E o0 fun i => listed.getD i false) n a w → Step gg ww g w → Q .normal a w := by
    intro listed g a w hsz hall hrel hst
    have hall' : ∀ i, i < l.length → listed.getD i false = true := fun i hi => by
      have := (flip listed i hsz hi)
      cases hb : listed.getD i false with
      | true => rfl
      | false => rw [this.2 hb] at *; have := hall i hi; rw [(flip listed i hsz hi).2 hb] at this; cases this
    have h1 : getS l E g0 (fun i => listed.getD i false) = getT l E g0 l.length := funext fun t => stAt_agree fun i hi _ => hall' i hi
    have h2 : objS l E o0 (fun i => listed.getD i false) = objT E o0 l.length := funext fun t => stAt_agree fun i hi _ => hall' i hi
    rw [h1, h2] at hrel
    exact hQ g a w ⟨hrel.defers, hrel.size, hrel.tmp, fun k hk => by
      rcases hrel.used k hk with h | ⟨i, q1, _, q3⟩
      · show k < base + l.length; omega
      · show k < base + l.length; omega, hrel.heap⟩ hst
  intro fuel
  induction fuel with
  | zero =>
    intro L listed g a w hsz hnd hlen hL hcl hrel hst
    have hL0 : L = [] := List.eq_nil_of_length_eq_zero hlen
    subst hL0
    have hall : ∀ i, i < l.length → listed.getD i true = true := fun i hi => by
      cases hb : listed.getD i true with
      | true => rfl
      | false => have := (hL i hi).1 hb; simp at this
    refine ⟨?_, fin listed g a w hsz hall hrel hst⟩
    rw [List.eq_nil_iff_forall_not_mem]
    intro i hi
    obtain ⟨h1, o, ho, _⟩ := mem_ready.1 hi
    have := hall i (by have := (Array.getElem?_eq_some_iff.1 ho).1; simpa using this)
    rw [h1] at this; cases this
  | succ fuel ih =>
    intro L listed g a w hsz hnd hlen hL hcl hrel hst
    refine ⟨fun hnil => ?_, fun i hi => ?_⟩
    · refine fin listed g a w hsz (fun i hi => ?_) hrel hst
      induction i using Nat.strongRecOn with
      | _ i ihi =>
        cases hb : listed.getD i true with
        | true => rfl
        | false =>
          exfalso
          have hready : i ∈ Region.ready .any l.toArray listed := by
            refine mem_ready.2 ⟨hb, l[i], by simp [hi], fun e he hbd => ?_⟩
            have hlt := regOk_edge hreg (j := i) (o := l[i]) (by simp [hi]) he hbd
            have := ihi e.on hlt (by omega)
            cases hb2 : listed.getD e.on false with
            | true => rfl
            | false => rw [(flip listed e.on hsz (by omega)).2 hb2] at this; cases this
          rw [hnil] at hready
          cases hready
    · obtain ⟨hun, o, ho, hall⟩ := mem_ready.1 hi
      have hil : i < l.length := by have := (Array.getElem?_eq_some_iff.1 ho).1; simpa using this
      have hSi : listed.getD i false = false := (flip listed i hsz hil).1 hun
      have hset : (fun k => (listed.setIfInBounds i true).getD k false) = fun k => listed.getD k false || k == i := by
        funext k
        by_cases e : k = i
        · subst e
          have : k < listed.size := by omega
          simp [this]
        · rw [getD_set_ne false (Ne.symm e)]
          have : (k == i) = false := by simpa using e
          simp [this]
      refine any_step hc hreg hcf hfact (S := fun k => listed.getD k false) hcl (by simpa using ho) hSi (fun e he hb => hall e he hb) hrel fun g' a' w' hr hs => ?_
      refine ih (L.erase i) (listed.setIfInBounds i true) g' a' w' (by simpa using hsz) (hnd.erase i) (by rw [List.length_erase_of_mem ((hL i hil).1 hun), hlen]; rfl) (fun k hk => ?_) ?_ ?_ (hst.trans hs)
      · by_cases e : k = i
        · subst e
          have : k < listed.size := by omega
          constructor
          · intro h; simp [this] at h
          · intro h; exact absurd h (List.Nodup.not_mem_erase hnd)
        · rw [getD_set_ne true (Ne.symm e), hL k hk, List.mem_erase_of_ne e]
      · intro j oj hj hlj e he hb
        by_cases e' : j = i
        · subst e'
          have : oj = o := by rw [hj] at ho; exact Option.some.inj ho
          subst this
          exact getD_set_true (hall e he hb)
        · rw [getD_set_ne false (Ne.symm e')] at hlj
          exact getD_set_true (hcl j oj hj hlj e he hb)
      · have h1 : ∀ k, (listed.setIfInBounds i true).getD k false = (listed.getD k false || k == i) := fun k => congrFun hset k
        simp only [h1]
        exact hr

end

/-- A REGION WHOSE ORDER IS DRAWN. -/
theorem awp_region_draw {P : Program} {ty : TypeId → Option TI} (hc : Ctx P ty) (hm : P.follows .mixedOrders = true) (orc : List (Nat × Res)) {id : Nat} {l : List Oper} {Q : Exit → St → Prop} {s : St}
    (h : ∀ K : St → List (Nat × List Nat × List Nat) → Prop, (∀ s' acc, regOk l.toArray (cfOf acc) = true → Q .normal s' → K s' acc) → wpD ty P orc (l.map fun o => o.dst) s.nxt 0 l { s with nxt := s.nxt + l.length } [] K) : AWp P (.region id l.toArray true) Q s := by
  intro g a w hr
  have hwp := wpD_wpC _ _ _ _ _ _ _ _ _ (h (fun s' acc => regOk l.toArray (cfOf acc) = true ∧ Q .normal s') fun s' acc h1 h2 => ⟨h1, h2⟩)
  obtain ⟨E, s', cf, hfact, hget, hobj, hn, hnx, hcf, acc', rfl, hreg, hQ⟩ := wpC_trace (l := l) (g0 := s.get) (o0 := s.obj) (n := s.n) (nxt := s.nxt + l.length) l 0 { s with nxt := s.nxt + l.length } [] [] (fun _ => (none, .any)) rfl (Nat.zero_le _) (fun j o hj _ => absurd hj (by omega)) (fun t => rfl) (fun id => rfl) rfl rfl
    (fun j hj => absurd hj (by omega)) (fun j k _ hk _ => absurd hk (by omega)) hwp
  refine wp_region_any hm ?_
  obtain ⟨d1, d2, d3⟩ := hr.heap.idle (w' := { w with drawn := w.drawn + 1 }) ⟨rfl, ⟨rfl, Nat.le_succ _⟩, rfl, Nat.le_refl _, fun _ _ => rfl⟩
  refine any_sound hc hreg hcf hfact (gg := g) (ww := w) (fun g' a' w' hrel hst => ?_) l.length (List.range l.length) (Array.replicate l.length false) g a _ (by simp) List.nodup_range (by simp) (fun i hi => by simp [hi]) (fun j o _ hj => by
    have hj' : (Array.replicate l.length false).getD j false = true := hj; rw [show (Array.replicate l.length false).getD j false = false by rcases Nat.lt_or_ge j l.length with h | h <;> simp [h]] at hj'; cases hj') ?_ d2
  · refine ⟨s', g', ?_, hst, hQ⟩
    have := hrel.congr hget hobj
    refine ⟨this.defers, by rw [hn]; exact this.size, this.tmp, fun id hid => by have := this.used id hid; show id < s'.nxt; rw [hnx]; exact this, this.heap⟩
  · have hf : ∀ j, (Array.replicate l.length false).getD j false = false := fun j => by rcases Nat.lt_or_ge j l.length with h | h <;> simp [h]
    have e1 : getS l E s.get (fun i => (Array.replicate l.length false).getD i false) = s.get := funext fun t => by
      unfold getS
      rw [stAt_skip (j := 0) (Nat.zero_le _) fun i _ _ h => by rw [hf] at h; cases h]
      rfl
    have e2 : objS l E s.obj (fun i => (Array.replicate l.length false).getD i false) = s.obj := funext fun t => by
      unfold objS
      rw [stAt_skip (j := 0) (Nat.zero_le _) fun i _ _ h => by rw [hf] at h; cases h]
      rfl
    rw [e1, e2]
    exact ⟨hr.defers, hr.size, fun t => RepA.later d3 _ _ (hr.tmp t), fun id hid => .inl (hr.used id hid), d1⟩

theorem awp_rd {P : Program} {ty : TypeId → Option TI} (hc : Ctx P ty) (hm : P.follows .mixedOrders = true) (orc : List (Nat × Res)) {id : Nat} {l : List Oper} {y : Code} {Q : Exit → St → Prop} {s : St}
    (h : ∀ K : St → List (Nat × List Nat × List Nat) → Prop, (∀ s' acc, regOk l.toArray (cfOf acc) = true → AWp P y Q s' → K s' acc) → wpD ty P orc (l.map fun o => o.dst) s.nxt 0 l { s with nxt := s.nxt + l.length } [] K) : AWp P (.seq (.region id l.toArray true) y) Q s :=
  awp_seq (awp_region_draw hc hm orc fun K hK => h K hK)

end Go.Abs
