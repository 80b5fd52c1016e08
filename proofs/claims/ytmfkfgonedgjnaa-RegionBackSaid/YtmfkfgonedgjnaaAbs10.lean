/-
  The abstract machine, part 10: a function's contract out of its code; states seen as others (for loops).
-/
import Derived.Test.YtmfkfgonedgjnaaAbs9
set_option linter.unusedVariables false
set_option linter.unusedSimpArgs false
namespace Go.Abs
open Go.RowKit

def addParams : Nat → List D → List (Nat × AV) → List (Nat × AV)
  | _, [], acc => acc
  | i, d :: ds, acc => addParams (i + 1) ds ((i, .d d) :: acc)

/-- The state as a function begins. -/
def start (n : Nat) (ds : List D) : St := ⟨n, addParams 0 ds [], [], 0⟩

theorem find_addParams : ∀ (i : Nat) (ds : List D) (acc : List (Nat × AV)) (t : Nat), find (addParams i ds acc) t = if i ≤ t ∧ t < i + ds.length then (ds[t - i]?).map AV.d else find acc t
  | i, [], acc, t => by simp only [addParams, List.length_nil, Nat.add_zero]; rw [if_neg (by omega)]
  | i, d :: ds, acc, t => by
    simp only [addParams, List.length_cons]
    rw [find_addParams (i + 1) ds]
    by_cases e : i = t
    · subst e
      rw [if_neg (by omega), if_pos (by omega)]
      simp [find]
    · by_cases e2 : i + 1 ≤ t ∧ t < i + 1 + ds.length
      · rw [if_pos e2, if_pos (by omega), show t - i = (t - (i + 1)) + 1 by omega, List.getElem?_cons_succ]
      · rw [if_neg e2, if_neg (by omega)]
        simp [find, e]

theorem start_rel {n : Nat} {ds : List D} {vs : List Value} {ro : Nat → Prop} {w : World} (hro : ∀ b, ro b → b < w.heap.size) (hd : RepDs ro w ds vs) (hn : ds.length ≤ n) :
    RelS (start n ds) ⟨ro, fun _ => none, fun _ => False⟩ { tmps := vs.toArray ++ Array.replicate (n - vs.toArray.size) undef, defers := [] } w := by
  have hl := hd.length
  refine ⟨rfl, by simp only [Array.size_append, List.size_toArray, Array.size_replicate, start]; omega, fun t => ?_, fun _ h => h.elim, ⟨fun id o h => by simp [St.obj, start, find] at h, fun _ _ => rfl, fun _ _ h => by simp at h, fun _ _ _ _ h => by simp at h, hro⟩⟩
  simp only [St.get, start, find_addParams]
  by_cases e : 0 ≤ t ∧ t < 0 + ds.length
  · rw [if_pos e]
    obtain ⟨d, hdt⟩ : ∃ d, ds[t]? = some d := ⟨ds[t]'(by omega), List.getElem?_eq_getElem _⟩
    obtain ⟨v, hv, hr⟩ := hd.get t d hdt
    simp only [Nat.sub_zero, hdt, Option.map_some, Option.getD_some, RepA]
    have hlt : t < vs.length := (List.getElem?_eq_some_iff.1 hv).1
    have : (vs.toArray ++ Array.replicate (n - vs.toArray.size) undef)[t]? = some v := by
      rw [Array.getElem?_append_left (by simpa using hlt)]
      simpa using hv
    simp only [Array.getD_eq_getD_getElem?, this, Option.getD_some]
    exact hr
  · rw [if_neg e]
    simp [find, RepA]

/-- The results' values. -/
def resAs (ty : TypeId → Option TI) (s : St) : List ResultVar → Option (List AV)
  | [] => some []
  | .tmp t :: r => (resAs ty s r).map (s.get t :: ·)
  | .cell a t :: r => (effLoad ty t s.obj [s.get a]).bind fun e => (resAs ty s r).map (e.val :: ·)

def oneOf : List AV → AV
  | [x] => x
  | l => .tup l

def resOk (s : St) (x : AV) : Res → Prop
  | .p d => match snap s.obj x with | some y => y.1 = d ∧ y.2.1 | none => False
  | .o e m rows => match x with
    | .nl => rows = [] ∧ 0 < m
    | .hs id 0 len => match s.obj id with
      | some o => o.elem = e ∧ o.m = m ∧ (match rowsD o.rows with | some R => R.take len = rows ∧ len ≤ R.length | none => False)
      | none => False
    | _ => False
  | .x _ => False
  | .skip => False
  | .ub _ => False
  | .f d => match snapF s.obj x with | some y => y.1 = d ∧ y.2 | none => False

theorem resOk_p {s : St} {x : AV} {d : D} (h : resOk s x (.p d)) : ∃ p b, snap s.obj x = some (d, p, b) ∧ p := by
  simp only [resOk] at h
  split at h
  · rename_i y hy; obtain ⟨d', p, b⟩ := y; obtain ⟨rfl, hp⟩ := h; exact ⟨p, b, hy, hp⟩
  · exact h.elim

theorem resOk_o {s : St} {x : AV} {e : TypeId} {m : Nat} {rows : List (List D)} (h : resOk s x (.o e m rows)) :
    (x = .nl ∧ rows = [] ∧ 0 < m) ∨ ∃ id len o R, x = .hs id 0 len ∧ s.obj id = some o ∧ o.elem = e ∧ o.m = m ∧ rowsD o.rows = some R ∧ rows = R.take len ∧ len ≤ R.length := by
  simp only [resOk] at h
  split at h
  · exact .inl ⟨rfl, h⟩
  · rename_i id len
    split at h
    · rename_i o ho
      obtain ⟨h1, h2, h3⟩ := h
      split at h3
      · rename_i R hR; exact .inr ⟨id, len, o, R, rfl, ho, h1, h2, hR, h3.1.symm, h3.2⟩
      · exact h3.elim
    · exact h.elim
  · exact h.elim

def retQ (ty : TypeId → Option TI) (rs : List ResultVar) (r : Res) : Exit → St → Prop
  | .normal, s | .ret, s => match resAs ty s rs with | some l => resOk s (oneOf l) r | none => False
  | _, _ => False

theorem retQ_spec {ty : TypeId → Option TI} {rs : List ResultVar} {r : Res} {s : St} (h : match resAs ty s rs with | some l => resOk s (oneOf l) r | none => False) : ∃ l, resAs ty s rs = some l ∧ resOk s (oneOf l) r := by
  split at h
  · rename_i l hl; exact ⟨l, hl, h⟩
  · exact h.elim

def resOne (tmps : Array Value) : ResultVar → Sem Value
  | .tmp t => pure (tmps.getD t undef)
  | .cell a t => do loadVar t (← asAddr (tmps.getD a undef))

theorem run_asAddr_ptr (P : Program) (w : World) (ad : Addr) : (asAddr (.pointer (some ad))).run P w = .ok ad w := rfl

theorem resAs_run {P : Program} {ty : TypeId → Option TI} (hc : Ctx P ty) {s : St} {g : G} {a : Act} {w : World} (h : RelS s g a w) : ∀ (rs : List ResultVar) (l : List AV), resAs ty s rs = some l →
    ∃ vs : List Value, (rs.mapM (resOne a.tmps)).run P w = .ok vs w ∧ RepAs g w l vs
  | [], l, hl => by simp [resAs] at hl; subst hl; exact ⟨[], by simp, by simp [RepAs]⟩
  | .tmp t :: r, l, hl => by
    simp only [resAs, Option.map_eq_some_iff] at hl
    obtain ⟨l', hl', rfl⟩ := hl
    obtain ⟨vs, h1, h2⟩ := resAs_run hc h r l' hl'
    refine ⟨a.tmps.getD t undef :: vs, ?_, by simp only [RepAs]; exact ⟨_, _, rfl, h.tmp t, h2⟩⟩
    simp only [List.mapM_cons, resOne, Sem.run_bind, Sem.run_pure, Result.andThen_ok, h1]
  | .cell c t :: r, l, hl => by
    simp only [resAs] at hl
    cases he : effLoad ty t s.obj [s.get c] with
    | none => rw [he] at hl; cases hl
    | some e =>
      rw [he] at hl
      simp only [Option.bind_some, Option.map_eq_some_iff] at hl
      obtain ⟨l', hl', rfl⟩ := hl
      obtain ⟨vs, h1, h2⟩ := resAs_run hc h r l' hl'
      have hd := load_op_sound (P := P) (o := { dst := none, op := .load t (.tmp c), type := 0, pos := "", after := #[], guard := none }) (nid := 0) (a := a) hc h.heap rfl (args := [s.get c]) (by
        simp only [RepAs]; exact ⟨_, [], rfl, h.tmp c, rfl⟩) he
      have hload : ∃ v, (Instr.loadAt t (a.tmps.getD c undef)).run P w = .ok v w ∧ RepA g w e.val v := by
        unfold effLoad at he
        have hx := h.tmp c
        split at he
        · rename_i id i j heq
          simp only [List.cons.injEq, and_true] at heq
          rw [heq] at hx
          cases ht : ty t with
          | none => rw [ht] at he; cases he
          | some ti =>
            cases hob : s.obj id with
            | none => rw [ht, hob] at he; cases he
            | some ob =>
              rw [ht, hob] at he
              simp only [Option.bind_some] at he
              cases hrow : ob.rows[i]? with
              | none => rw [hrow] at he; cases he
              | some row =>
                rw [hrow] at he
                simp only [Option.bind_some, Option.map_eq_some_iff] at he
                obtain ⟨y, hy, rfl⟩ := he
                obtain ⟨L, hL, hok⟩ := h.heap.own id ob hob
                simp only [RepA] at hx
                obtain ⟨hv, hp⟩ := hx.2 L hL
                obtain ⟨us, hul, hur, huc⟩ := hok.row hv hrow
                rw [hp]
                exact load_sound (hc.ok t ti ht) (huc.drop j) (hur.drop j) hy
        · rename_i cs heq
          simp only [List.cons.injEq, and_true] at heq
          rw [heq] at hx
          cases ht : ty t with
          | none => rw [ht] at he; cases he
          | some ti =>
            rw [ht] at he
            simp only [Option.bind_some, Option.map_eq_some_iff] at he
            obtain ⟨y, hy, rfl⟩ := he
            simp only [RepA, RepD] at hx
            obtain ⟨b, off, us, hp, hb, hr, hcell⟩ := hx
            rw [hp]
            exact load_sound (hc.ok t ti ht) hcell (RepAs.of_ds hr) hy
        · cases he
      obtain ⟨v, hv, hrep⟩ := hload
      refine ⟨v :: vs, ?_, by simp only [RepAs]; exact ⟨_, _, rfl, hrep, h2⟩⟩
      have hv' : ∃ ad, a.tmps.getD c undef = .pointer (some ad) ∧ (loadVar t ad).run P w = .ok v w := by
        cases hval : a.tmps.getD c undef <;> rw [hval] at hv <;> simp [Instr.loadAt, Instr.sureAddr] at hv
        case pointer p =>
          cases p with
          | none => simp at hv
          | some ad => exact ⟨ad, rfl, by simpa using hv⟩
      obtain ⟨ad, had, hlv⟩ := hv'
      simp only [List.mapM_cons, resOne, Sem.run_bind, had, run_asAddr_ptr, Sem.run_pure, Result.andThen_ok, hlv, h1]

theorem results_run {P : Program} {ty : TypeId → Option TI} (hc : Ctx P ty) {s : St} {g : G} {a : Act} {w : World} (h : RelS s g a w) {fn : Func} {l : List AV} (hl : resAs ty s fn.results.toList = some l) :
    ∃ v, (results fn a.tmps).run P w = .ok v w ∧ RepA g w (oneOf l) v := by
  obtain ⟨vs, h1, h2⟩ := resAs_run hc h _ l hl
  refine ⟨if h : vs.toArray.size = 1 then vs.toArray[0] else .tuple vs.toArray, ?_, ?_⟩
  · have hres : results fn a.tmps = (do
        let vs ← fn.results.mapM (resOne a.tmps)
        pure (if h : vs.size = 1 then vs[0] else .tuple vs)) := by
      unfold results
      congr 2
    rw [hres, Array.mapM_eq_mapM_toList]
    simp only [Sem.run_bind, Sem.run_map, h1, Result.andThen_ok, Sem.run_pure]
  · have hlen := h2.length
    unfold oneOf
    split
    · rename_i x
      match vs, hlen, h2 with
      | [v], _, h2 => simpa using one_arg h2
    · rename_i hne
      have hsz : vs.toArray.size ≠ 1 := by
        intro hs
        simp at hs
        match l, hlen, hne with
        | [x], _, hne => exact hne x rfl
        | [], hlen, _ => simp at hlen; subst hlen; simp at hs
        | _ :: _ :: _, hlen, _ => rw [hs] at hlen; simp at hlen
      rw [dif_neg hsz]
      simp only [RepA]
      exact ⟨vs, rfl, h2⟩

/-- A CONTRACT OUT OF THE CODE. -/
theorem pc_of_awp {P : Program} {ty : TypeId → Option TI} (hc : Ctx P ty) {f : FuncId} {fn : Func} {c : Code} {ds : List D} {r : Res} (hf : P.funcs[f]? = some fn) (hb : fn.body = some c) (hname : (fn.name == "runtime.NumGoroutine") = false) (hn : ds.length ≤ fn.ntmps)
    (h : AWp P c (retQ ty fn.results.toList r) (start fn.ntmps ds)) : PC P f ds r := by
  refine ⟨⟨fn, hf, hname, by rw [hb]; rfl⟩, fun ro w vs hro hd => ?_⟩
  refine calls_of_wp hf hb (wp_mono (h _ _ w (start_rel hro hd hn)) fun e a' w' ⟨s', g', h1, h2, h3⟩ => ?_)
  have done : (∃ l, resAs ty s' fn.results.toList = some l ∧ resOk s' (oneOf l) r) → a'.defers = [] ∧ ∃ v, (results fn a'.tmps).run P w' = .ok v w' ∧ ∃ v', Ending.returned v = .returned v' ∧ Below w.heap.size w w' ∧ RepRes ro w.heap.size w' r v' := by
    rintro ⟨l, hl, hok⟩
    obtain ⟨v, hv, hrep⟩ := results_run hc h1 hl
    refine ⟨h1.defers, v, hv, v, rfl, ⟨h2.os, h2.tape, h2.output, h2.size, fun k hk => h2.block k hk (by rintro ⟨_, _, h, _⟩; cases h)⟩, ?_⟩
    have hro' : ∀ b, g'.ro b → ro b ∨ (w.heap.size ≤ b ∧ b < w'.heap.size) := fun b hb => by
      rcases h2.ro' b hb with hh | hh | ⟨_, _, hh, _⟩
      · exact .inl hh
      · exact .inr ⟨hh, h1.heap.ro b hb⟩
      · cases hh
    have hown' : ∀ b, g'.owns b → w.heap.size ≤ b ∧ b < w'.heap.size := fun b hb => by
      refine ⟨?_, ?_⟩
      · rcases h2.own b hb with hh | ⟨_, _, hh, _⟩
        · exact hh
        · cases hh
      · obtain ⟨x, L, hx, hvx, rfl⟩ := hb
        exact ((h1.heap.live x L hx).2 hvx).1
    cases r with
    | x c => exact (show False from hok).elim
    | skip => exact (show False from hok).elim
    | ub b => exact (show False from hok).elim
    | f d =>
      simp only [resOk] at hok
      split at hok
      · rename_i y hy
        obtain ⟨d', p⟩ := y
        obtain ⟨rfl, hp⟩ := hok
        simp only [RepRes]
        exact RepD.mono (fun b hb => ⟨hown' b hb, rfl⟩) d' v (snapF_sound h1.heap _ _ _ _ hy hp hrep)
      · exact hok.elim
    | p d =>
      obtain ⟨p, b, hs, hp⟩ := resOk_p hok
      obtain ⟨k1, _⟩ := snap_sound h1.heap _ _ _ _ _ hs hp hrep
      simp only [RepRes]
      exact RepD.mono (fun b hb => ⟨hb.elim (hro' b) fun ho => .inr (hown' b ho), rfl⟩) d v k1
    | o e m rows =>
      simp only [RepRes, OwnRes]
      rcases resOk_o hok with ⟨hx, rfl, hm⟩ | ⟨id, len, o, R, hx, hob, rfl, rfl, hR, rfl, hlen⟩
      · rw [hx] at hrep
        simp only [RepA] at hrep
        exact ⟨hm, .inl ⟨rfl, hrep⟩⟩
      · rw [hx] at hrep
        obtain ⟨L, hL, hok⟩ := h1.heap.own id o hob
        refine ⟨by rw [← hok.m]; exact hok.pos, ?_⟩
        simp only [RepA] at hrep
        rcases hrep.2 L hL with ⟨_, _, rfl, hv'⟩ | ⟨hvirt, hle, hv'⟩
        · exact .inl ⟨by simp, hv'⟩
        · obtain ⟨cur, c1, c2, c3, c5⟩ := hok.cells hvirt
          have hlenR : (R.take len).length = len := by simp; omega
          refine .inr ⟨L.blk, L.cap, cur, (hown' _ ⟨id, L, hL, hvirt, rfl⟩).1, by rw [hv', hlenR]; simp, c1, by rw [hlenR]; omega, c3, by rw [c2, hok.m], fun i row hi => ?_⟩
          rw [List.getElem?_take] at hi
          split at hi
          · obtain ⟨arow, harow, had⟩ := rowsD_get hR i row hi
            obtain ⟨d1, d2⟩ := c5 i arow harow
            obtain ⟨us, hul, hur, huc⟩ := hok.row hvirt harow
            have hds := RepAs.allD had hur
            refine ⟨by rw [← hds.length, hul, hok.m], fun j d hj => ?_⟩
            obtain ⟨u, hu, hru⟩ := hds.get j d hj
            obtain ⟨hcell, hone⟩ := huc j u hu
            have hcu : cur[i * o.m + j]? = some u := by
              rw [← hok.m]
              simp only [World.cell?, c1] at hcell
              simpa using hcell
            refine ⟨u, hcu, hone, RepD.mono (fun b hb => ⟨?_, rfl⟩) d u hru⟩
            rcases hro' b hb with hh | hh
            · exact .inl hh
            · exact .inr ⟨hh.1, hh.2, fun e' => ((h1.heap.live id L hL).2 hvirt).2 (e' ▸ hb)⟩
          · cases hi
  cases e with
  | normal => exact done (retQ_spec h3)
  | ret => exact done (retQ_spec h3)
  | _ => exact h3.elim

/-! ### A contract of a function that turns what it is handed -/
def addAVs : Nat → List AV → List (Nat × AV) → List (Nat × AV)
  | _, [], acc => acc
  | i, d :: ds, acc => addAVs (i + 1) ds ((i, d) :: acc)
def pinTm (n : Nat) (Ls : Nat → Loc) : List (Nat × Nat) → List (Nat × AV)
  | [] => []
  | (i, _) :: r => (n + i, .pin i (Ls i)) :: pinTm n Ls r
def obs : List (Nat × Ob) → List (Nat × Option Ob)
  | [] => []
  | (i, o) :: r => (i, some o) :: obs r
def startX (n : Nat) (as : List AV) (pin : List (Nat × Nat)) (Ls : Nat → Loc) (hp : List (Nat × Ob)) (nxt : Nat) : St := ⟨n, addAVs 0 as (pinTm n Ls pin), obs hp, nxt⟩

theorem obs_find (id : Nat) : ∀ hp : List (Nat × Ob), find (obs hp) id = (find hp id).map some
  | [] => rfl
  | (i, o) :: r => by
    simp only [obs, find, obs_find id r]
    split <;> rfl

theorem find_addAVs : ∀ (i : Nat) (ds : List AV) (acc : List (Nat × AV)) (t : Nat), find (addAVs i ds acc) t = if i ≤ t ∧ t < i + ds.length then ds[t - i]? else find acc t
  | i, [], acc, t => by simp only [addAVs, List.length_nil, Nat.add_zero]; rw [if_neg (by omega)]
  | i, d :: ds, acc, t => by
    simp only [addAVs, List.length_cons]
    rw [find_addAVs (i + 1) ds]
    by_cases e : i = t
    · subst e
      rw [if_neg (by omega), if_pos (by omega)]
      simp [find]
    · by_cases e2 : i + 1 ≤ t ∧ t < i + 1 + ds.length
      · rw [if_pos e2, if_pos (by omega), show t - i = (t - (i + 1)) + 1 by omega, List.getElem?_cons_succ]
      · rw [if_neg e2, if_neg (by omega)]
        simp [find, e]

theorem find_pinTm {n : Nat} {Ls : Nat → Loc} {t : Nat} {v : AV} : ∀ {pin : List (Nat × Nat)}, find (pinTm n Ls pin) t = some v → ∃ i j, (i, j) ∈ pin ∧ v = .pin i (Ls i)
  | [], h => by simp [pinTm, find] at h
  | (i, j) :: r, h => by
    simp only [pinTm, find] at h
    split at h
    · cases h; exact ⟨i, j, List.mem_cons_self, rfl⟩
    · obtain ⟨i', j', h1, h2⟩ := find_pinTm h
      exact ⟨i', j', List.mem_cons_of_mem _ h1, h2⟩

def pinsOk (s : St) (ρ : List (Nat × Nat)) (n : Nat) (Ls : Nat → Loc) : List (Nat × Nat) → Prop
  | [] => True
  | (i, j) :: r => (match find ρ j with | some y => s.get (n + i) = .pin y (Ls i) ∧ (s.obj y).isSome = true | none => False) ∧ pinsOk s ρ n Ls r

def retX (ty : TypeId → Option TI) (rs : List ResultVar) (n : Nat) (pin : List (Nat × Nat)) (hp' : List (Nat × Ob)) (r : AV) (Ls : Nat → Loc) : Exit → St → Prop
  | .normal, s | .ret, s => ∃ ρ : List (Nat × Nat), match resAs ty s rs with
    | some l => rnsOk ρ [r] [oneOf l] ∧ hpOk s.obj ρ hp' ∧ nodupB (ρ.map (·.2)) = true ∧ ρ.map (·.1) = hp'.map (·.1) ∧ pinsOk s ρ n Ls pin
    | none => False
  | _, _ => False

theorem retX_spec {ty : TypeId → Option TI} {rs : List ResultVar} {n : Nat} {pin : List (Nat × Nat)} {hp' : List (Nat × Ob)} {r : AV} {Ls : Nat → Loc} {s : St}
    (h : ∃ ρ : List (Nat × Nat), match resAs ty s rs with
      | some l => rnsOk ρ [r] [oneOf l] ∧ hpOk s.obj ρ hp' ∧ nodupB (ρ.map (·.2)) = true ∧ ρ.map (·.1) = hp'.map (·.1) ∧ pinsOk s ρ n Ls pin
      | none => False) : ∃ ρ l, resAs ty s rs = some l ∧ rnsOk ρ [r] [oneOf l] ∧ hpOk s.obj ρ hp' ∧ nodupB (ρ.map (·.2)) = true ∧ ρ.map (·.1) = hp'.map (·.1) ∧ pinsOk s ρ n Ls pin := by
  obtain ⟨ρ, h⟩ := h
  split at h
  · rename_i l hl; exact ⟨ρ, l, hl, h⟩
  · exact h.elim

theorem pinsOk_mem {s : St} {ρ : List (Nat × Nat)} {n : Nat} {Ls : Nat → Loc} : ∀ {pin : List (Nat × Nat)}, pinsOk s ρ n Ls pin → ∀ i j, (i, j) ∈ pin → ∃ y, find ρ j = some y ∧ s.get (n + i) = .pin y (Ls i) ∧ (s.obj y).isSome = true
  | (a, b) :: r, h, i, j, hm => by
    simp only [pinsOk] at h
    rcases List.mem_cons.1 hm with e | hm
    · cases e
      have h1 := h.1
      split at h1
      · rename_i y hy; exact ⟨y, hy, h1.1, h1.2⟩
      · exact h1.elim
    · exact pinsOk_mem h.2 i j hm

theorem px_of_awp {P : Program} {ty : TypeId → Option TI} (hc : Ctx P ty) {f : FuncId} {fn : Func} {c : Code} {as : List AV} {hp : List (Nat × Ob)} {pin : List (Nat × Nat)} {hp' : List (Nat × Ob)} {r : AV} (nxt : Nat)
    (hf : P.funcs[f]? = some fn) (hb : fn.body = some c) (hname : (fn.name == "runtime.NumGoroutine") = false) (hn : as.length ≤ fn.ntmps)
    (hids : (hp.all fun x => Nat.blt x.1 nxt) = true) (hpin : (pin.all fun x => (find hp x.1).isSome) = true)
    (h : ∀ Ls : Nat → Loc, AWp P c (retX ty fn.results.toList fn.ntmps pin hp' r Ls) (startX fn.ntmps as pin Ls hp nxt)) : PX P f as hp pin hp' r := by
  refine ⟨⟨fn, hf, hname, by rw [hb]; rfl⟩, fun g w vs hH hu hd => ?_⟩
  have hl := hd.length
  let Ls : Nat → Loc := fun i => (g.loc i).getD ⟨0, 0, 0, false⟩
  have hpin' : ∀ i j, (i, j) ∈ pin → g.used i ∧ g.loc i = some (Ls i) := fun i j hij => by
    have := List.all_eq_true.1 hpin (i, j) hij
    obtain ⟨o, ho⟩ := Option.isSome_iff_exists.1 this
    obtain ⟨L, hL, _⟩ := hH.own i o ho
    exact ⟨(hH.live i L hL).1, by simp [Ls, hL]⟩
  have hrel : RelS (startX fn.ntmps as pin Ls hp nxt) g { tmps := vs.toArray ++ Array.replicate (fn.ntmps - vs.toArray.size) undef, defers := [] } w := by
    refine ⟨rfl, by simp only [Array.size_append, List.size_toArray, Array.size_replicate, startX]; omega, fun t => ?_, fun id hid => ?_, ?_⟩
    · simp only [St.get, startX, find_addAVs]
      by_cases e : 0 ≤ t ∧ t < 0 + as.length
      · rw [if_pos e]
        obtain ⟨d, hdt⟩ : ∃ d, as[t]? = some d := ⟨as[t]'(by omega), List.getElem?_eq_getElem _⟩
        obtain ⟨v, hv, hr⟩ := hd.get t d hdt
        simp only [Nat.sub_zero, hdt, Option.getD_some]
        have hlt : t < vs.length := (List.getElem?_eq_some_iff.1 hv).1
        have : (vs.toArray ++ Array.replicate (fn.ntmps - vs.toArray.size) undef)[t]? = some v := by
          rw [Array.getElem?_append_left (by simpa using hlt)]
          simpa using hv
        simp only [Array.getD_eq_getD_getElem?, this, Option.getD_some]
        exact hr
      · rw [if_neg e]
        cases hf' : find (pinTm fn.ntmps Ls pin) t with
        | none => simp [RepA]
        | some v =>
          obtain ⟨i, j, hij, rfl⟩ := find_pinTm hf'
          simp only [Option.getD_some, RepA]
          obtain ⟨h1, h2⟩ := hpin' i j hij
          exact ⟨h1, fun M hM => by rw [h2] at hM; exact (Option.some.inj hM).symm⟩
    · have h1 := hu id hid
      obtain ⟨o, ho⟩ := Option.isSome_iff_exists.1 h1
      have hk := find_key ho
      obtain ⟨x, hx, rfl⟩ := List.mem_map.1 hk
      exact Nat.le_of_ble_eq_true (List.all_eq_true.1 hids x hx)
    · have : (startX fn.ntmps as pin Ls hp nxt).obj = objL hp := by
        funext id
        simp only [St.obj, startX, obs_find, objL]
        cases find hp id <;> rfl
      rw [this]
      exact hH
  refine calls_of_wp hf hb (wp_mono (h Ls _ _ w hrel) fun e a' w' ⟨s', g', h1, h2, h3⟩ => ?_)
  have done : (∃ ρ l, resAs ty s' fn.results.toList = some l ∧ rnsOk ρ [r] [oneOf l] ∧ hpOk s'.obj ρ hp' ∧ nodupB (ρ.map (·.2)) = true ∧ ρ.map (·.1) = hp'.map (·.1) ∧ pinsOk s' ρ fn.ntmps Ls pin) →
      a'.defers = [] ∧ ∃ v, (results fn a'.tmps).run P w' = .ok v w' ∧ ∃ v' g2, Ending.returned v = .returned v' ∧ HRel g2 (objL hp') w' ∧ RepA g2 w' r v' ∧ Step g w g2 w' ∧ ∀ i j, (i, j) ∈ pin → g2.loc j = g.loc i := by
    rintro ⟨ρ, l, hl, hr, hhp, hρ, hdom, hpo⟩
    obtain ⟨v, hv, hrep⟩ := results_run hc h1 hl
    have hsame : ∀ b, (via g' ρ hp').owns b → g'.owns b := fun b ⟨i, L, hL, hvv, hb⟩ => by
      obtain ⟨x, _, q⟩ := via_loc' hL
      exact ⟨x, L, q, hvv, hb⟩
    refine ⟨h1.defers, v, hv, v, via g' ρ hp', rfl, via_rel h1.heap hhp (nodup_of hρ) hdom, ?_, ⟨h2.os, h2.tape, h2.output, h2.size, h2.block, fun b hb => h2.own b (hsame b hb), h2.ro, h2.ro'⟩, fun i j hij => ?_⟩
    · have := rnsOk_rep (g := g') (g' := via g' ρ hp') (w := w') (fun i x hi => via_used hdom hi) (fun i x hi => via_loc hi) (fun _ hb => hb) hr (vs := [v]) (by simp only [RepAs]; exact ⟨v, [], rfl, hrep, rfl⟩)
      exact one_arg this
    · obtain ⟨y, q1, q2, q3⟩ := pinsOk_mem hpo i j hij
      have hty := h1.tmp (fn.ntmps + i)
      rw [q2] at hty
      simp only [RepA] at hty
      obtain ⟨o, ho⟩ := Option.isSome_iff_exists.1 q3
      obtain ⟨M, hM, _⟩ := h1.heap.own y o ho
      rw [via_loc q1, hM, hty.2 M hM, (hpin' i j hij).2]
  cases e with
  | normal => exact done (retX_spec h3)
  | ret => exact done (retX_spec h3)
  | _ => exact h3.elim

section
variable {ty : TypeId → Option TI} {rs : List ResultVar} {n : Nat} {pin : List (Nat × Nat)} {hp' : List (Nat × Ob)} {r : AV} {Ls : Nat → Loc} {s : St} (ρ : List (Nat × Nat))
  (h : match resAs ty s rs with
    | some l => rnsOk ρ [r] [oneOf l] ∧ hpOk s.obj ρ hp' ∧ nodupB (ρ.map (·.2)) = true ∧ ρ.map (·.1) = hp'.map (·.1) ∧ pinsOk s ρ n Ls pin
    | none => False)
include h
theorem rx_r : retX ty rs n pin hp' r Ls .ret s := ⟨ρ, h⟩
theorem rx_n : retX ty rs n pin hp' r Ls .normal s := ⟨ρ, h⟩
end

/-! ### A state seen as another -/
mutual
/-- New names turned into the old ones ('none': a new name for nothing). -/
def up (σ : List (Nat × Option Nat)) : AV → Option AV
  | .any => none
  | .nl => some .nl
  | .d x => some (.d x)
  | .hs id off len => match find σ id with
    | some (some old) => some (.hs old off len)
    | some none => if off = 0 ∧ len = 0 then some .nl else none
    | none => none
  | .ptr id i j => match find σ id with
    | some (some old) => some (.ptr old i j)
    | _ => none
  | .agg l => (upL σ l).map .agg
  | .clo f l => (upL σ l).map (.clo f)
  | .tup l => (upL σ l).map .tup
  | .opt _ _ => none
  | .ub _ _ => none
  | .pin id L => match find σ id with
    | some (some old) => some (.pin old L)
    | _ => none
def upL (σ : List (Nat × Option Nat)) : List AV → Option (List AV)
  | [] => some []
  | a :: as => match up σ a, upL σ as with | some x, some y => some (x :: y) | _, _ => none
end

def upR (σ : List (Nat × Option Nat)) : List (List AV) → Option (List (List AV))
  | [] => some []
  | a :: as => match upL σ a, upR σ as with | some x, some y => some (x :: y) | _, _ => none

theorem upL_map (σ : List (Nat × Option Nat)) (l : List D) : upL σ (l.map AV.d) = some (l.map AV.d) := by
  induction l with
  | nil => rfl
  | cons x l ih => simp [upL, up, ih]

theorem upR_dr (σ : List (Nat × Option Nat)) (l : List (List D)) : upR σ (dr l) = some (dr l) := by
  induction l with
  | nil => rfl
  | cons x l ih =>
    show upR σ (x.map AV.d :: dr l) = some (x.map AV.d :: dr l)
    simp [upR, upL_map, ih]

def upT (σ : List (Nat × Option Nat)) (s : St) : List (Nat × AV) → Prop
  | [] => True
  | (t, v) :: r => (match v with | .any => True | v => up σ v = some (s.get t)) ∧ upT σ s r

def upH (σ : List (Nat × Option Nat)) (s : St) : List (Nat × Option Ob) → Prop
  | [] => True
  | (id, some o') :: r => (match find σ id with
      | some (some old) => ∃ o, s.obj old = some o ∧ o.elem = o'.elem ∧ o.m = o'.m ∧ upR σ o'.rows = some o.rows
      | some none => o'.rows = [] ∧ 0 < o'.m
      | none => False) ∧ upH σ s r
  | (_, none) :: r => upH σ s r

def olds : List (Nat × Option Nat) → List Nat
  | [] => []
  | (_, some o) :: r => o :: olds r
  | (_, none) :: r => olds r

/-- Each new name has an object, and lies below the next free one. -/
def namesOk (s' : St) : List (Nat × Option Nat) → Prop
  | [] => True
  | (id, _) :: r => (s'.obj id).isSome = true ∧ id < s'.nxt ∧ namesOk s' r

def ghost (σ : List (Nat × Option Nat)) (s' : St) (g : G) : G :=
  ⟨g.ro, fun id => match find σ id, s'.obj id with | some (some old), some _ => g.loc old | some none, some o => some ⟨0, o.m, 0, true⟩ | _, _ => none, fun id => (find σ id).isSome = true⟩

theorem namesOk_find {s' : St} : ∀ {σ : List (Nat × Option Nat)}, namesOk s' σ → ∀ id, (find σ id).isSome = true → (s'.obj id).isSome = true ∧ id < s'.nxt
  | [], _, id, h => by simp [find] at h
  | (k, v) :: r, hn, id, h => by
    simp only [namesOk] at hn
    simp only [find] at h
    split at h
    · rename_i e; subst e; exact ⟨hn.1, hn.2.1⟩
    · exact namesOk_find hn.2.2 id h

theorem find_olds : ∀ {σ : List (Nat × Option Nat)} {id old : Nat}, find σ id = some (some old) → old ∈ olds σ
  | [], id, old, h => by simp [find] at h
  | (k, v) :: r, id, old, h => by
    simp only [find] at h
    split at h
    · cases h; simp [olds]
    · cases v <;> simp only [olds]
      · exact find_olds h
      · exact List.mem_cons_of_mem _ (find_olds h)

theorem find_inj : ∀ {σ : List (Nat × Option Nat)} {a b old : Nat}, (olds σ).Nodup → find σ a = some (some old) → find σ b = some (some old) → a = b
  | [], a, b, old, _, h, _ => by simp [find] at h
  | (k, v) :: r, a, b, old, hn, h1, h2 => by
    simp only [find] at h1 h2
    cases v with
    | none =>
      simp only [olds] at hn
      split at h1
      · cases h1
      · split at h2
        · cases h2
        · exact find_inj hn h1 h2
    | some o =>
      simp only [olds, List.nodup_cons] at hn
      split at h1
      · rename_i e1
        cases h1
        split at h2
        · rename_i e2; rw [← e1, ← e2]
        · exact absurd (find_olds h2) hn.1
      · split at h2
        · cases h2
          exact absurd (find_olds h1) hn.1
        · exact find_inj hn.2 h1 h2

mutual
theorem up_rep {σ : List (Nat × Option Nat)} {s' : St} {g : G} {w : World} (hn : namesOk s' σ) : ∀ (x y : AV) (v : Value), up σ x = some y → RepA g w y v → RepA (ghost σ s' g) w x v
  | .any, y, v, hx, _ => by simp [up] at hx
  | .opt _ _, y, v, hx, _ => by simp [up] at hx
  | .ub _ _, y, v, hx, _ => by simp [up] at hx
  | .pin id L0, y, v, hx, h => by
    simp only [up] at hx
    cases hf : find σ id with
    | none => rw [hf] at hx; cases hx
    | some q =>
      obtain ⟨o', ho'⟩ := Option.isSome_iff_exists.1 (namesOk_find hn id (by rw [hf]; rfl)).1
      cases q with
      | some old =>
        rw [hf] at hx
        cases hx
        simp only [RepA] at h ⊢
        refine ⟨by simp [ghost, hf], fun L hL => h.2 L ?_⟩
        simpa [ghost, hf, ho'] using hL
      | none => rw [hf] at hx; cases hx
  | .nl, y, v, hx, h => by simp [up] at hx; subst hx; simpa [RepA] using h
  | .d x, y, v, hx, h => by simp [up] at hx; subst hx; simpa [RepA, ghost] using h
  | .hs id off len, y, v, hx, h => by
    simp only [up] at hx
    cases hf : find σ id with
    | none => rw [hf] at hx; cases hx
    | some q =>
      obtain ⟨o', ho'⟩ := Option.isSome_iff_exists.1 (namesOk_find hn id (by rw [hf]; rfl)).1
      cases q with
      | some old =>
        rw [hf] at hx
        cases hx
        simp only [RepA] at h ⊢
        refine ⟨⟨by simp [ghost, hf], h.1.2⟩, fun L hL => h.2 L ?_⟩
        simpa [ghost, hf, ho'] using hL
      | none =>
        rw [hf] at hx
        simp only at hx
        split at hx
        · rename_i e
          cases hx
          obtain ⟨rfl, rfl⟩ := e
          simp only [RepA] at h ⊢
          subst h
          refine ⟨⟨by simp [ghost, hf], rfl⟩, fun L hL => ?_⟩
          simp only [ghost, hf, ho', Option.some.injEq] at hL
          subst hL
          exact .inl ⟨by trivial, by trivial, by trivial, by trivial⟩
        · cases hx
  | .ptr id i j, y, v, hx, h => by
    simp only [up] at hx
    cases hf : find σ id with
    | none => rw [hf] at hx; cases hx
    | some q =>
      obtain ⟨o', ho'⟩ := Option.isSome_iff_exists.1 (namesOk_find hn id (by rw [hf]; rfl)).1
      cases q with
      | some old =>
        rw [hf] at hx
        cases hx
        simp only [RepA] at h ⊢
        refine ⟨⟨by simp [ghost, hf], h.1.2⟩, fun L hL => h.2 L ?_⟩
        simpa [ghost, hf, ho'] using hL
      | none => rw [hf] at hx; cases hx
  | .agg l, y, v, hx, h => by
    simp only [up, Option.map_eq_some_iff] at hx
    obtain ⟨l', hl', rfl⟩ := hx
    simp only [RepA] at h ⊢
    obtain ⟨vs, hv, ho, hr⟩ := h
    exact ⟨vs, hv, ho, upL_rep hn l l' vs hl' hr⟩
  | .clo f l, y, v, hx, h => by
    simp only [up, Option.map_eq_some_iff] at hx
    obtain ⟨l', hl', rfl⟩ := hx
    simp only [RepA] at h ⊢
    obtain ⟨vs, hv, hr⟩ := h
    exact ⟨vs, hv, upL_rep hn l l' vs hl' hr⟩
  | .tup l, y, v, hx, h => by
    simp only [up, Option.map_eq_some_iff] at hx
    obtain ⟨l', hl', rfl⟩ := hx
    simp only [RepA] at h ⊢
    obtain ⟨vs, hv, hr⟩ := h
    exact ⟨vs, hv, upL_rep hn l l' vs hl' hr⟩
theorem upL_rep {σ : List (Nat × Option Nat)} {s' : St} {g : G} {w : World} (hn : namesOk s' σ) : ∀ (x y : List AV) (v : List Value), upL σ x = some y → RepAs g w y v → RepAs (ghost σ s' g) w x v
  | [], y, v, hx, h => by simp [upL] at hx; subst hx; simpa [RepAs] using h
  | a :: as, y, v, hx, h => by
    simp only [upL] at hx
    cases h1 : up σ a with
    | none => rw [h1] at hx; cases hx
    | some b =>
      cases h2 : upL σ as with
      | none => rw [h1, h2] at hx; cases hx
      | some bs =>
        rw [h1, h2] at hx
        cases hx
        simp only [RepAs] at h ⊢
        obtain ⟨u, us, rfl, k1, k2⟩ := h
        exact ⟨u, us, rfl, up_rep hn a b u h1 k1, upL_rep hn as bs us h2 k2⟩
end

theorem upR_get {σ : List (Nat × Option Nat)} : ∀ {x y : List (List AV)}, upR σ x = some y → x.length = y.length ∧ ∀ (i : Nat) (r : List AV), x[i]? = some r → ∃ r', y[i]? = some r' ∧ upL σ r = some r'
  | [], y, h => by simp [upR] at h; subst h; exact ⟨rfl, fun i r hi => by simp at hi⟩
  | a :: as, y, h => by
    simp only [upR] at h
    cases h1 : upL σ a with
    | none => rw [h1] at h; cases h
    | some b =>
      cases h2 : upR σ as with
      | none => rw [h1, h2] at h; cases h
      | some bs =>
        rw [h1, h2] at h
        cases h
        obtain ⟨k1, k2⟩ := upR_get h2
        refine ⟨by simp [k1], fun i r hi => ?_⟩
        cases i with
        | zero => simp at hi; subst hi; exact ⟨b, by simp, h1⟩
        | succ i => simp at hi; obtain ⟨r', hr', hu⟩ := k2 i r hi; exact ⟨r', by simpa using hr', hu⟩

theorem upL_length {σ : List (Nat × Option Nat)} : ∀ {x y : List AV}, upL σ x = some y → x.length = y.length
  | [], y, h => by simp [upL] at h; subst h; rfl
  | a :: as, y, h => by
    simp only [upL] at h
    cases h1 : up σ a with
    | none => rw [h1] at h; cases h
    | some b =>
      cases h2 : upL σ as with
      | none => rw [h1, h2] at h; cases h
      | some bs => rw [h1, h2] at h; cases h; simp [upL_length h2]

theorem upL_get {σ : List (Nat × Option Nat)} : ∀ {x y : List AV}, upL σ x = some y → ∀ (i : Nat) (r : AV), x[i]? = some r → ∃ r', y[i]? = some r' ∧ up σ r = some r'
  | [], y, h => fun i r hi => by simp at hi
  | a :: as, y, h => by
    simp only [upL] at h
    cases h1 : up σ a with
    | none => rw [h1] at h; cases h
    | some b =>
      cases h2 : upL σ as with
      | none => rw [h1, h2] at h; cases h
      | some bs =>
        rw [h1, h2] at h
        cases h
        intro i r hi
        cases i with
        | zero => simp at hi; subst hi; exact ⟨b, by simp, h1⟩
        | succ i => simp at hi; obtain ⟨r', hr', hu⟩ := upL_get h2 i r hi; exact ⟨r', by simpa using hr', hu⟩

theorem upT_find {σ : List (Nat × Option Nat)} {s : St} : ∀ {tm : List (Nat × AV)}, upT σ s tm → ∀ t v, find tm t = some v → v = .any ∨ up σ v = some (s.get t)
  | [], _, t, v, h => by simp [find] at h
  | (k, x) :: r, hu, t, v, h => by
    simp only [upT] at hu
    simp only [find] at h
    split at h
    · rename_i e
      subst e
      cases h
      cases x
      case any => exact .inl rfl
      all_goals exact .inr hu.1
    · exact upT_find hu.2 t v h

theorem upH_find {σ : List (Nat × Option Nat)} {s : St} : ∀ {hp : List (Nat × Option Ob)}, upH σ s hp → ∀ id o', find hp id = some (some o') → (match find σ id with
      | some (some old) => ∃ o, s.obj old = some o ∧ o.elem = o'.elem ∧ o.m = o'.m ∧ upR σ o'.rows = some o.rows
      | some none => o'.rows = [] ∧ 0 < o'.m
      | none => False)
  | [], _, id, o', h => by simp [find] at h
  | (k, x) :: r, hu, id, o', h => by
    simp only [find] at h
    split at h
    · rename_i e
      subst e
      cases h
      simp only [upH] at hu
      exact hu.1
    · cases x <;> simp only [upH] at hu
      · exact upH_find hu id o' h
      · exact upH_find hu.2 id o' h

/-- A STATE SEEN AS ANOTHER: fewer temporaries known, objects forgotten or renamed. -/
theorem weak_of {s s' : St} (σ : List (Nat × Option Nat)) (hn : s'.n = s.n) (htm : upT σ s s'.tm) (hhp : upH σ s s'.hp) (hnames : namesOk s' σ) (hinj : (olds σ).Nodup) : Weak s s' := by
  intro g a w h
  have hloc : ∀ id L, (ghost σ s' g).loc id = some L → (∃ old, find σ id = some (some old) ∧ g.loc old = some L) ∨ (L.virt = true ∧ find σ id = some none) := by
    intro id L hL
    simp only [ghost] at hL
    split at hL
    · rename_i old o h1 h2; exact .inl ⟨old, h1, hL⟩
    · rename_i o h1 h2; cases hL; exact .inr ⟨rfl, h1⟩
    · cases hL
  refine ⟨ghost σ s' g, ⟨h.defers, by rw [h.size, hn], fun t => ?_, fun id hu => (namesOk_find hnames id hu).2, ⟨?_, ?_, ?_, ?_, h.heap.ro⟩⟩, ⟨rfl, ⟨rfl, Nat.le_refl _⟩, rfl, Nat.le_refl _, fun _ _ _ => rfl, ?_, fun _ hb => hb, fun _ hb => .inl hb⟩⟩
  · cases hf : find s'.tm t with
    | none => simp [St.get, hf, RepA]
    | some v =>
      have : s'.get t = v := by simp [St.get, hf]
      rw [this]
      rcases upT_find htm t v hf with rfl | hu
      · simp [RepA]
      · exact up_rep hnames v _ _ hu (h.tmp t)
  · intro id o' ho'
    have hf : find s'.hp id = some (some o') := by
      unfold St.obj at ho'
      cases hq : find s'.hp id with
      | none => rw [hq] at ho'; cases ho'
      | some q => rw [hq] at ho'; simp at ho'; rw [ho']
    have hm := upH_find hhp id o' hf
    cases hσ : find σ id with
    | none => rw [hσ] at hm; exact hm.elim
    | some q =>
      cases q with
      | none =>
        rw [hσ] at hm
        refine ⟨⟨0, o'.m, 0, true⟩, by simp [ghost, hσ, ho'], rfl, hm.2, by simp [hm.1], fun _ => hm.1, by simp⟩
      | some old =>
        rw [hσ] at hm
        obtain ⟨o, h1, h2, h3, h4⟩ := hm
        obtain ⟨L, hL, hok⟩ := h.heap.own old o h1
        obtain ⟨k1, k2⟩ := upR_get h4
        refine ⟨L, by simp [ghost, hσ, ho', hL], by rw [hok.m, h3], hok.pos, by rw [k1]; exact hok.len, fun hv => ?_, fun hv => ?_⟩
        · have := hok.virt hv
          rw [this] at k1
          exact List.eq_nil_of_length_eq_zero (by simpa using k1)
        · obtain ⟨cur, c1, c2, c3, c5⟩ := hok.cells hv
          refine ⟨cur, by rw [← h2]; exact c1, c2, c3, fun i row hi => ?_⟩
          obtain ⟨r', hr', hu⟩ := k2 i row hi
          obtain ⟨d1, d2⟩ := c5 i r' hr'
          refine ⟨by rw [upL_length hu]; exact d1, fun j av hj => ?_⟩
          obtain ⟨av', hav', huv⟩ := upL_get hu j av hj
          obtain ⟨v, hv', ho, hr⟩ := d2 j av' hav'
          exact ⟨v, hv', ho, up_rep hnames av av' v huv hr⟩
  · intro id hid
    simp only [ghost, hid]
    cases find σ id with
    | none => rfl
    | some q => cases q <;> rfl
  · intro id L hL
    rcases hloc id L hL with ⟨old, h1, h2⟩ | ⟨h1, h2⟩
    · exact ⟨by simp [ghost, h1], (h.heap.live old L h2).2⟩
    · exact ⟨by simp [ghost, h2], fun hv => by rw [h1] at hv; cases hv⟩
  · intro x y L L' hx hy hv hv' hb
    rcases hloc x L hx with ⟨o1, a1, b1⟩ | ⟨a1, _⟩
    · rcases hloc y L' hy with ⟨o2, a2, b2⟩ | ⟨a2, _⟩
      · have := h.heap.inj o1 o2 L L' b1 b2 hv hv' hb
        subst this
        exact find_inj hinj a1 a2
      · rw [a2] at hv'; cases hv'
    · rw [a1] at hv; cases hv
  · rintro b ⟨x, L, hx, hv, rfl⟩
    rcases hloc x L hx with ⟨o1, a1, b1⟩ | ⟨a1, _⟩
    · exact .inr ⟨o1, L, b1, hv, rfl⟩
    · rw [a1] at hv; cases hv


/-! ### Small rules for the walk -/
theorem awp_while {P : Program} {Q : Exit → St → Prop} {s : St} {c : Operand} {i : Nat} {y : Code} {b : Bool} (hc : s.eval c = .d (.bool b)) (ht : b = true → AWp P y Q s) (hf : b = false → Q (.exit i) s) : AWp P (.seq (.cond c .skip (.exit i)) y) Q s :=
  awp_seq (awp_cond hc (fun hb => awp_skip (ht hb)) (fun hb => awp_exit (hf hb)))

theorem awp_if {P : Program} {Q : Exit → St → Prop} {s : St} {c : Operand} {x y z : Code} {b : Bool} (hc : s.eval c = .d (.bool b)) (ht : b = true → AWp P x (seqQ (fun s' => AWp P z Q s') Q) s) (hf : b = false → AWp P y (seqQ (fun s' => AWp P z Q s') Q) s) : AWp P (.seq (.cond c x y) z) Q s :=
  awp_seq (awp_cond hc ht hf)

theorem awp_seq_assoc {P : Program} {Q : Exit → St → Prop} {s : St} {x y z : Code} (h : AWp P x (seqQ (fun s' => AWp P y (seqQ (fun s' => AWp P z Q s') Q) s') (seqQ (fun s' => AWp P z Q s') Q)) s) : AWp P (.seq (.seq x y) z) Q s :=
  awp_seq (awp_seq h)

theorem wrap_i64 {n : Int} (h1 : -9223372036854775808 ≤ n) (h2 : n ≤ 9223372036854775807) : IntKind.i64.wrap n = n := by
  rw [IntKind.wrap_i64]; omega

theorem dr_length (l : List (List D)) : (dr l).length = l.length := by simp [dr]
theorem dr_nil : dr [] = [] := rfl
theorem dr_cons (r : List D) (l : List (List D)) : dr (r :: l) = r.map AV.d :: dr l := rfl
theorem dr_append (a b : List (List D)) : dr (a ++ b) = dr a ++ dr b := by simp [dr]
theorem dr_at (l : List (List D)) (i : Nat) : (dr l)[i]? = (l[i]?).map fun r => r.map AV.d := by simp [dr]
theorem dr_take (l : List (List D)) (n : Nat) : (dr l).take n = dr (l.take n) := by simp [dr, List.map_take]
theorem dr_drop (l : List (List D)) (n : Nat) : (dr l).drop n = dr (l.drop n) := by simp [dr, List.map_drop]
theorem dr_set (l : List (List D)) (n : Nat) (r : List D) : dr (l.set n r) = (dr l).set n (r.map AV.d) := by simp [dr, List.map_set]

theorem upR_app (σ : List (Nat × Option Nat)) (b : List (List AV)) : ∀ a : List (List D), upR σ (dr a ++ b) = (upR σ b).map (dr a ++ ·)
  | [] => by show upR σ b = _; cases upR σ b <;> rfl
  | r :: a => by
    show upR σ (r.map AV.d :: (dr a ++ b)) = _
    simp only [upR, upL_map, upR_app σ b a]
    cases upR σ b <;> rfl
def upRS (σ : List (Nat × Option Nat)) (l : List (List D)) (k : Nat) (r : List AV) : Option (List (List AV)) := upR σ ((dr l).set k r)
theorem upR_set1 {σ : List (Nat × Option Nat)} {r r' : List AV} (h : upL σ r = some r') : ∀ (l : List (List D)) (k : Nat), upR σ ((dr l).set k r) = some ((dr l).set k r')
  | [], k => rfl
  | x :: l, 0 => by
    show upR σ (r :: dr l) = some (r' :: dr l)
    simp only [upR, h, upR_dr]
  | x :: l, k + 1 => by
    show upR σ (x.map AV.d :: (dr l).set k r) = some (x.map AV.d :: (dr l).set k r')
    simp only [upR, upL_map, upR_set1 h l k]
theorem upR_set (σ : List (Nat × Option Nat)) (r : List AV) (l : List (List D)) (k : Nat) : upR σ ((dr l).set k r) = match upL σ r with | some r' => some ((dr l).set k r') | none => upRS σ l k r := by
  cases h : upL σ r with
  | none => rfl
  | some r' => exact upR_set1 h l k
theorem rowsD_app (b : List (List AV)) : ∀ a : List (List D), rowsD (dr a ++ b) = (rowsD b).map (a ++ ·)
  | [] => by show rowsD b = _; cases rowsD b <;> rfl
  | r :: a => by
    show rowsD (r.map AV.d :: (dr a ++ b)) = _
    simp only [rowsD, allD_map, rowsD_app b a]
    cases rowsD b <;> rfl

section
variable {K : St → Prop} {Q : Exit → St → Prop} {s : St} {id i : Nat}
theorem sq_n (h : K s) : seqQ K Q .normal s := h
theorem sq_r (h : Q .ret s) : seqQ K Q .ret s := h
theorem sq_x (h : Q (.exit i) s) : seqQ K Q (.exit i) s := h
theorem bq_n (h : Q .normal s) : blockQ id Q .normal s := h
theorem bq_r (h : Q .ret s) : blockQ id Q .ret s := h
theorem bq_x (h : Q .normal s) : blockQ id Q (.exit id) s := by simp only [blockQ, if_true]; exact h
theorem bq_y (hn : Nat.beq i id = false) (h : Q (.exit i) s) : blockQ id Q (.exit i) s := by
  have : i ≠ id := fun e => by rw [e, Nat.beq_refl] at hn; cases hn
  simp only [blockQ, if_neg this]; exact h
theorem pq_n (h : Q .normal s) : scopeQ Q .normal s := h
theorem pq_r (h : Q .ret s) : scopeQ Q .ret s := h
theorem pq_x (h : Q (.exit i) s) : scopeQ Q (.exit i) s := h

/-- A bool of which only a part is known: both ways. -/
theorem awp_ub {P : Program} {c : Code} (t : Nat) {p q : Bool} (ht : s.get t = .ub p q) (h : ∀ b, (b = true → p = true) → (b = false → q = true) → AWp P c Q { s with tm := (t, .d (.bool b)) :: s.tm }) : AWp P c Q s := by
  intro g a w hr
  have hv := hr.tmp t
  rw [ht] at hv
  simp only [RepA] at hv
  obtain ⟨b, hb, h1, h2⟩ := hv
  refine h b h1 h2 g a w ⟨hr.defers, hr.size, fun k => ?_, hr.used, hr.heap⟩
  unfold St.get
  simp only [find]
  split
  · rename_i e
    subst e
    simp only [Option.getD_some, RepA, RepD]
    exact hb
  · exact hr.tmp k

/-- Several ways through a piece of code meet in one family of states. -/
theorem awp_cut {P : Program} {x y : Code} {β : Type} (I : β → St) (inv : β → Prop) (h : AWp P x (seqQ (fun s' => ∃ b, inv b ∧ Weak s' (I b)) Q) s) (hy : ∀ b, inv b → AWp P y Q (I b)) : AWp P (.seq x y) Q s := by
  refine awp_seq fun g a w hr => wp_mono (h g a w hr) fun e a' w' ⟨s', g', h1, h2, h3⟩ => ⟨s', g', h1, h2, ?_⟩
  cases e with
  | normal =>
    obtain ⟨b, hb, hw⟩ := h3
    exact awp_weak hw (hy b hb)
  | _ => exact h3
end

end Go.Abs
