/-
  The abstract machine: a function whose body holds a range over a function.
-/
import Derived.Test.YtmfkfgonedgjnaaAbsW
set_option linter.unusedVariables false
set_option linter.unusedSimpArgs false
namespace Go.Abs
open Go.RowKit

/-- What a return gives. -/
theorem ret_done {P : Program} {ty : TypeId → Option TI} (hc : Ctx P ty) {fn : Func} {ro : Nat → Prop} {w w' : World} {s' : St} {g' : G} {a' : Act} {r : Res} (h1 : RelS s' g' a' w') (h2 : Step ⟨ro, fun _ => none, fun _ => False⟩ w g' w') :
    (∃ l, resAs ty s' fn.results.toList = some l ∧ resOk s' (oneOf l) r) → ∃ v, (results fn a'.tmps).run P w' = .ok v w' ∧ ∃ v', Ending.returned v = .returned v' ∧ Below w.heap.size w w' ∧ RepRes ro w.heap.size w' r v' := by
  rintro ⟨l, hl, hok⟩
  obtain ⟨v, hv, hrep⟩ := results_run hc h1 hl
  refine ⟨v, hv, v, rfl, ⟨h2.os, h2.tape, h2.output, h2.size, fun k hk => h2.block k hk (by rintro ⟨_, _, h, _⟩; cases h)⟩, ?_⟩
  have hro' : ∀ b, g'.ro b → ro b ∨ (w.heap.size ≤ b ∧ b < w'.heap.size) := fun b hb => by
    rcases h2.ro' b hb with hh | hh | ⟨_, _, hh, _⟩
    · exact .inl hh
    · exact .inr ⟨hh, h1.heap.ro b hb⟩
    · cases hh
  have hown' : ∀ b, g'.owns b → w.heap.size ≤ b ∧ b < w'.heap.size := fun b hb => by
    refine ⟨?_, ?_⟩
    · rcases h2.own b hb with hh | ⟨_, _, hh, _⟩
      · exact hh
      · cases hh
    · obtain ⟨x, L, hx, hvx, rfl⟩ := hb
      exact ((h1.heap.live x L hx).2 hvx).1
  cases r with
  | x c => exact (show False from hok).elim
  | skip => exact (show False from hok).elim
  | ub b => exact (show False from hok).elim
  | f d =>
    simp only [resOk] at hok
    split at hok
    · rename_i y hy
      obtain ⟨d', p⟩ := y
      obtain ⟨rfl, hp⟩ := hok
      simp only [RepRes]
      exact RepD.mono (fun b hb => ⟨hown' b hb, rfl⟩) d' v (snapF_sound h1.heap _ _ _ _ hy hp hrep)
    · exact hok.elim
  | p d =>
    obtain ⟨p, b, hs, hp⟩ := resOk_p hok
    obtain ⟨k1, _⟩ := snap_sound h1.heap _ _ _ _ _ hs hp hrep
    simp only [RepRes]
    exact RepD.mono (fun b hb => ⟨hb.elim (hro' b) fun ho => .inr (hown' b ho), rfl⟩) d v k1
  | o e m rows =>
    simp only [RepRes, OwnRes]
    rcases resOk_o hok with ⟨hx, rfl, hm⟩ | ⟨id, len, o, R, hx, hob, rfl, rfl, hR, rfl, hlen⟩
    · rw [hx] at hrep
      simp only [RepA] at hrep
      exact ⟨hm, .inl ⟨rfl, hrep⟩⟩
    · rw [hx] at hrep
      obtain ⟨L, hL, hok⟩ := h1.heap.own id o hob
      refine ⟨by rw [← hok.m]; exact hok.pos, ?_⟩
      simp only [RepA] at hrep
      rcases hrep.2 L hL with ⟨_, _, rfl, hv'⟩ | ⟨hvirt, hle, hv'⟩
      · exact .inl ⟨by simp, hv'⟩
      · obtain ⟨cur, c1, c2, c3, c5⟩ := hok.cells hvirt
        have hlenR : (R.take len).length = len := by simp; omega
        refine .inr ⟨L.blk, L.cap, cur, (hown' _ ⟨id, L, hL, hvirt, rfl⟩).1, by rw [hv', hlenR]; simp, c1, by rw [hlenR]; omega, c3, by rw [c2, hok.m], fun i row hi => ?_⟩
        rw [List.getElem?_take] at hi
        split at hi
        · obtain ⟨arow, harow, had⟩ := rowsD_get hR i row hi
          obtain ⟨d1, d2⟩ := c5 i arow harow
          obtain ⟨us, hul, hur, huc⟩ := hok.row hvirt harow
          have hds := RepAs.allD had hur
          refine ⟨by rw [← hds.length, hul, hok.m], fun j d hj => ?_⟩
          obtain ⟨u, hu, hru⟩ := hds.get j d hj
          obtain ⟨hcell, hone⟩ := huc j u hu
          have hcu : cur[i * o.m + j]? = some u := by
            rw [← hok.m]
            simp only [World.cell?, c1] at hcell
            simpa using hcell
          refine ⟨u, hcu, hone, RepD.mono (fun b hb => ⟨?_, rfl⟩) d u hru⟩
          rcases hro' b hb with hh | hh
          · exact .inl hh
          · exact .inr ⟨hh.1, hh.2, fun e' => ((h1.heap.live id L hL).2 hvirt).2 (e' ▸ hb)⟩
        · cases hi

/-- Operations do not look at the activation's deferred calls. -/
def _root_.Go.Act.bare (a : Act) : Act := { a with defers := [] }
theorem op_defers {F : Fence} {n : Nat} (hF : Free F n) {P : Program} {o : Oper} {a : Act} {ds : List Deferred} {w : World} {K K' : Act → World → Prop} {Q' : Exit → Act → World → Prop} (hd : ∀ c, o.op ≠ .defer c)
    (hK : ∀ a w, K a w → a.defers = [] ∧ K' { a with defers := ds } w) (h : o.wp P a w K (fun _ _ _ => False)) : o.wpIn F n P { a with defers := ds } w K' Q' := by
  refine ⟨fun _ _ => hF.fn _, ?_⟩
  have hs : o.semAt F.round (Act.eval { a with defers := ds }) = execOp a.eval o := by
    have he : Act.eval { a with defers := ds } = a.eval := by funext x; cases x <;> rfl
    rw [he]; exact Oper.semAt_eq _ _ _ hd
  rw [hs]
  have hput : ∀ v, Act.put { a with defers := ds } o.dst v = { a.put o.dst v with defers := ds } := fun v => by cases o.dst <;> rfl
  unfold Oper.wp at h
  generalize (execOp a.eval o).run P w = r at *
  cases r with
  | ok x w' =>
    cases x <;> simp only [Oper.upon, Oper.uponIn] at h ⊢
    case value v => rw [hput]; exact (hK _ _ h).2
    case skip => rw [hput]; exact (hK _ _ h).2
    case defer d =>
      have h2 := (hK _ _ h).1
      cases ho : o.dst <;> simp [Act.put, ho] at h2
    case enter f args =>
      refine ⟨fun hh => absurd hh (by rw [hF.depth]; exact Bool.false_ne_true), (hF.calls h).mono fun e w'' he => ?_⟩
      cases e with
      | returned v => simp only at he ⊢; rw [hput]; exact (hK _ _ he).2
      | panicked ch => exact he.elim
      | outgrown => obtain ⟨_, _, hh⟩ := he; exact hh.elim
    case row row args =>
      refine ⟨fun hh => absurd hh (by rw [hF.depth]; exact Bool.false_ne_true), (hF.rows h).mono fun v w'' he => ?_⟩
      rw [hput]; exact (hK _ _ he).2
  | halt x w' => cases x <;> simp only [Oper.upon, Oper.uponIn] at h ⊢ <;> exact h.elim

theorem wpT_soundM {F : Fence} {n : Nat} (hF : Free F n) {ds : List Deferred} {P : Program} {ty : TypeId → Option TI} (hc : Ctx P ty) {orc : List (Nat × Res)} {gs : List (Option Tmp)} {ops : Array Oper} (hgs : ∀ j : Nat, gs[j]? = (ops[j]?).map fun o : Oper => o.dst) {base nxt : Nat} {Q : Exit → Act → World → Prop} {K : St → Prop} {g0 : G} {w0 : World}
    {l2 : List Oper} {en n0 : Nat} (hQ : ∀ s g a w, s.nxt = nxt → s.n = n0 → Rel (· < base + en) g s.get s.obj s.n a w → Step g0 w0 g w → K s → wpListIn F n P ops Q l2 { a with defers := ds } w) :
    ∀ (l : List Oper) (i : Nat) (s : St) (g : G) (a : Act) (w : World), noDefer l = true → i + l.length = en → s.nxt = nxt → s.n = n0 → Rel (· < base + i) g s.get s.obj s.n a w → Step g0 w0 g w → wpT ty P orc gs base i l s K → wpListIn F n P ops Q (l ++ l2) { a with defers := ds } w
  | [], i, s, g, a, w, _, hle, hnx, hn0, h, hs, hk => hQ s g a w hnx hn0 (by simp at hle; rw [← hle]; exact h) hs hk
  | o :: rest, i, s, g, a, w, hdf, hle, hnx, hn0, h, hs, hk => by
    simp only [List.length_cons] at hle
    have hputd : ∀ v, Act.put { a with defers := ds } o.dst v = { a.put o.dst v with defers := ds } := fun v => by cases o.dst <;> rfl
    have hdo := noDefer_mem hdf (o := o) (by simp)
    have hdr : noDefer rest = true := by simp only [noDefer, List.all_cons, Bool.and_eq_true] at hdf; exact hdf.2
    have hargs : RepAs g w (o.op.operands.toList.map s.eval) (o.op.operands.toList.map a.eval) := by
      refine RepAs.of_get (by simp) fun j av hj => ?_
      rw [List.getElem?_map] at hj ⊢
      cases hx : o.op.operands.toList[j]? with
      | none => rw [hx] at hj; cases hj
      | some x => rw [hx] at hj; cases hj; exact ⟨a.eval x, rfl, eval_rep h (fun _ => rfl) x⟩
    have relapp : ∀ (e : Eff) (g' : G) (a' : Act) (w' : World), Rel (fun k => k < base + i ∨ k = base + i) g' (putG s.get o.dst e.val) (updL s.obj e.wr) s.n a' w' → Rel (· < base + (i + 1)) g' (s.app o.dst e).get (s.app o.dst e).obj (s.app o.dst e).n a' w' := by
      intro e g' a' w' hr
      have hn : (s.app o.dst e).n = s.n := by unfold St.app St.put; cases o.dst <;> rfl
      rw [hn]
      exact ⟨hr.defers, hr.size, fun t => by rw [app_get]; exact hr.tmp t, fun id hu => by
        have := hr.used id hu
        show id < base + (i + 1)
        rcases this with hh | hh <;> omega, by
        have : (s.app o.dst e).obj = updL s.obj e.wr := funext (app_obj s o.dst e)
        rw [this]; exact hr.heap⟩
    have hnapp : ∀ e, (s.app o.dst e).nxt = nxt := fun e => by rw [← hnx]; unfold St.app St.put; cases o.dst <;> rfl
    have hna : ∀ e, (s.app o.dst e).n = s.n := fun e => by unfold St.app St.put; cases o.dst <;> rfl
    have hnput : ∀ v, (s.put o.dst v).nxt = nxt := fun v => by rw [← hnx]; unfold St.put; cases o.dst <;> rfl
    have hnn : ∀ v, (s.put o.dst v).n = s.n := fun v => by unfold St.put; cases o.dst <;> rfl
    have relput : ∀ (v : AV) (g' : G) (a' : Act) (w' : World) (U : Nat → Prop), (∀ k, U k → k < base + (i + 1)) → Rel U g' (putG s.get o.dst v) s.obj s.n a' w' → Rel (· < base + (i + 1)) g' (s.put o.dst v).get (s.put o.dst v).obj (s.put o.dst v).n a' w' := by
      intro v g' a' w' U hU hr
      rw [hnn]
      have := hr.congr (get' := (s.put o.dst v).get) (obj' := (s.put o.dst v).obj) (fun t => St.get_put s o.dst v t) (fun id => put_obj s o.dst v id)
      exact ⟨this.defers, this.size, this.tmp, fun k hk => hU k (this.used k hk), this.heap⟩
    have skipped : ∀ v, (∀ d, o.dst = some d → d < s.n) → RepA g w v undef → wpT ty P orc gs base (i + 1) rest (s.put o.dst v) K → wpListIn F n P ops Q (rest ++ l2) { a.put o.dst undef with defers := ds } w := by
      intro v hd hv hrest
      have hr := rel_put (U' := (· < base + i)) (dst := o.dst) (v := v) (u := undef) h h.heap ⟨fun b hb => ⟨hb, rfl⟩, fun _ hx => hx, fun _ _ => .inl rfl⟩ (fun k hk => h.used k hk) hv hd
      exact wpT_soundM hF (nxt := nxt) hc hgs hQ rest (i + 1) _ g _ w hdr (by omega) (hnput v) ((hnn v).trans hn0) (relput v g _ w _ (fun k hk => by omega) hr) hs hrest
    simp only [List.cons_append, wpListIn]
    unfold wpT at hk
    split at hk
    · rename_i hg
      have hw : Region.wanted o (yielded ops a.tmps) = true := by simp [Region.wanted, hg]
      rw [if_pos hw]
      unfold doOp at hk
      split at hk
      · rename_i e he
        obtain ⟨hob, hd, hrest⟩ := hk
        exact op_defers hF hdo (fun _ _ hk => hk) <| op_step hc (K := fun a' w' => a'.defers = [] ∧ wpListIn F n P ops Q (rest ++ l2) { a' with defers := ds } w') (Q := fun _ _ _ => False) (nid := base + i) h (by simp) hargs he hob (fun d hd' => by rw [hd'] at hd; exact hd) fun g' a' w' hr hst =>
          ⟨hr.defers, wpT_soundM hF (nxt := nxt) hc hgs hQ rest (i + 1) (s.app o.dst e) g' a' w' hdr (by omega) (hnapp e) ((hna e).trans hn0) (relapp e g' a' w' hr) (hs.trans hst) hrest⟩
      · exact hk.elim
    · rename_i j want hg
      split at hk
      · rename_i x hgv
        have hw := guard_wanted (a := a) hgs h.tmp hg hgv
        rw [hw]
        obtain ⟨hd, hk⟩ := hk
        have hd' : ∀ d, o.dst = some d → d < s.n := fun d hd' => by rw [hd'] at hd; exact hd
        split at hk
        · rename_i e he
          split at hk
          · rename_i hwr
            obtain ⟨hexec, hrest⟩ := hk
            cases x with
            | true =>
              rw [if_pos rfl]
              obtain ⟨hso, hob⟩ := hexec rfl
              refine op_defers hF hdo (fun _ _ hk => hk) <| op_step hc (K := fun a' w' => a'.defers = [] ∧ wpListIn F n P ops Q (rest ++ l2) { a' with defers := ds } w') (Q := fun _ _ _ => False) (nid := base + i) h (by simp) (strips_repG hargs hso) he hob hd' fun g' a' w' hr hst => ?_
              refine ⟨hr.defers, ?_⟩
              rw [hwr] at hr
              exact wpT_soundM hF (nxt := nxt) hc hgs hQ rest (i + 1) _ g' a' w' hdr (by omega) (hnput _) ((hnn _).trans hn0) (relput _ g' a' w' _ (fun k hk => by rcases hk with hh | hh <;> omega) hr.opt) (hs.trans hst) hrest
            | false =>
              rw [if_neg (by simp)]
              exact ⟨fun _ _ => hF.fn _, by rw [hputd]; exact skipped _ hd' (by simp [RepA]) hrest⟩
          · obtain ⟨rfl, hso, hob, hrest⟩ := hk
            rw [if_pos rfl]
            exact op_defers hF hdo (fun _ _ hk => hk) <| op_step hc (K := fun a' w' => a'.defers = [] ∧ wpListIn F n P ops Q (rest ++ l2) { a' with defers := ds } w') (Q := fun _ _ _ => False) (nid := base + i) h (by simp) (strips_repG hargs hso) he hob hd' fun g' a' w' hr hst =>
              ⟨hr.defers, wpT_soundM hF (nxt := nxt) hc hgs hQ rest (i + 1) (s.app o.dst e) g' a' w' hdr (by omega) (hnapp e) ((hna e).trans hn0) (relapp e g' a' w' hr) (hs.trans hst) hrest⟩
        · obtain ⟨rfl, hrest⟩ := hk
          rw [if_neg (by simp)]
          exact ⟨fun _ _ => hF.fn _, by rw [hputd]; exact skipped _ hd' (by simp [RepA]) hrest⟩
      · exact hk.elim




/-- The activation's marks: none, or that of the one loop that is behind us. -/
def Mk (w0 : World) (b : Bool) (a : Act) (g : G) (w : World) : Prop :=
  (b = false ∧ a.defers = []) ∨ (b = true ∧ ∃ D, a.defers = [{ target := .collected D, args := #[] }] ∧ w0.heap.size ≤ D ∧ D < w.heap.size ∧ w.heap[D]? = some (.deferred (some [])) ∧ ¬ g.foot D)
theorem Mk.step {w0 : World} {b : Bool} {a a' : Act} {g g' : G} {w w' : World} (h : Mk w0 b a g w) (st : Step g w g' w') (hd : a'.defers = a.defers) : Mk w0 b a' g' w' := by
  rcases h with ⟨h1, h2⟩ | ⟨h1, D, h2, h3, h4, h5, h6⟩
  · exact .inl ⟨h1, hd.trans h2⟩
  · exact .inr ⟨h1, D, hd.trans h2, h3, Nat.lt_of_lt_of_le h4 st.size, (st.block D h4 fun h => h6 (.inl h)).trans h5, st.foot h4 h6⟩

/-- Code of a function that holds a range over a function. -/
def AWm (P : Program) (g0 : G) (w0 : World) (c : Code) (Q : Exit → Bool × St → Prop) (s : Bool × St) : Prop :=
  ∀ g a w, RelS s.2 g a.bare w → Step g0 w0 g w → Mk w0 s.1 a g w → c.wpIn Fence.wide 2 P (fun e a' w' => ∃ s' g', RelS s'.2 g' a'.bare w' ∧ Step g0 w0 g' w' ∧ Mk w0 s'.1 a' g' w' ∧ Q e s') a w

section
variable {P : Program} {g0 : G} {w0 : World} {K : Bool × St → Prop} {Q : Exit → Bool × St → Prop} {s : Bool × St} {id i : Nat}
def seqM (K : Bool × St → Prop) (Q : Exit → Bool × St → Prop) : Exit → Bool × St → Prop
  | .normal, s => K s
  | e, s => Q e s
def blockM (id : Nat) (Q : Exit → Bool × St → Prop) : Exit → Bool × St → Prop
  | .exit id', s => if id' = id then Q .normal s else Q (.exit id') s
  | e, s => Q e s
theorem awm_seq {x y : Code} (h : AWm P g0 w0 x (seqM (fun s' => AWm P g0 w0 y Q s') Q) s) : AWm P g0 w0 (.seq x y) Q s := by
  intro g a w hr hs hm
  refine wpIn_seq (wpIn_mono (h g a w hr hs hm) fun e a' w' ⟨s', g', h1, h2, h3, h4⟩ => ?_)
  cases e with
  | normal => exact h4 g' a' w' h1 h2 h3
  | _ => exact ⟨s', g', h1, h2, h3, h4⟩
theorem awm_cond {c : Operand} {x y : Code} {b : Bool} (hc : s.2.eval c = .d (.bool b)) (ht : b = true → AWm P g0 w0 x Q s) (hf : b = false → AWm P g0 w0 y Q s) : AWm P g0 w0 (.cond c x y) Q s := by
  intro g a w hr hs hm
  have h1 := eval_rep hr (s := s.2) (fun _ => rfl) c
  rw [hc] at h1
  simp only [RepA, RepD] at h1
  have h2 : a.eval c = .bool b := by rw [← h1]; cases c <;> rfl
  exact wpIn_cond_split h2 (fun hb => ht hb g a w hr hs hm) (fun hb => hf hb g a w hr hs hm)
theorem awm_block {c : Code} (h : AWm P g0 w0 c (blockM id Q) s) : AWm P g0 w0 (.block id c) Q s := by
  intro g a w hr hs hm
  refine wpIn_block (wpIn_mono (h g a w hr hs hm) fun e a' w' ⟨s', g', h1, h2, h3, h4⟩ => ?_)
  cases e with
  | exit id' =>
    simp only [blockM] at h4
    simp only [Exit.inBlock]
    split at h4
    · rename_i he; rw [if_pos he]; exact ⟨s', g', h1, h2, h3, h4⟩
    · rename_i he; rw [if_neg he]; exact ⟨s', g', h1, h2, h3, h4⟩
  | _ => exact ⟨s', g', h1, h2, h3, h4⟩
theorem awm_skip (h : Q .normal s) : AWm P g0 w0 .skip Q s := fun g a w hr hs hm => wpIn_skip ⟨s, g, hr, hs, hm, h⟩
theorem awm_exit (h : Q (.exit id) s) : AWm P g0 w0 (.exit id) Q s := fun g a w hr hs hm => wpIn_exit ⟨s, g, hr, hs, hm, h⟩
theorem awm_ret (h : Q .ret s) : AWm P g0 w0 .ret Q s := fun g a w hr hs hm => wpIn_ret ⟨s, g, hr, hs, hm, h⟩
theorem sm_n (h : K s) : seqM K Q .normal s := h
theorem sm_r (h : Q .ret s) : seqM K Q .ret s := h
theorem sm_x (h : Q (.exit i) s) : seqM K Q (.exit i) s := h
theorem bm_n (h : Q .normal s) : blockM id Q .normal s := h
theorem bm_r (h : Q .ret s) : blockM id Q .ret s := h
theorem bm_x (h : Q .normal s) : blockM id Q (.exit id) s := by simp only [blockM, if_true]; exact h
theorem bm_y (hn : Nat.beq i id = false) (h : Q (.exit i) s) : blockM id Q (.exit i) s := by
  simp only [blockM]
  rw [if_neg (Nat.ne_of_beq_eq_false hn)]; exact h

theorem bare_eq {a : Act} (h : a.defers = []) : a.bare = a := by cases a; simp at h; subst h; rfl

theorem awm_region {ty : TypeId → Option TI} (hc : Ctx P ty) (orc : List (Nat × Res)) {l : List Oper} (hd : noDefer l = true)
    (h : ∀ K : St → Prop, (∀ s', Q .normal (s.1, s') → K s') → wpT ty P orc (l.map (·.dst)) s.2.nxt 0 l { s.2 with nxt := s.2.nxt + l.length } K) : AWm P g0 w0 (.region id l.toArray false) Q s := by
  intro g a w hr hs hm
  refine wpIn_region_lit ?_
  have ha : a = { a.bare with defers := a.defers } := rfl
  have key := wpT_soundM (free_wide 2) (ds := a.defers) (P := P) hc (orc := orc) (gs := l.map (·.dst)) (ops := l.toArray) (by intro j; simp) (base := s.2.nxt) (nxt := s.2.nxt + l.length)
    (Q := fun e a' w' => ∃ s' g', RelS s'.2 g' a'.bare w' ∧ Step g0 w0 g' w' ∧ Mk w0 s'.1 a' g' w' ∧ Q e s') (K := fun s' => Q .normal (s.1, s')) (g0 := g) (w0 := w) (l2 := []) (en := l.length) (n0 := s.2.n)
    (fun s' g' a' w' hnx hn hrel hst hk => ⟨(s.1, s'), g', by
      have hb : Go.Act.bare { a' with defers := a.defers } = a' := bare_eq (a := a') hrel.defers
      rw [hb]
      exact ⟨hrel.defers, hrel.size, hrel.tmp, fun id hu => by have := hrel.used id hu; show id < s'.nxt; omega, hrel.heap⟩, hs.trans hst, hm.step hst rfl, hk⟩)
    l 0 { s.2 with nxt := s.2.nxt + l.length } g a.bare w hd (by simp) rfl rfl ⟨hr.defers, hr.size, hr.tmp, fun id hu => by have := hr.used id hu; simpa using this, hr.heap⟩ (Step.refl g w) (h _ fun _ hq => hq)
  rw [List.append_nil] at key
  rw [ha]
  exact key

/-- THE LOOP. -/
theorem awm_range (hsb : s.1 = false) {go : Operand} {f : FuncId} {caps xs : List D} (hgv : s.2.eval go = .d (.fn (.func f) caps)) (hit : IterOk P f caps xs)
    {t pn idS idn pt nx : Nat} (htp : t ≠ pn) (hpn : s.2.n ≤ pn) (hgt : s.2.get t = .ptr idS 0 0) (hptn : pt < s.2.n) {o : Ob} (hob : s.2.obj idS = some o) (hus : idS < s.2.nxt) (I : Nat → List (Nat × Option Ob))
    (hstart : ∀ L, Weak { s.2 with tm := (pn, .pin idS L) :: s.2.tm } (S1 s.2.n t pn idn L (I 0) nx)) {assign body : Code}
    (hbody : ∀ L k x, xs[k]? = some x → AWr 0 P assign (fun e s1 => e = .normal ∧ AWr 0 P body (fun e s2 => e = .normal ∧ Weak s2 (S1 s.2.n t pn idn L (I (k + 1)) nx)) s1) { S1 s.2.n t pn idn L (I k) nx with tm := (pt, .d x) :: (S1 s.2.n t pn idn L (I k) nx).tm })
    (hq : ∀ L, Q .normal (true, S1 s.2.n t pn idn L (I xs.length) nx)) : AWm P g0 w0 (.rangeFunc go #[pt] assign body) Q s := by
  intro g a w hr hs hm
  have ha : a.defers = [] := by
    rcases hm with h | h
    · exact h.2
    · rw [hsb] at h; exact absurd h.1 Bool.false_ne_true
  rw [bare_eq ha] at hr
  refine range_sound (m := 0) hr hgv hit htp hpn hgt hptn hob hus I hstart hbody fun g' W D L h1 h2 h3 h4 h5 => ⟨(true, S1 s.2.n t pn idn L (I xs.length) nx), g', ?_, hs.trans h2, .inr ⟨rfl, D, by simp [ha], Nat.le_trans hs.size h3, (Array.getElem?_eq_some_iff.1 h4).1, h4, h5⟩, hq L⟩
  have hb : Go.Act.bare { a with defers := { target := .collected D, args := #[] } :: a.defers } = a := bare_eq ha
  rw [hb]; exact h1
end

/-- A CONTRACT OUT OF THE CODE, where it holds a range over a function. -/
theorem pc_of_awm {P : Program} {ty : TypeId → Option TI} (hc : Ctx P ty) {f : FuncId} {fn : Func} {c : Code} {ds : List D} {r : Res} (hf : P.funcs[f]? = some fn) (hb : fn.body = some c) (hname : (fn.name == "runtime.NumGoroutine") = false) (hn : ds.length ≤ fn.ntmps)
    (h : ∀ g0 w0, AWm P g0 w0 c (fun e s => retQ ty fn.results.toList r e s.2) (false, start fn.ntmps ds)) : PC P f ds r := by
  refine ⟨⟨fn, hf, hname, by rw [hb]; rfl⟩, fun ro w vs hro hd => ?_⟩
  refine callsIn_wide.1 (callsIn_of_wp_marks (n := 2) hf hb trivial (wpIn_mono (h ⟨ro, fun _ => none, fun _ => False⟩ w _ _ w (start_rel hro hd hn) (Step.refl _ w) (.inl ⟨rfl, rfl⟩)) fun e a' w' ⟨s', g', h1, h2, h3, h4⟩ => ?_))
  have fin : (∃ l, resAs ty s'.2 fn.results.toList = some l ∧ resOk s'.2 (oneOf l) r) → LeavesInM Fence.wide 2 P fn a'.tmps (fun e w' => ∃ v, e = .returned v ∧ Below w.heap.size w w' ∧ RepRes ro w.heap.size w' r v) a'.defers .returning w' := by
    intro hl
    rcases h3 with ⟨_, h3⟩ | ⟨_, D, h3, k1, k2, k3, k4⟩
    · rw [h3]
      obtain ⟨v, hv, v', he, hb, hrep⟩ := ret_done hc h1 h2 hl
      cases he
      exact ⟨v, hv, v, rfl, hb, hrep⟩
    · rw [h3]
      refine ⟨by simp, .inl ⟨D, _, rfl, run_takeDeferred k3, ?_⟩⟩
      obtain ⟨v, hv, v', he, hb, hrep⟩ := ret_done hc (Rel.put h1 (.deferred none) k4) (h2.put (.deferred none) k1) hl
      cases he
      exact ⟨v, hv, v, rfl, hb, hrep⟩
  cases e with
  | normal => exact fin (retQ_spec h4)
  | ret => exact fin (retQ_spec h4)
  | _ => exact h4.elim
end Go.Abs
