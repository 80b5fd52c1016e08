/-
  The abstract machine: code within a round of a range over a function; two states side by side.
-/
import Derived.Test.YtmfkfgonedgjnaaAbs18
import Derived.OrdersIn
import Derived.TacticsIn
import Derived.RangeFuncNested
set_option linter.unusedVariables false
set_option linter.unusedSimpArgs false
namespace Go.Abs
open Go.RowKit

/-! ### An operation goes through within a round as outside. -/
theorem calls_round {l n : Nat} {P : Program} {f : FuncId} {args : Array Value} {w : World} {R : Ending → World → Prop} (h : Calls P f args w R) : CallsIn (Fence.wide.inRound l) n P f args w R :=
  CallsIn.inRound l (callsIn_wide.2 h)
theorem rows_round {l n : Nat} {P : Program} {row : String} {args : Array Value} {w : World} {R : Value → World → Prop} (h : Rows P row args w R) : RowsIn (Fence.wide.inRound l) n P row args w R := by
  intro c cs _
  obtain ⟨v, w', h1, h2⟩ := h c cs
  exact ⟨v, w', h1, stepsIn_wide.2 h2⟩
/-- A fence that bars nothing. -/
structure Free (F : Fence) (n : Nat) : Prop where
  fn : ∀ f, F.fn f
  depth : F.depth.isSome = false
  calls : ∀ {P : Program} {f : FuncId} {args : Array Value} {w : World} {R : Ending → World → Prop}, Calls P f args w R → CallsIn F (n - 1) P f args w R
  rows : ∀ {P : Program} {row : String} {args : Array Value} {w : World} {R : Value → World → Prop}, Rows P row args w R → RowsIn F (n - 1) P row args w R
theorem free_round (l n : Nat) : Free (Fence.wide.inRound l) n := ⟨fun _ => trivial, rfl, calls_round, rows_round⟩
theorem free_wide (n : Nat) : Free Fence.wide n := ⟨fun _ => trivial, rfl, fun h => callsIn_wide.2 h, fun h => fun c cs _ => by
  obtain ⟨v, w', h1, h2⟩ := h c cs
  exact ⟨v, w', h1, stepsIn_wide.2 h2⟩⟩
theorem op_free {F : Fence} {n : Nat} (hF : Free F n) {P : Program} {o : Oper} {a : Act} {w : World} {K K' : Act → World → Prop} {Q : Exit → Act → World → Prop} (hd : ∀ c, o.op ≠ .defer c) (hK : ∀ a w, K a w → K' a w) (h : o.wp P a w K Q) : o.wpIn F n P a w K' Q := by
  refine ⟨fun _ _ => hF.fn _, ?_⟩
  have hs : o.semAt F.round a.eval = execOp a.eval o := Oper.semAt_eq _ _ _ hd
  rw [hs]
  have h := Oper.wp_mono hK h
  unfold Oper.wp at h
  generalize (execOp a.eval o).run P w = r at *
  cases r with
  | ok x w' =>
    cases x <;> simp only [Oper.upon, Oper.uponIn] at h ⊢ <;> first
      | exact h
      | exact ⟨fun hh => absurd hh (by rw [hF.depth]; exact Bool.false_ne_true), (hF.calls h).mono fun e w'' he => by cases e <;> exact he⟩
      | exact ⟨fun hh => absurd hh (by rw [hF.depth]; exact Bool.false_ne_true), hF.rows h⟩
      | exact False.elim h
  | halt x w' => cases x <;> simp only [Oper.upon, Oper.uponIn] at h ⊢ <;> first | exact h | exact h.elim

theorem op_round {l n : Nat} {P : Program} {o : Oper} {a : Act} {w : World} {K K' : Act → World → Prop} {Q : Exit → Act → World → Prop} (hd : ∀ c, o.op ≠ .defer c) (hK : ∀ a w, K a w → K' a w) (h : o.wp P a w K Q) : o.wpIn (Fence.wide.inRound l) n P a w K' Q := by
  refine ⟨fun _ _ => trivial, ?_⟩
  rw [Oper.semAt_eq _ _ _ hd]
  have h := Oper.wp_mono hK h
  unfold Oper.wp at h
  generalize (execOp a.eval o).run P w = r at *
  cases r with
  | ok x w' =>
    cases x <;> simp only [Oper.upon, Oper.uponIn] at h ⊢ <;> first
      | exact h
      | exact ⟨fun hh => absurd hh (by simp [Fence.wide]), (calls_round h).mono fun e w'' he => by cases e <;> exact he⟩
      | exact ⟨fun hh => absurd hh (by simp [Fence.wide]), rows_round h⟩
      | exact False.elim h
  | halt x w' => cases x <;> simp only [Oper.upon, Oper.uponIn] at h ⊢ <;> first | exact h | exact h.elim

def noDefer (l : List Oper) : Bool := l.all fun o => match o.op with | .defer _ => false | _ => true
theorem noDefer_mem {l : List Oper} (h : noDefer l = true) {o : Oper} (ho : o ∈ l) : ∀ c, o.op ≠ .defer c := fun c hc => by
  have := List.all_eq_true.1 h o ho
  rw [hc] at this
  cases this

theorem wpList_round {l n : Nat} {P : Program} {ops : Array Oper} {Q : Exit → Act → World → Prop} (hQ : ¬ LetsOut Q) : ∀ (ls : List Oper) (a : Act) (w : World), noDefer ls = true → wpList P ops Q ls a w → wpListIn (Fence.wide.inRound l) n P ops Q ls a w
  | [], a, w, _, h => h
  | o :: rest, a, w, hd, h => by
    have hd' : noDefer rest = true := by simp only [noDefer, List.all_cons, Bool.and_eq_true] at hd; exact hd.2
    simp only [wpList, wpListIn] at h ⊢
    split
    · rename_i hw
      rw [if_pos hw] at h
      rcases h with h | h
      · exact op_round (noDefer_mem hd (by simp)) (fun a w hk => wpList_round hQ rest a w hd' hk) h
      · exact absurd h.2 hQ
    · rename_i hw
      rw [if_neg hw] at h
      exact ⟨fun _ _ => trivial, wpList_round hQ rest _ w hd' h⟩

theorem wpAny_round {l n : Nat} {P : Program} {md : Region.Mode} {ls : List Oper} {Q : Exit → Act → World → Prop} (hQ : ¬ LetsOut Q) (hd : noDefer ls = true) : ∀ (fuel : Nat) (listed : Array Bool) (a : Act) (w : World), wpAny P md ls.toArray Q fuel listed a w → wpAnyIn (Fence.wide.inRound l) n P md ls.toArray Q fuel listed a w
  | 0, listed, a, w, h => h
  | fuel + 1, listed, a, w, h => by
    refine ⟨h.1, fun i hi => ?_⟩
    have h2 := h.2 i hi
    unfold wpOp at h2
    unfold wpOpIn
    cases ho : ls.toArray[i]? with
    | none => rw [ho] at h2; exact wpAny_round hQ hd fuel _ a w h2
    | some o =>
      rw [ho] at h2
      simp only at h2 ⊢
      have hm : o ∈ ls := List.mem_of_getElem? (by simpa using ho)
      split
      · rename_i hw
        rw [if_pos hw] at h2
        rcases h2 with h2 | h2
        · exact op_round (noDefer_mem hd hm) (fun a w hk => wpAny_round hQ hd fuel _ a w hk) h2
        · exact absurd h2.2 hQ
      · rename_i hw
        rw [if_neg hw] at h2
        exact ⟨fun _ _ => trivial, wpAny_round hQ hd fuel _ _ w h2⟩

/-- Code within a round, over states. -/
def AWr (n : Nat) (P : Program) (c : Code) (Q : Exit → St → Prop) (s : St) : Prop :=
  ∀ (l : Nat) g a w, RelS s g a w → c.wpIn (Fence.wide.inRound l) n P (fun e a' w' => ∃ s' g', RelS s' g' a' w' ∧ Step g w g' w' ∧ Q e s') a w

theorem awr_seq {n : Nat} {P : Program} {x y : Code} {Q : Exit → St → Prop} {s : St} (h : AWr n P x (fun e s' => match e with | .normal => AWr n P y Q s' | e => Q e s') s) : AWr n P (.seq x y) Q s := by
  intro l g a w hr
  refine wpIn_seq (wpIn_mono (h l g a w hr) fun e a' w' ⟨s', g', h1, h2, h3⟩ => ?_)
  cases e with
  | normal => exact wpIn_mono (h3 l g' a' w' h1) fun e2 a2 w2 ⟨s2, g2, k1, k2, k3⟩ => ⟨s2, g2, k1, h2.trans k2, k3⟩
  | _ => exact ⟨s', g', h1, h2, h3⟩

theorem awr_block {n id : Nat} {P : Program} {c : Code} {Q : St → Prop} {s : St} (h : AWr n P c (fun e s => e = .normal ∧ Q s) s) : AWr n P (.block id c) (fun e s => e = .normal ∧ Q s) s := by
  intro l g a w hr
  refine wpIn_block (wpIn_mono (h l g a w hr) fun e a' w' ⟨s', g', h1, h2, h3, h4⟩ => ?_)
  subst h3
  exact ⟨s', g', h1, h2, rfl, h4⟩

theorem awr_region {n : Nat} {P : Program} {ty : TypeId → Option TI} (hc : Ctx P ty) (orc : List (Nat × Res)) {id : Nat} {l : List Oper} {Q : Exit → St → Prop} {s : St} (hQ : ∀ s', ¬ Q .outgrown s') (hd : noDefer l = true)
    (h : ∀ K : St → Prop, (∀ s', Q .normal s' → K s') → wpT ty P orc (l.map (·.dst)) s.nxt 0 l { s with nxt := s.nxt + l.length } K) : AWr n P (.region id l.toArray false) Q s := by
  intro r g a w hr
  have hw := wpT_sound (P := P) hc (orc := orc) (gs := l.map (·.dst)) (ops := l.toArray) (by intro j; simp) (base := s.nxt) (nxt := s.nxt + l.length)
    (Q := fun e a' w' => ∃ s' g', RelS s' g' a' w' ∧ Step g w g' w' ∧ Q e s') (K := fun s' => Q .normal s') (g0 := g) (w0 := w)
    (fun s' g' a' w' h1 h2 h3 => ⟨s', g', h1, h2, h3⟩) l 0 { s with nxt := s.nxt + l.length } g a w (by simp) rfl ⟨hr.defers, hr.size, hr.tmp, fun id hu => by have := hr.used id hu; simpa using this, hr.heap⟩ (Step.refl g w) (h _ fun _ hq => hq)
  exact wpIn_region_lit (wpList_round (fun hx => by obtain ⟨_, _, s', _, _, _, hq⟩ := hx; exact hQ s' hq) l a w hd hw)

theorem awr_region_draw {n : Nat} {P : Program} {ty : TypeId → Option TI} (hc : Ctx P ty) (hm : P.follows .mixedOrders = true) (orc : List (Nat × Res)) {id : Nat} {l : List Oper} {Q : Exit → St → Prop} {s : St} (hQo : ∀ s', ¬ Q .outgrown s') (hd : noDefer l = true)
    (h : ∀ K : St → List (Nat × List Nat × List Nat) → Prop, (∀ s' acc, regOk l.toArray (cfOf acc) = true → Q .normal s' → K s' acc) → wpD ty P orc (l.map fun o => o.dst) s.nxt 0 l { s with nxt := s.nxt + l.length } [] K) : AWr n P (.region id l.toArray true) Q s := by
  intro r g a w hr
  have hwp := wpD_wpC _ _ _ _ _ _ _ _ _ (h (fun s' acc => regOk l.toArray (cfOf acc) = true ∧ Q .normal s') fun s' acc h1 h2 => ⟨h1, h2⟩)
  obtain ⟨E, s', cf, hfact, hget, hobj, hn, hnx, hcf, acc', rfl, hreg, hQ⟩ := wpC_trace (l := l) (g0 := s.get) (o0 := s.obj) (n := s.n) (nxt := s.nxt + l.length) l 0 { s with nxt := s.nxt + l.length } [] [] (fun _ => (none, .any)) rfl (Nat.zero_le _) (fun j o hj _ => absurd hj (by omega)) (fun t => rfl) (fun id => rfl) rfl rfl
    (fun j hj => absurd hj (by omega)) (fun j k _ hk _ => absurd hk (by omega)) hwp
  refine wpIn_region_any hm (wpAny_round (fun hx => by obtain ⟨_, _, s', _, _, _, hq⟩ := hx; exact hQo s' hq) hd _ _ a _ ?_)
  obtain ⟨d1, d2, d3⟩ := hr.heap.idle (w' := { w with drawn := w.drawn + 1 }) ⟨rfl, ⟨rfl, Nat.le_succ _⟩, rfl, Nat.le_refl _, fun _ _ => rfl⟩
  refine any_sound hc hreg hcf hfact (gg := g) (ww := w) (fun g' a' w' hrel hst => ?_) l.length (List.range l.length) (Array.replicate l.length false) g a _ (by simp) List.nodup_range (by simp) (fun i hi => by simp [hi]) (fun j o _ hj => by
    have hj' : (Array.replicate l.length false).getD j false = true := hj; rw [show (Array.replicate l.length false).getD j false = false by rcases Nat.lt_or_ge j l.length with h | h <;> simp [h]] at hj'; cases hj') ?_ d2
  · refine ⟨s', g', ?_, hst, hQ⟩
    have := hrel.congr hget hobj
    refine ⟨this.defers, by rw [hn]; exact this.size, this.tmp, fun id hid => by have := this.used id hid; show id < s'.nxt; rw [hnx]; exact this, this.heap⟩
  · have hf : ∀ j, (Array.replicate l.length false).getD j false = false := fun j => by rcases Nat.lt_or_ge j l.length with h | h <;> simp [h]
    have e1 : getS l E s.get (fun i => (Array.replicate l.length false).getD i false) = s.get := funext fun t => by
      unfold getS
      rw [stAt_skip (j := 0) (Nat.zero_le _) fun i _ _ h => by rw [hf] at h; cases h]
      rfl
    have e2 : objS l E s.obj (fun i => (Array.replicate l.length false).getD i false) = s.obj := funext fun t => by
      unfold objS
      rw [stAt_skip (j := 0) (Nat.zero_le _) fun i _ _ h => by rw [hf] at h; cases h]
      rfl
    rw [e1, e2]
    exact ⟨hr.defers, hr.size, fun t => RepA.later d3 _ _ (hr.tmp t), fun id hid => .inl (hr.used id hid), d1⟩
theorem wpT_soundIn {F : Fence} {n : Nat} (hF : Free F n) {P : Program} {ty : TypeId → Option TI} (hc : Ctx P ty) {orc : List (Nat × Res)} {gs : List (Option Tmp)} {ops : Array Oper} (hgs : ∀ j : Nat, gs[j]? = (ops[j]?).map fun o : Oper => o.dst) {base nxt : Nat} {Q : Exit → Act → World → Prop} {K : St → Prop} {g0 : G} {w0 : World}
    {l2 : List Oper} {en n0 : Nat} (hQ : ∀ s g a w, s.nxt = nxt → s.n = n0 → Rel (· < base + en) g s.get s.obj s.n a w → Step g0 w0 g w → K s → wpListIn F n P ops Q l2 a w) :
    ∀ (l : List Oper) (i : Nat) (s : St) (g : G) (a : Act) (w : World), noDefer l = true → i + l.length = en → s.nxt = nxt → s.n = n0 → Rel (· < base + i) g s.get s.obj s.n a w → Step g0 w0 g w → wpT ty P orc gs base i l s K → wpListIn F n P ops Q (l ++ l2) a w
  | [], i, s, g, a, w, _, hle, hnx, hn0, h, hs, hk => hQ s g a w hnx hn0 (by simp at hle; rw [← hle]; exact h) hs hk
  | o :: rest, i, s, g, a, w, hdf, hle, hnx, hn0, h, hs, hk => by
    simp only [List.length_cons] at hle
    have hdo := noDefer_mem hdf (o := o) (by simp)
    have hdr : noDefer rest = true := by simp only [noDefer, List.all_cons, Bool.and_eq_true] at hdf; exact hdf.2
    have hargs : RepAs g w (o.op.operands.toList.map s.eval) (o.op.operands.toList.map a.eval) := by
      refine RepAs.of_get (by simp) fun j av hj => ?_
      rw [List.getElem?_map] at hj ⊢
      cases hx : o.op.operands.toList[j]? with
      | none => rw [hx] at hj; cases hj
      | some x => rw [hx] at hj; cases hj; exact ⟨a.eval x, rfl, eval_rep h (fun _ => rfl) x⟩
    have relapp : ∀ (e : Eff) (g' : G) (a' : Act) (w' : World), Rel (fun k => k < base + i ∨ k = base + i) g' (putG s.get o.dst e.val) (updL s.obj e.wr) s.n a' w' → Rel (· < base + (i + 1)) g' (s.app o.dst e).get (s.app o.dst e).obj (s.app o.dst e).n a' w' := by
      intro e g' a' w' hr
      have hn : (s.app o.dst e).n = s.n := by unfold St.app St.put; cases o.dst <;> rfl
      rw [hn]
      exact ⟨hr.defers, hr.size, fun t => by rw [app_get]; exact hr.tmp t, fun id hu => by
        have := hr.used id hu
        show id < base + (i + 1)
        rcases this with hh | hh <;> omega, by
        have : (s.app o.dst e).obj = updL s.obj e.wr := funext (app_obj s o.dst e)
        rw [this]; exact hr.heap⟩
    have hnapp : ∀ e, (s.app o.dst e).nxt = nxt := fun e => by rw [← hnx]; unfold St.app St.put; cases o.dst <;> rfl
    have hna : ∀ e, (s.app o.dst e).n = s.n := fun e => by unfold St.app St.put; cases o.dst <;> rfl
    have hnput : ∀ v, (s.put o.dst v).nxt = nxt := fun v => by rw [← hnx]; unfold St.put; cases o.dst <;> rfl
    have hnn : ∀ v, (s.put o.dst v).n = s.n := fun v => by unfold St.put; cases o.dst <;> rfl
    have relput : ∀ (v : AV) (g' : G) (a' : Act) (w' : World) (U : Nat → Prop), (∀ k, U k → k < base + (i + 1)) → Rel U g' (putG s.get o.dst v) s.obj s.n a' w' → Rel (· < base + (i + 1)) g' (s.put o.dst v).get (s.put o.dst v).obj (s.put o.dst v).n a' w' := by
      intro v g' a' w' U hU hr
      rw [hnn]
      have := hr.congr (get' := (s.put o.dst v).get) (obj' := (s.put o.dst v).obj) (fun t => St.get_put s o.dst v t) (fun id => put_obj s o.dst v id)
      exact ⟨this.defers, this.size, this.tmp, fun k hk => hU k (this.used k hk), this.heap⟩
    have skipped : ∀ v, (∀ d, o.dst = some d → d < s.n) → RepA g w v undef → wpT ty P orc gs base (i + 1) rest (s.put o.dst v) K → wpListIn F n P ops Q (rest ++ l2) (a.put o.dst undef) w := by
      intro v hd hv hrest
      have hr := rel_put (U' := (· < base + i)) (dst := o.dst) (v := v) (u := undef) h h.heap ⟨fun b hb => ⟨hb, rfl⟩, fun _ hx => hx, fun _ _ => .inl rfl⟩ (fun k hk => h.used k hk) hv hd
      exact wpT_soundIn hF (nxt := nxt) hc hgs hQ rest (i + 1) _ g _ w hdr (by omega) (hnput v) ((hnn v).trans hn0) (relput v g _ w _ (fun k hk => by omega) hr) hs hrest
    simp only [List.cons_append, wpListIn]
    unfold wpT at hk
    split at hk
    · rename_i hg
      have hw : Region.wanted o (yielded ops a.tmps) = true := by simp [Region.wanted, hg]
      rw [if_pos hw]
      unfold doOp at hk
      split at hk
      · rename_i e he
        obtain ⟨hob, hd, hrest⟩ := hk
        exact op_free hF hdo (fun _ _ hk => hk) <| op_step hc (nid := base + i) h (by simp) hargs he hob (fun d hd' => by rw [hd'] at hd; exact hd) fun g' a' w' hr hst =>
          wpT_soundIn hF (nxt := nxt) hc hgs hQ rest (i + 1) (s.app o.dst e) g' a' w' hdr (by omega) (hnapp e) ((hna e).trans hn0) (relapp e g' a' w' hr) (hs.trans hst) hrest
      · exact hk.elim
    · rename_i j want hg
      split at hk
      · rename_i x hgv
        have hw := guard_wanted (a := a) hgs h.tmp hg hgv
        rw [hw]
        obtain ⟨hd, hk⟩ := hk
        have hd' : ∀ d, o.dst = some d → d < s.n := fun d hd' => by rw [hd'] at hd; exact hd
        split at hk
        · rename_i e he
          split at hk
          · rename_i hwr
            obtain ⟨hexec, hrest⟩ := hk
            cases x with
            | true =>
              rw [if_pos rfl]
              obtain ⟨hso, hob⟩ := hexec rfl
              refine op_free hF hdo (fun _ _ hk => hk) <| op_step hc (nid := base + i) h (by simp) (strips_repG hargs hso) he hob hd' fun g' a' w' hr hst => ?_
              rw [hwr] at hr
              exact wpT_soundIn hF (nxt := nxt) hc hgs hQ rest (i + 1) _ g' a' w' hdr (by omega) (hnput _) ((hnn _).trans hn0) (relput _ g' a' w' _ (fun k hk => by rcases hk with hh | hh <;> omega) hr.opt) (hs.trans hst) hrest
            | false =>
              rw [if_neg (by simp)]
              exact ⟨fun _ _ => hF.fn _, skipped _ hd' (by simp [RepA]) hrest⟩
          · obtain ⟨rfl, hso, hob, hrest⟩ := hk
            rw [if_pos rfl]
            exact op_free hF hdo (fun _ _ hk => hk) <| op_step hc (nid := base + i) h (by simp) (strips_repG hargs hso) he hob hd' fun g' a' w' hr hst =>
              wpT_soundIn hF (nxt := nxt) hc hgs hQ rest (i + 1) (s.app o.dst e) g' a' w' hdr (by omega) (hnapp e) ((hna e).trans hn0) (relapp e g' a' w' hr) (hs.trans hst) hrest
        · obtain ⟨rfl, hrest⟩ := hk
          rw [if_neg (by simp)]
          exact ⟨fun _ _ => hF.fn _, skipped _ hd' (by simp [RepA]) hrest⟩
      · exact hk.elim



end Go.Abs
