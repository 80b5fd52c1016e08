/-
  The abstract machine: two states side by side; an iterator's walk, whose calls of yield turn the other side.
-/
import Derived.Test.YtmfkfgonedgjnaaAbsR
set_option linter.unusedVariables false
set_option linter.unusedSimpArgs false
namespace Go.Abs
open Go.RowKit

/-- The blocks that a ghost speaks of. -/
def G.foot (g : G) (b : Nat) : Prop := g.owns b ∨ g.ro b
theorem HRel.foot_lt {g : G} {obj : Nat → Option Ob} {w : World} (h : HRel g obj w) {b : Nat} (hb : g.foot b) : b < w.heap.size := by
  rcases hb with ⟨id, L, hL, hv, rfl⟩ | hb
  · exact ((h.live id L hL).2 hv).1
  · exact h.ro b hb
theorem HRel.stay {g : G} {obj : Nat → Option Ob} {w w' : World} (h : HRel g obj w) (hsz : w.heap.size ≤ w'.heap.size) (hb : ∀ b, g.foot b → w'.heap[b]? = w.heap[b]?) : HRel g obj w' ∧ Later g w g w' := by
  have hlater : Later g w g w' := ⟨fun b hr => ⟨hr, hb b (.inr hr)⟩, fun _ hx => hx, fun _ _ => .inl rfl⟩
  refine ⟨⟨fun id o ho => ?_, h.gone, fun id L hL => ⟨(h.live id L hL).1, fun hv => ⟨Nat.lt_of_lt_of_le ((h.live id L hL).2 hv).1 hsz, ((h.live id L hL).2 hv).2⟩⟩, h.inj, fun b hr => Nat.lt_of_lt_of_le (h.ro b hr) hsz⟩, hlater⟩
  obtain ⟨L, hL, hok⟩ := h.own id o ho
  exact ⟨L, hL, hok.later hlater fun hv => hb _ (.inl ⟨id, L, hL, hv, rfl⟩)⟩
theorem Rel.stay {U : Nat → Prop} {g : G} {get : Nat → AV} {obj : Nat → Option Ob} {n : Nat} {a : Act} {w w' : World} (h : Rel U g get obj n a w) (hsz : w.heap.size ≤ w'.heap.size) (hb : ∀ b, g.foot b → w'.heap[b]? = w.heap[b]?) : Rel U g get obj n a w' := by
  obtain ⟨h1, h2⟩ := h.heap.stay hsz hb
  exact ⟨h.defers, h.size, fun t => RepA.later h2 _ _ (h.tmp t), h.used, h1⟩

/-- What the one may write, the other does not speak of. -/
structure Sep (g1 g2 : G) : Prop where
  own : ∀ b, g1.owns b → ¬ g2.foot b
  own' : ∀ b, g2.owns b → ¬ g1.ro b
theorem Sep.symm {g1 g2 : G} (h : Sep g1 g2) : Sep g2 g1 :=
  ⟨fun b h2 h1 => h1.elim (fun ho => h.own b ho (.inl h2)) (h.own' b h2), fun b h1 h2 => h.own b h1 (.inr h2)⟩

/-- What a step of one side does, but for a block x of the machine's own. -/
structure Rnd (x : Nat) (g : G) (w : World) (g' : G) (w' : World) : Prop where
  size : w.heap.size ≤ w'.heap.size
  block : ∀ b, b < w.heap.size → ¬ g.owns b → b ≠ x → w'.heap[b]? = w.heap[b]?
  own : ∀ b, g'.owns b → w.heap.size ≤ b ∨ g.owns b
  ro' : ∀ b, g'.ro b → g.ro b ∨ w.heap.size ≤ b ∨ g.owns b
theorem Step.rnd {g g' : G} {w w' : World} (h : Step g w g' w') (x : Nat) : Rnd x g w g' w' := ⟨h.size, fun b h1 h2 _ => h.block b h1 h2, h.own, h.ro'⟩

/-- A step of g1 leaves g2 as it is, and both apart. -/
theorem Sep.rnd {x : Nat} {g1 g1' g2 : G} {w w' : World} (hs : Sep g1 g2) (h2 : ∀ b, g2.foot b → b < w.heap.size ∧ b ≠ x) (st : Rnd x g1 w g1' w') : (∀ b, g2.foot b → w'.heap[b]? = w.heap[b]?) ∧ Sep g1' g2 := by
  refine ⟨fun b hb => st.block b (h2 b hb).1 (fun ho => hs.own b ho hb) (h2 b hb).2, fun b ho hf => ?_, fun b ho hr => ?_⟩
  · rcases st.own b ho with h | h
    · have := (h2 b hf).1; omega
    · exact hs.own b h hf
  · have hf := h2 b (.inl ho)
    rcases st.ro' b hr with h | h | h
    · exact hs.own' b ho h
    · omega
    · exact hs.own b h (.inl ho)

/-- What an iterator is told of the caller's side: it stays where the iterator leaves it alone; 'W0' the world in which the iterator was called, 'l' the loop's record. -/
structure JOk (l : Nat) (W0 : World) (J : Nat → G → World → Prop) : Prop where
  lrec : l < W0.heap.size
  size : ∀ k g W, J k g W → W0.heap.size ≤ W.heap.size ∧ ∀ b, g.foot b → b < W.heap.size
  stay : ∀ k g W W', J k g W → W'.os = W.os → (W'.tape = W.tape ∧ W.drawn ≤ W'.drawn) → W'.output = W.output → W.heap.size ≤ W'.heap.size → (∀ b, b < W0.heap.size ∨ g.foot b → W'.heap[b]? = W.heap[b]?) → J k g W'

def IInv (l : Nat) (W0 : World) (J : Nat → G → World → Prop) (k : Nat) (g1 : G) (w : World) : Prop :=
  ∃ g, J k g w ∧ Sep g1 g ∧ (∀ b, g1.owns b → W0.heap.size ≤ b) ∧ ¬ g1.ro l

theorem IInv.step {l : Nat} {W0 : World} {J : Nat → G → World → Prop} (hJ : JOk l W0 J) {k : Nat} {g1 g1' : G} {w w' : World} (h : IInv l W0 J k g1 w) (st : Step g1 w g1' w') : IInv l W0 J k g1' w' := by
  obtain ⟨g, hj, hs, ho, hr⟩ := h
  obtain ⟨hsz, hf⟩ := hJ.size k g w hj
  have hl := hJ.lrec
  refine ⟨g, hJ.stay k g w w' hj st.os st.tape st.output st.size ?_, ⟨?_, ?_⟩, ?_, ?_⟩
  · rintro b (hb | hb)
    · exact st.block b (by omega) fun h => by have := ho b h; omega
    · exact st.block b (hf b hb) fun h => hs.own b h hb
  · intro b h1 h2
    rcases st.own b h1 with h | h
    · have := hf b h2; omega
    · exact hs.own b h h2
  · intro b h1 h2
    have := hf b (.inl h1)
    rcases st.ro' b h2 with h | h | h
    · exact hs.own' b h1 h
    · omega
    · exact hs.own b h (.inl h1)
  · intro b h1
    rcases st.own b h1 with h | h
    · omega
    · exact ho b h
  · intro h1
    rcases st.ro' l h1 with h | h | h
    · exact hr h
    · omega
    · have := ho l h; omega

/-- A round of the caller's. -/
theorem IInv.rnd {l : Nat} {W0 : World} {J : Nat → G → World → Prop} (hJ : JOk l W0 J) {k : Nat} {g1 g g' : G} {w w' : World} (hf1 : ∀ b, g1.foot b → b < w.heap.size) (hs : Sep g1 g) (ho : ∀ b, g1.owns b → W0.heap.size ≤ b) (hr : ¬ g1.ro l) (st : Rnd l g w g' w') (hj' : J (k + 1) g' w') :
    IInv l W0 J (k + 1) g1 w' ∧ ∀ b, g1.foot b → w'.heap[b]? = w.heap[b]? := by
  have hl := hJ.lrec
  obtain ⟨h1, h2⟩ := hs.symm.rnd (x := l) (fun b hb => ⟨hf1 b hb, fun e => by
    subst e
    rcases hb with hb | hb
    · have := ho _ hb; omega
    · exact hr hb⟩) st
  exact ⟨⟨g', hj', h2.symm, ho, hr⟩, h1⟩

/-- An iterator's code, over states, the caller's side and the number of rounds. -/
def AWi (l : Nat) (W0 : World) (J : Nat → G → World → Prop) (P : Program) (c : Code) (Q : Exit → Nat × St → Prop) (s : Nat × St) : Prop :=
  ∀ g1 a w, RelS s.2 g1 a w → IInv l W0 J s.1 g1 w → c.wp P (fun e a' w' => ∃ s' g1', RelS s'.2 g1' a' w' ∧ IInv l W0 J s'.1 g1' w' ∧ Q e s') a w

section
variable {l : Nat} {W0 : World} {J : Nat → G → World → Prop} {P : Program} {Q : Exit → Nat × St → Prop} {s : Nat × St}
def seqI (K : Nat × St → Prop) (Q : Exit → Nat × St → Prop) : Exit → Nat × St → Prop
  | .normal, s => K s
  | e, s => Q e s
def blockI (id : Nat) (Q : Exit → Nat × St → Prop) : Exit → Nat × St → Prop
  | .exit id', s => if id' = id then Q .normal s else Q (.exit id') s
  | e, s => Q e s

theorem awi_of_awp (hJ : JOk l W0 J) {c : Code} (h : AWp P c (fun e s' => Q e (s.1, s')) s.2) : AWi l W0 J P c Q s :=
  fun g1 a w hr hi => wp_mono (h g1 a w hr) fun e a' w' ⟨s', g', h1, h2, h3⟩ => ⟨(s.1, s'), g', h1, hi.step hJ h2, h3⟩
theorem awi_mono {c : Code} {Q' : Exit → Nat × St → Prop} (h : AWi l W0 J P c Q s) (hq : ∀ e s, Q e s → Q' e s) : AWi l W0 J P c Q' s :=
  fun g a w hr hi => wp_mono (h g a w hr hi) fun e a' w' ⟨s', g', h1, h2, h3⟩ => ⟨s', g', h1, h2, hq _ _ h3⟩
theorem awi_seq {x y : Code} (h : AWi l W0 J P x (seqI (fun s' => AWi l W0 J P y Q s') Q) s) : AWi l W0 J P (.seq x y) Q s := by
  intro g a w hr hi
  refine wp_seq (wp_mono (h g a w hr hi) fun e a' w' ⟨s', g', h1, h2, h3⟩ => ?_)
  cases e with
  | normal => exact h3 g' a' w' h1 h2
  | _ => exact ⟨s', g', h1, h2, h3⟩
theorem awi_cond {c : Operand} {x y : Code} {b : Bool} (hc : s.2.eval c = .d (.bool b)) (ht : b = true → AWi l W0 J P x Q s) (hf : b = false → AWi l W0 J P y Q s) : AWi l W0 J P (.cond c x y) Q s := by
  intro g a w hr hi
  have h1 := eval_rep hr (fun _ => rfl) c
  rw [hc] at h1
  simp only [RepA, RepD] at h1
  exact wp_cond_split h1 (fun hb => ht hb g a w hr hi) (fun hb => hf hb g a w hr hi)
theorem awi_block {id : Nat} {c : Code} (h : AWi l W0 J P c (blockI id Q) s) : AWi l W0 J P (.block id c) Q s := by
  intro g a w hr hi
  refine wp_block (wp_mono (h g a w hr hi) fun e a' w' ⟨s', g', h1, h2, h3⟩ => ?_)
  cases e with
  | exit id' =>
    simp only [blockI] at h3
    simp only [Exit.inBlock]
    split at h3
    · rename_i he; rw [if_pos he]; exact ⟨s', g', h1, h2, h3⟩
    · rename_i he; rw [if_neg he]; exact ⟨s', g', h1, h2, h3⟩
  | _ => exact ⟨s', g', h1, h2, h3⟩
theorem awi_weak (hJ : JOk l W0 J) {c : Code} {s' : St} (hw : Weak s.2 s') (h : AWi l W0 J P c Q (s.1, s')) : AWi l W0 J P c Q s := by
  intro g a w hr hi
  obtain ⟨g', hr', hs⟩ := hw g a w hr
  exact h g' a w hr' (hi.step hJ hs)
theorem awi_loop (hJ : JOk l W0 J) {c : Code} {β : Type} (I : β → Nat × St) (inv : β → Prop) (meas : β → Nat) (b0 : β) (h0 : Weak s.2 (I b0).2) (hk : s.1 = (I b0).1) (hi : inv b0)
    (round : ∀ b, inv b → AWi l W0 J P c (seqI (fun s' => ∃ b', inv b' ∧ meas b' < meas b ∧ s'.1 = (I b').1 ∧ Weak s'.2 (I b').2) Q) (I b)) : AWi l W0 J P (.loop c) Q s := by
  refine awi_weak hJ h0 ?_
  rw [hk]
  intro g a w hr hiv
  refine wp_loop_rel (fun n a' w' => ∃ b g', inv b ∧ meas b = n ∧ RelS (I b).2 g' a' w' ∧ IInv l W0 J (I b).1 g' w') ?_ (n := meas b0) ⟨b0, g, hi, rfl, hr, hiv⟩
  rintro n a1 w1 ⟨b, g1, hb, rfl, hr1, hs1⟩
  refine wp_mono (round b hb g1 a1 w1 hr1 hs1) fun e a2 w2 ⟨s2, g2, h1, h2, h3⟩ => ?_
  cases e with
  | normal =>
    obtain ⟨b', k1, k2, k4, k3⟩ := h3
    obtain ⟨g3, h4, h5⟩ := k3 g2 a2 w2 h1
    rw [k4] at h2
    exact ⟨meas b', k2, b', g3, k1, rfl, h4, h2.step hJ h5⟩
  | _ => exact ⟨s2, g2, h1, h2, h3⟩
end

/-- What a round of the caller's does, at each item that the iterator hands over. -/
def JRound (m l : Nat) (P : Program) (J : Nat → G → World → Prop) (xs : List D) : Prop :=
  ∀ (k : Nat) (g : G) (W : World) (x : D) (v : Value), xs[k]? = some x → J k g W → RepD (fun _ => False) W x v →
    YieldAt Fence.wide m P l #[v] W fun e W' => e = .returned (.bool true) ∧ ∃ g', J (k + 1) g' W' ∧ Rnd l g W g' W'

/-- The region in which yield is called. -/
theorem awi_yield {l : Nat} {W0 : World} {J : Nat → G → World → Prop} {P : Program} {ty : TypeId → Option TI} (hc : Ctx P ty) (hJ : JOk l W0 J) {m : Nat} {xs : List D} (hR : JRound m l P J xs) {id : Nat} {ls pre post : List Oper} {o : Oper} (hl : ls = pre ++ o :: post) (hg : o.guard = none) {cl : Call} {fo x : Operand} (ho : o.op = .call cl) (hcal : cl.callee = .value fo) (hargs : cl.args = #[x]) (d : Tmp) (hdst : o.dst = some d) (hd : noDefer ls = true) {s : Nat × St} {dx : D} (hx : xs[s.1]? = some dx) (hfree : dx.free = true) {Q : Exit → Nat × St → Prop}
    (h : ∀ K : St → Prop, (∀ s', Q .normal (s.1 + 1, s') → K s') → wpT ty P [] (ls.map (·.dst)) s.2.nxt 0 pre { s.2 with nxt := s.2.nxt + ls.length } fun s1 => s1.eval fo = .d (.fn (.yield l) []) ∧ s1.eval x = .d dx ∧ d < s1.n ∧ wpT ty P [] (ls.map (·.dst)) s.2.nxt (pre.length + 1) post (s1.put (some d) (.d (.bool true))) K) :
    AWi l W0 J P (.region id ls.toArray false) Q s := by
  intro g1 a w hr hi
  rw [← wpIn_wide (n := m + 1)]
  refine wpIn_region_lit ?_
  have hgs : ∀ j : Nat, (ls.map (·.dst))[j]? = (ls.toArray[j]?).map fun o : Oper => o.dst := by intro j; simp
  have hlen : ls.length = pre.length + 1 + post.length := by rw [hl]; simp; omega
  have hd1 : noDefer pre = true := by rw [hl] at hd; simp only [noDefer, List.all_append, Bool.and_eq_true] at hd; exact hd.1
  have hd2 : noDefer post = true := by rw [hl] at hd; simp only [noDefer, List.all_append, List.all_cons, Bool.and_eq_true] at hd; exact hd.2.2
  have h0 := h (fun s' => Q .normal (s.1 + 1, s')) (fun _ hq => hq)
  have key := wpT_soundIn (free_wide (m + 1)) (P := P) hc (orc := []) (gs := ls.map (·.dst)) (ops := ls.toArray) hgs (base := s.2.nxt) (nxt := s.2.nxt + ls.length)
    (Q := fun e a' w' => ∃ s' g1', RelS s'.2 g1' a' w' ∧ IInv l W0 J s'.1 g1' w' ∧ Q e s') (g0 := g1) (w0 := w) (l2 := o :: post) (en := pre.length) (n0 := s.2.n)
    (K := fun s1 => s1.eval fo = .d (.fn (.yield l) []) ∧ s1.eval x = .d dx ∧ d < s1.n ∧ wpT ty P [] (ls.map (·.dst)) s.2.nxt (pre.length + 1) post (s1.put (some d) (.d (.bool true))) fun s' => Q .normal (s.1 + 1, s')) ?_ pre 0 { s.2 with nxt := s.2.nxt + ls.length } g1 a w hd1 (by simp) rfl rfl ⟨hr.defers, hr.size, hr.tmp, fun id hu => by have := hr.used id hu; simpa using this, hr.heap⟩ (Step.refl g1 w) h0
  · rw [← hl] at key; exact key
  · intro s1 g2 a1 w1 hnx hn0 hrel hst hk
    obtain ⟨e1, e2, e3, hk⟩ := hk
    have hi1 := hi.step hJ hst
    obtain ⟨g, hj, hs, how, hro⟩ := hi1
    have hfo := eval_rep hrel (s := s1) (fun _ => rfl) fo
    rw [e1] at hfo
    simp only [RepA, RepD] at hfo
    obtain ⟨vs, hfv, hvs⟩ := hfo
    have hvs0 : vs = [] := by
      cases vs with
      | nil => rfl
      | cons v vs => simp [RepDs] at hvs
    subst hvs0
    have hxv := eval_rep hrel (s := s1) (fun _ => rfl) x
    rw [e2] at hxv
    simp only [RepA] at hxv
    obtain ⟨fn, tmps, assign, body, hy, hround⟩ := hR s.1 g w1 dx (a1.eval x) hx hj (RepD.anywhere _ _ hfree hxv)
    simp only [wpListIn]
    have hw : Region.wanted o (yielded ls.toArray a1.tmps) = true := by simp [Region.wanted, hg]
    rw [if_pos hw]
    refine ⟨fun _ _ => trivial, ?_⟩
    have hrun : (o.semAt Fence.wide.round a1.eval).run P w1 = .ok (.round l fn tmps assign body) w1 := by
      have hsm : o.semAt Fence.wide.round a1.eval = execOp a1.eval o := Oper.semAt_eq _ _ _ (fun c hc => by rw [ho] at hc; cases hc)
      rw [hsm]
      unfold execOp
      simp only [ho, resolve, hcal, Deferred.ofValue, hfv, Sem.run_bind, Sem.run_pure, Result.andThen_ok, invoke, hargs]
      simpa using hy
    rw [hrun, Oper.uponIn_round]
    refine ⟨fun hh => absurd hh (by simp [Fence.wide]), ?_⟩
    refine RoundIn.mono (R := fun e W' => e = .returned (.bool true) ∧ ∃ g', J (s.1 + 1) g' W' ∧ Rnd l g w1 g' W') hround ?_
    rintro e w2 ⟨rfl, g', hj', hrnd⟩
    have hf1 : ∀ b, g2.foot b → b < w1.heap.size := fun b hb => hrel.heap.foot_lt hb
    obtain ⟨hi2, hfix⟩ := IInv.rnd hJ hf1 hs how hro hrnd hj'
    have hrel2 := hrel.stay hrnd.size hfix
    have hput := rel_put (U' := (· < s.2.nxt + (pre.length + 1))) (dst := some d) (v := .d (.bool true)) (u := .bool true) hrel2 hrel2.heap ⟨fun b hb => ⟨hb, rfl⟩, fun _ hx => hx, fun _ _ => .inl rfl⟩ (fun k hk => by have := hrel2.used k hk; show k < _; omega) (by simp [RepA, RepD]) (fun d' hd' => by cases hd'; exact e3)
    have hput2 := hput.congr (get' := (s1.put (some d) (.d (.bool true))).get) (obj' := (s1.put (some d) (.d (.bool true))).obj) (fun t => St.get_put s1 (some d) _ t) (fun id => put_obj s1 (some d) _ id)
    have fin := wpT_soundIn (free_wide (m + 1)) (P := P) hc (orc := []) (gs := ls.map (·.dst)) (ops := ls.toArray) hgs (base := s.2.nxt) (nxt := s.2.nxt + ls.length)
      (Q := fun e a' w' => ∃ s' g1', RelS s'.2 g1' a' w' ∧ IInv l W0 J s'.1 g1' w' ∧ Q e s') (g0 := g2) (w0 := w2) (l2 := []) (en := pre.length + 1 + post.length) (n0 := s.2.n)
      (K := fun s' => Q .normal (s.1 + 1, s')) (fun s3 g3 a3 w3 hnx3 hn3 hrel3 hst3 hk3 => ⟨(s.1 + 1, s3), g3, ⟨hrel3.defers, hrel3.size, hrel3.tmp, fun id hu => by have := hrel3.used id hu; show id < s3.nxt; omega, hrel3.heap⟩, hi2.step hJ hst3, hk3⟩)
      post (pre.length + 1) (s1.put (some d) (.d (.bool true))) g2 (a1.put (some d) (.bool true)) w2 hd2 rfl hnx hn0 hput2 (Step.refl g2 w2) hk
    rw [List.append_nil] at fin
    rw [hdst]
    exact fin

/-- AN ITERATOR: it hands over xs, one after another, whatever the caller's rounds do to the caller's own. -/
def IterOk (P : Program) (f : FuncId) (caps xs : List D) : Prop :=
  Enters P f ∧ ∀ (m l : Nat) (W0 : World) (J : Nat → G → World → Prop) (g0 : G) (ro : Nat → Prop) (vs : List Value), JOk l W0 J → JRound m l P J xs → J 0 g0 W0 → RepDs ro W0 caps vs → (∀ b, ro b → b < W0.heap.size ∧ b ≠ l ∧ ¬ g0.owns b) →
    Calls P f (.func (.yield l) #[] #[] :: vs).toArray W0 fun e W' => (∃ v, e = .returned v) ∧ ∃ g', J xs.length g' W'

theorem iter_of_awi {P : Program} {f : FuncId} {fn : Func} {c : Code} {caps xs : List D} (hf : P.funcs[f]? = some fn) (hb : fn.body = some c) (hname : (fn.name == "runtime.NumGoroutine") = false) (hn : caps.length + 1 ≤ fn.ntmps) (hres : fn.results = #[])
    (h : ∀ (m l : Nat) (W0 : World) (J : Nat → G → World → Prop), JOk l W0 J → JRound m l P J xs → AWi l W0 J P c (fun e s' => (e = .normal ∨ e = .ret) ∧ s'.1 = xs.length) (0, start fn.ntmps (.fn (.yield l) [] :: caps))) : IterOk P f caps xs := by
  refine ⟨⟨fn, hf, hname, by rw [hb]; rfl⟩, fun m l W0 J g0 ro vs hJ hR hj0 hd hro => ?_⟩
  have hd2 : RepDs ro W0 (.fn (.yield l) [] :: caps) (.func (.yield l) #[] #[] :: vs) := by
    simp only [RepDs, RepD]
    exact ⟨_, vs, rfl, ⟨[], rfl, rfl⟩, hd⟩
  have hst := start_rel (fun b hb => (hro b hb).1) hd2 (n := fn.ntmps) (by simpa using hn)
  refine calls_of_wp hf hb (wp_mono (h m l W0 J hJ hR _ _ W0 hst ⟨g0, hj0, ⟨?_, ?_⟩, ?_, ?_⟩) fun e a' w' ⟨s', g', h1, ⟨g, hj, _⟩, h3, h4⟩ => ?_)
  · rintro b ⟨_, _, hh, _⟩; cases hh
  · intro b ho hr; exact (hro b hr).2.2 ho
  · rintro b ⟨_, _, hh, _⟩; cases hh
  · intro hr; exact (hro l hr).2.1 rfl
  · have hj' : J xs.length g w' := by rw [← h4]; exact hj
    have fin : a'.defers = [] ∧ ∃ v, (results fn a'.tmps).run P w' = .ok v w' ∧ (∃ v', Ending.returned v = .returned v') ∧ ∃ g', J xs.length g' w' := ⟨h1.defers, _, results_none hres _ _ _, ⟨_, rfl⟩, g, hj'⟩
    rcases h3 with rfl | rfl
    · exact fin
    · exact fin

section
variable {l : Nat} {W0 : World} {J : Nat → G → World → Prop} {P : Program} {K : Nat × St → Prop} {Q : Exit → Nat × St → Prop} {s : Nat × St} {id i : Nat}
theorem awi_skip (h : Q .normal s) : AWi l W0 J P .skip Q s := fun g a w hr hi => wp_skip ⟨s, g, hr, hi, h⟩
theorem awi_exit {id : Nat} (h : Q (.exit id) s) : AWi l W0 J P (.exit id) Q s := fun g a w hr hi => wp_exit ⟨s, g, hr, hi, h⟩
theorem awi_ret (h : Q .ret s) : AWi l W0 J P .ret Q s := fun g a w hr hi => wp_ret ⟨s, g, hr, hi, h⟩
theorem si_n (h : K s) : seqI K Q .normal s := h
theorem si_r (h : Q .ret s) : seqI K Q .ret s := h
theorem si_x (h : Q (.exit i) s) : seqI K Q (.exit i) s := h
theorem bi_n (h : Q .normal s) : blockI id Q .normal s := h
theorem bi_r (h : Q .ret s) : blockI id Q .ret s := h
theorem bi_x (h : Q .normal s) : blockI id Q (.exit id) s := by simp only [blockI, if_true]; exact h
theorem bi_y (hn : Nat.beq i id = false) (h : Q (.exit i) s) : blockI id Q (.exit i) s := by
  simp only [blockI]
  rw [if_neg (Nat.ne_of_beq_eq_false hn)]; exact h
end
end Go.Abs
