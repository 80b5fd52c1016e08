/-
  Texts of this seat put together: AbsV, Z1, AbsW, AbsU, Z2, T5, AbsS, S1.
-/
import Derived.Test.YtknelhiejjdioaaI6
import Derived.Test.YtknelhiejjdioaaJ4
import Derived.Test.YtknelhiejjdioaaJ3
import Derived.RangeFuncLeaves
import Derived.Shelf.SlSortCmp.NoneTotal
import Derived.Lib.QuietBelow
import Derived.Test.YtknelhiejjdioaaChecked
import Derived.Deep.RegionHeld3
import Derived.Deep.DrawnRows
set_option linter.unusedVariables false
set_option linter.unusedSimpArgs false
namespace Go.Abs
open Go.RowKit

/-- The blocks that a ghost speaks of. -/
def G.foot (g : G) (b : Nat) : Prop := g.owns b ∨ g.ro b
theorem HRel.foot_lt {g : G} {obj : Nat → Option Ob} {w : World} (h : HRel g obj w) {b : Nat} (hb : g.foot b) : b < w.heap.size := by
  rcases hb with ⟨id, L, hL, hv, rfl⟩ | hb
  · exact ((h.live id L hL).2 hv).1
  · exact h.ro b hb
theorem HRel.stay {g : G} {obj : Nat → Option Ob} {w w' : World} (h : HRel g obj w) (hsz : w.heap.size ≤ w'.heap.size) (hb : ∀ b, g.foot b → w'.heap[b]? = w.heap[b]?) : HRel g obj w' ∧ Later g w g w' := by
  have hlater : Later g w g w' := ⟨fun b hr => ⟨hr, hb b (.inr hr)⟩, fun _ hx => hx, fun _ _ => .inl rfl⟩
  refine ⟨⟨fun id o ho => ?_, h.gone, fun id L hL => ⟨(h.live id L hL).1, fun hv => ⟨Nat.lt_of_lt_of_le ((h.live id L hL).2 hv).1 hsz, ((h.live id L hL).2 hv).2⟩⟩, h.inj, fun b hr => Nat.lt_of_lt_of_le (h.ro b hr) hsz⟩, hlater⟩
  obtain ⟨L, hL, hok⟩ := h.own id o ho
  exact ⟨L, hL, hok.later hlater fun hv => hb _ (.inl ⟨id, L, hL, hv, rfl⟩)⟩
theorem Rel.stay {U : Nat → Prop} {g : G} {get : Nat → AV} {obj : Nat → Option Ob} {n : Nat} {a : Act} {w w' : World} (h : Rel U g get obj n a w) (hsz : w.heap.size ≤ w'.heap.size) (hb : ∀ b, g.foot b → w'.heap[b]? = w.heap[b]?) : Rel U g get obj n a w' := by
  obtain ⟨h1, h2⟩ := h.heap.stay hsz hb
  exact ⟨h.defers, h.size, fun t => RepA.later h2 _ _ (h.tmp t), h.used, h1⟩

/-- What the one may write, the other does not speak of. -/
structure Sep (g1 g2 : G) : Prop where
  own : ∀ b, g1.owns b → ¬ g2.foot b
  own' : ∀ b, g2.owns b → ¬ g1.ro b
theorem Sep.symm {g1 g2 : G} (h : Sep g1 g2) : Sep g2 g1 :=
  ⟨fun b h2 h1 => h1.elim (fun ho => h.own b ho (.inl h2)) (h.own' b h2), fun b h1 h2 => h.own b h1 (.inr h2)⟩

/-- What a step of one side does, but for a block x of the machine's own. -/
structure Rnd (x : Nat) (g : G) (w : World) (g' : G) (w' : World) : Prop where
  size : w.heap.size ≤ w'.heap.size
  block : ∀ b, b < w.heap.size → ¬ g.owns b → b ≠ x → w'.heap[b]? = w.heap[b]?
  own : ∀ b, g'.owns b → w.heap.size ≤ b ∨ g.owns b
  ro' : ∀ b, g'.ro b → g.ro b ∨ w.heap.size ≤ b ∨ g.owns b
theorem Step.rnd {g g' : G} {w w' : World} (h : Step g w g' w') (x : Nat) : Rnd x g w g' w' := ⟨h.size, fun b h1 h2 _ => h.block b h1 h2, h.own, h.ro'⟩

/-- A step of g1 leaves g2 as it is, and both apart. -/
theorem Sep.rnd {x : Nat} {g1 g1' g2 : G} {w w' : World} (hs : Sep g1 g2) (h2 : ∀ b, g2.foot b → b < w.heap.size ∧ b ≠ x) (st : Rnd x g1 w g1' w') : (∀ b, g2.foot b → w'.heap[b]? = w.heap[b]?) ∧ Sep g1' g2 := by
  refine ⟨fun b hb => st.block b (h2 b hb).1 (fun ho => hs.own b ho hb) (h2 b hb).2, fun b ho hf => ?_, fun b ho hr => ?_⟩
  · rcases st.own b ho with h | h
    · have := (h2 b hf).1; omega
    · exact hs.own b h hf
  · have hf := h2 b (.inl ho)
    rcases st.ro' b hr with h | h | h
    · exact hs.own' b ho h
    · omega
    · exact hs.own b h (.inl ho)

/-- What an iterator is told of the caller's side: it stays where the iterator leaves it alone; 'W0' the world in which the iterator was called, 'l' the loop's record. -/
structure JOk (l : Nat) (W0 : World) (J : Nat → G → World → Prop) : Prop where
  lrec : l < W0.heap.size
  size : ∀ k g W, J k g W → W0.heap.size ≤ W.heap.size ∧ ∀ b, g.foot b → b < W.heap.size
  stay : ∀ k g W W', J k g W → W'.os = W.os → (W'.tape = W.tape ∧ W.drawn ≤ W'.drawn) → W'.output = W.output → W.heap.size ≤ W'.heap.size → (∀ b, b < W0.heap.size ∨ g.foot b → W'.heap[b]? = W.heap[b]?) → J k g W'

def IInv (l : Nat) (W0 : World) (J : Nat → G → World → Prop) (k : Nat) (g1 : G) (w : World) : Prop :=
  ∃ g, J k g w ∧ Sep g1 g ∧ (∀ b, g1.owns b → W0.heap.size ≤ b) ∧ ¬ g1.ro l

theorem IInv.step {l : Nat} {W0 : World} {J : Nat → G → World → Prop} (hJ : JOk l W0 J) {k : Nat} {g1 g1' : G} {w w' : World} (h : IInv l W0 J k g1 w) (st : Step g1 w g1' w') : IInv l W0 J k g1' w' := by
  obtain ⟨g, hj, hs, ho, hr⟩ := h
  obtain ⟨hsz, hf⟩ := hJ.size k g w hj
  have hl := hJ.lrec
  refine ⟨g, hJ.stay k g w w' hj st.os st.tape st.output st.size ?_, ⟨?_, ?_⟩, ?_, ?_⟩
  · rintro b (hb | hb)
    · exact st.block b (by omega) fun h => by have := ho b h; omega
    · exact st.block b (hf b hb) fun h => hs.own b h hb
  · intro b h1 h2
    rcases st.own b h1 with h | h
    · have := hf b h2; omega
    · exact hs.own b h h2
  · intro b h1 h2
    have := hf b (.inl h1)
    rcases st.ro' b h2 with h | h | h
    · exact hs.own' b h1 h
    · omega
    · exact hs.own b h (.inl h1)
  · intro b h1
    rcases st.own b h1 with h | h
    · omega
    · exact ho b h
  · intro h1
    rcases st.ro' l h1 with h | h | h
    · exact hr h
    · omega
    · have := ho l h; omega

/-- A round of the caller's. -/
theorem IInv.rnd {l : Nat} {W0 : World} {J : Nat → G → World → Prop} (hJ : JOk l W0 J) {k : Nat} {g1 g g' : G} {w w' : World} (hf1 : ∀ b, g1.foot b → b < w.heap.size) (hs : Sep g1 g) (ho : ∀ b, g1.owns b → W0.heap.size ≤ b) (hr : ¬ g1.ro l) (st : Rnd l g w g' w') (hj' : J (k + 1) g' w') :
    IInv l W0 J (k + 1) g1 w' ∧ ∀ b, g1.foot b → w'.heap[b]? = w.heap[b]? := by
  have hl := hJ.lrec
  obtain ⟨h1, h2⟩ := hs.symm.rnd (x := l) (fun b hb => ⟨hf1 b hb, fun e => by
    subst e
    rcases hb with hb | hb
    · have := ho _ hb; omega
    · exact hr hb⟩) st
  exact ⟨⟨g', hj', h2.symm, ho, hr⟩, h1⟩

/-- An iterator's code, over states, the caller's side and the number of rounds. -/
def AWi (l : Nat) (W0 : World) (J : Nat → G → World → Prop) (P : Program) (c : Code) (Q : Exit → Nat × St → Prop) (s : Nat × St) : Prop :=
  ∀ g1 a w, RelS s.2 g1 a w → IInv l W0 J s.1 g1 w → c.wp P (fun e a' w' => ∃ s' g1', RelS s'.2 g1' a' w' ∧ IInv l W0 J s'.1 g1' w' ∧ Q e s') a w

section
variable {l : Nat} {W0 : World} {J : Nat → G → World → Prop} {P : Program} {Q : Exit → Nat × St → Prop} {s : Nat × St}
def seqI (K : Nat × St → Prop) (Q : Exit → Nat × St → Prop) : Exit → Nat × St → Prop
  | .normal, s => K s
  | e, s => Q e s
def blockI (id : Nat) (Q : Exit → Nat × St → Prop) : Exit → Nat × St → Prop
  | .exit id', s => if id' = id then Q .normal s else Q (.exit id') s
  | e, s => Q e s

theorem awi_of_awp (hJ : JOk l W0 J) {c : Code} (h : AWp P c (fun e s' => Q e (s.1, s')) s.2) : AWi l W0 J P c Q s :=
  fun g1 a w hr hi => wp_mono (h g1 a w hr) fun e a' w' ⟨s', g', h1, h2, h3⟩ => ⟨(s.1, s'), g', h1, hi.step hJ h2, h3⟩
theorem awi_mono {c : Code} {Q' : Exit → Nat × St → Prop} (h : AWi l W0 J P c Q s) (hq : ∀ e s, Q e s → Q' e s) : AWi l W0 J P c Q' s :=
  fun g a w hr hi => wp_mono (h g a w hr hi) fun e a' w' ⟨s', g', h1, h2, h3⟩ => ⟨s', g', h1, h2, hq _ _ h3⟩
theorem awi_seq {x y : Code} (h : AWi l W0 J P x (seqI (fun s' => AWi l W0 J P y Q s') Q) s) : AWi l W0 J P (.seq x y) Q s := by
  intro g a w hr hi
  refine wp_seq (wp_mono (h g a w hr hi) fun e a' w' ⟨s', g', h1, h2, h3⟩ => ?_)
  cases e with
  | normal => exact h3 g' a' w' h1 h2
  | _ => exact ⟨s', g', h1, h2, h3⟩
theorem awi_cond {c : Operand} {x y : Code} {b : Bool} (hc : s.2.eval c = .d (.bool b)) (ht : b = true → AWi l W0 J P x Q s) (hf : b = false → AWi l W0 J P y Q s) : AWi l W0 J P (.cond c x y) Q s := by
  intro g a w hr hi
  have h1 := eval_rep hr (fun _ => rfl) c
  rw [hc] at h1
  simp only [RepA, RepD] at h1
  exact wp_cond_split h1 (fun hb => ht hb g a w hr hi) (fun hb => hf hb g a w hr hi)
theorem awi_block {id : Nat} {c : Code} (h : AWi l W0 J P c (blockI id Q) s) : AWi l W0 J P (.block id c) Q s := by
  intro g a w hr hi
  refine wp_block (wp_mono (h g a w hr hi) fun e a' w' ⟨s', g', h1, h2, h3⟩ => ?_)
  cases e with
  | exit id' =>
    simp only [blockI] at h3
    simp only [Exit.inBlock]
    split at h3
    · rename_i he; rw [if_pos he]; exact ⟨s', g', h1, h2, h3⟩
    · rename_i he; rw [if_neg he]; exact ⟨s', g', h1, h2, h3⟩
  | _ => exact ⟨s', g', h1, h2, h3⟩
theorem awi_weak (hJ : JOk l W0 J) {c : Code} {s' : St} (hw : Weak s.2 s') (h : AWi l W0 J P c Q (s.1, s')) : AWi l W0 J P c Q s := by
  intro g a w hr hi
  obtain ⟨g', hr', hs⟩ := hw g a w hr
  exact h g' a w hr' (hi.step hJ hs)
theorem awi_loop (hJ : JOk l W0 J) {c : Code} {β : Type} (I : β → Nat × St) (inv : β → Prop) (meas : β → Nat) (b0 : β) (h0 : Weak s.2 (I b0).2) (hk : s.1 = (I b0).1) (hi : inv b0)
    (round : ∀ b, inv b → AWi l W0 J P c (seqI (fun s' => ∃ b', inv b' ∧ meas b' < meas b ∧ s'.1 = (I b').1 ∧ Weak s'.2 (I b').2) Q) (I b)) : AWi l W0 J P (.loop c) Q s := by
  refine awi_weak hJ h0 ?_
  rw [hk]
  intro g a w hr hiv
  refine wp_loop_rel (fun n a' w' => ∃ b g', inv b ∧ meas b = n ∧ RelS (I b).2 g' a' w' ∧ IInv l W0 J (I b).1 g' w') ?_ (n := meas b0) ⟨b0, g, hi, rfl, hr, hiv⟩
  rintro n a1 w1 ⟨b, g1, hb, rfl, hr1, hs1⟩
  refine wp_mono (round b hb g1 a1 w1 hr1 hs1) fun e a2 w2 ⟨s2, g2, h1, h2, h3⟩ => ?_
  cases e with
  | normal =>
    obtain ⟨b', k1, k2, k4, k3⟩ := h3
    obtain ⟨g3, h4, h5⟩ := k3 g2 a2 w2 h1
    rw [k4] at h2
    exact ⟨meas b', k2, b', g3, k1, rfl, h4, h2.step hJ h5⟩
  | _ => exact ⟨s2, g2, h1, h2, h3⟩
end

/-- What a round of the caller's does, at each item that the iterator hands over. -/
def JRound (m l : Nat) (P : Program) (J : Nat → G → World → Prop) (xs : List D) : Prop :=
  ∀ (k : Nat) (g : G) (W : World) (x : D) (v : Value), xs[k]? = some x → J k g W → RepD (fun _ => False) W x v →
    YieldAt Fence.wide m P l #[v] W fun e W' => e = .returned (.bool true) ∧ ∃ g', J (k + 1) g' W' ∧ Rnd l g W g' W'

/-- The region in which yield is called. -/
theorem awi_yield {l : Nat} {W0 : World} {J : Nat → G → World → Prop} {P : Program} {ty : TypeId → Option TI} (hc : Ctx P ty) (hJ : JOk l W0 J) {m : Nat} {xs : List D} (hR : JRound m l P J xs) {id : Nat} {ls pre post : List Oper} {o : Oper} (hl : ls = pre ++ o :: post) (hg : o.guard = none) {cl : Call} {fo x : Operand} (ho : o.op = .call cl) (hcal : cl.callee = .value fo) (hargs : cl.args = #[x]) (d : Tmp) (hdst : o.dst = some d) (hd : noDefer ls = true) {s : Nat × St} {dx : D} (hx : xs[s.1]? = some dx) (hfree : dx.free = true) {Q : Exit → Nat × St → Prop}
    (h : ∀ K : St → Prop, (∀ s', Q .normal (s.1 + 1, s') → K s') → wpT ty P [] (ls.map (·.dst)) s.2.nxt 0 pre { s.2 with nxt := s.2.nxt + ls.length } fun s1 => s1.eval fo = .d (.fn (.yield l) []) ∧ s1.eval x = .d dx ∧ d < s1.n ∧ wpT ty P [] (ls.map (·.dst)) s.2.nxt (pre.length + 1) post (s1.put (some d) (.d (.bool true))) K) :
    AWi l W0 J P (.region id ls.toArray false) Q s := by
  intro g1 a w hr hi
  rw [← wpIn_wide (n := m + 1)]
  refine wpIn_region_lit ?_
  have hgs : ∀ j : Nat, (ls.map (·.dst))[j]? = (ls.toArray[j]?).map fun o : Oper => o.dst := by intro j; simp
  have hlen : ls.length = pre.length + 1 + post.length := by rw [hl]; simp; omega
  have hd1 : noDefer pre = true := by rw [hl] at hd; simp only [noDefer, List.all_append, Bool.and_eq_true] at hd; exact hd.1
  have hd2 : noDefer post = true := by rw [hl] at hd; simp only [noDefer, List.all_append, List.all_cons, Bool.and_eq_true] at hd; exact hd.2.2
  have h0 := h (fun s' => Q .normal (s.1 + 1, s')) (fun _ hq => hq)
  have key := wpT_soundIn (free_wide (m + 1)) (P := P) hc (orc := []) (gs := ls.map (·.dst)) (ops := ls.toArray) hgs (base := s.2.nxt) (nxt := s.2.nxt + ls.length)
    (Q := fun e a' w' => ∃ s' g1', RelS s'.2 g1' a' w' ∧ IInv l W0 J s'.1 g1' w' ∧ Q e s') (g0 := g1) (w0 := w) (l2 := o :: post) (en := pre.length) (n0 := s.2.n)
    (K := fun s1 => s1.eval fo = .d (.fn (.yield l) []) ∧ s1.eval x = .d dx ∧ d < s1.n ∧ wpT ty P [] (ls.map (·.dst)) s.2.nxt (pre.length + 1) post (s1.put (some d) (.d (.bool true))) fun s' => Q .normal (s.1 + 1, s')) ?_ pre 0 { s.2 with nxt := s.2.nxt + ls.length } g1 a w hd1 (by simp) rfl rfl ⟨hr.defers, hr.size, hr.tmp, fun id hu => by have := hr.used id hu; simpa using this, hr.heap⟩ (Step.refl g1 w) h0
  · rw [← hl] at key; exact key
  · intro s1 g2 a1 w1 hnx hn0 hrel hst hk
    obtain ⟨e1, e2, e3, hk⟩ := hk
    have hi1 := hi.step hJ hst
    obtain ⟨g, hj, hs, how, hro⟩ := hi1
    have hfo := eval_rep hrel (s := s1) (fun _ => rfl) fo
    rw [e1] at hfo
    simp only [RepA, RepD] at hfo
    obtain ⟨vs, hfv, hvs⟩ := hfo
    have hvs0 : vs = [] := by
      cases vs with
      | nil => rfl
      | cons v vs => simp [RepDs] at hvs
    subst hvs0
    have hxv := eval_rep hrel (s := s1) (fun _ => rfl) x
    rw [e2] at hxv
    simp only [RepA] at hxv
    obtain ⟨fn, tmps, assign, body, hy, hround⟩ := hR s.1 g w1 dx (a1.eval x) hx hj (RepD.anywhere _ _ hfree hxv)
    simp only [wpListIn]
    have hw : Region.wanted o (yielded ls.toArray a1.tmps) = true := by simp [Region.wanted, hg]
    rw [if_pos hw]
    refine ⟨fun _ _ => trivial, ?_⟩
    have hrun : (o.semAt Fence.wide.round a1.eval).run P w1 = .ok (.round l fn tmps assign body) w1 := by
      have hsm : o.semAt Fence.wide.round a1.eval = execOp a1.eval o := Oper.semAt_eq _ _ _ (fun c hc => by rw [ho] at hc; cases hc)
      rw [hsm]
      unfold execOp
      simp only [ho, resolve, hcal, Deferred.ofValue, hfv, Sem.run_bind, Sem.run_pure, Result.andThen_ok, invoke, hargs]
      simpa using hy
    rw [hrun, Oper.uponIn_round]
    refine ⟨fun hh => absurd hh (by simp [Fence.wide]), ?_⟩
    refine RoundIn.mono (R := fun e W' => e = .returned (.bool true) ∧ ∃ g', J (s.1 + 1) g' W' ∧ Rnd l g w1 g' W') hround ?_
    rintro e w2 ⟨rfl, g', hj', hrnd⟩
    have hf1 : ∀ b, g2.foot b → b < w1.heap.size := fun b hb => hrel.heap.foot_lt hb
    obtain ⟨hi2, hfix⟩ := IInv.rnd hJ hf1 hs how hro hrnd hj'
    have hrel2 := hrel.stay hrnd.size hfix
    have hput := rel_put (U' := (· < s.2.nxt + (pre.length + 1))) (dst := some d) (v := .d (.bool true)) (u := .bool true) hrel2 hrel2.heap ⟨fun b hb => ⟨hb, rfl⟩, fun _ hx => hx, fun _ _ => .inl rfl⟩ (fun k hk => by have := hrel2.used k hk; show k < _; omega) (by simp [RepA, RepD]) (fun d' hd' => by cases hd'; exact e3)
    have hput2 := hput.congr (get' := (s1.put (some d) (.d (.bool true))).get) (obj' := (s1.put (some d) (.d (.bool true))).obj) (fun t => St.get_put s1 (some d) _ t) (fun id => put_obj s1 (some d) _ id)
    have fin := wpT_soundIn (free_wide (m + 1)) (P := P) hc (orc := []) (gs := ls.map (·.dst)) (ops := ls.toArray) hgs (base := s.2.nxt) (nxt := s.2.nxt + ls.length)
      (Q := fun e a' w' => ∃ s' g1', RelS s'.2 g1' a' w' ∧ IInv l W0 J s'.1 g1' w' ∧ Q e s') (g0 := g2) (w0 := w2) (l2 := []) (en := pre.length + 1 + post.length) (n0 := s.2.n)
      (K := fun s' => Q .normal (s.1 + 1, s')) (fun s3 g3 a3 w3 hnx3 hn3 hrel3 hst3 hk3 => ⟨(s.1 + 1, s3), g3, ⟨hrel3.defers, hrel3.size, hrel3.tmp, fun id hu => by have := hrel3.used id hu; show id < s3.nxt; omega, hrel3.heap⟩, hi2.step hJ hst3, hk3⟩)
      post (pre.length + 1) (s1.put (some d) (.d (.bool true))) g2 (a1.put (some d) (.bool true)) w2 hd2 rfl hnx hn0 hput2 (Step.refl g2 w2) hk
    rw [List.append_nil] at fin
    rw [hdst]
    exact fin

/-- AN ITERATOR: it hands over xs, one after another, whatever the caller's rounds do to the caller's own. -/
def IterOk (P : Program) (f : FuncId) (caps xs : List D) : Prop :=
  Enters P f ∧ ∀ (m l : Nat) (W0 : World) (J : Nat → G → World → Prop) (g0 : G) (ro : Nat → Prop) (vs : List Value), JOk l W0 J → JRound m l P J xs → J 0 g0 W0 → RepDs ro W0 caps vs → (∀ b, ro b → b < W0.heap.size ∧ b ≠ l ∧ ¬ g0.owns b) →
    Calls P f (.func (.yield l) #[] #[] :: vs).toArray W0 fun e W' => (∃ v, e = .returned v) ∧ ∃ g', J xs.length g' W'

theorem iter_of_awi {P : Program} {f : FuncId} {fn : Func} {c : Code} {caps xs : List D} (hf : P.funcs[f]? = some fn) (hb : fn.body = some c) (hname : (fn.name == "runtime.NumGoroutine") = false) (hn : caps.length + 1 ≤ fn.ntmps) (hres : fn.results = #[])
    (h : ∀ (m l : Nat) (W0 : World) (J : Nat → G → World → Prop), JOk l W0 J → JRound m l P J xs → AWi l W0 J P c (fun e s' => (e = .normal ∨ e = .ret) ∧ s'.1 = xs.length) (0, start fn.ntmps (.fn (.yield l) [] :: caps))) : IterOk P f caps xs := by
  refine ⟨⟨fn, hf, hname, by rw [hb]; rfl⟩, fun m l W0 J g0 ro vs hJ hR hj0 hd hro => ?_⟩
  have hd2 : RepDs ro W0 (.fn (.yield l) [] :: caps) (.func (.yield l) #[] #[] :: vs) := by
    simp only [RepDs, RepD]
    exact ⟨_, vs, rfl, ⟨[], rfl, rfl⟩, hd⟩
  have hst := start_rel (fun b hb => (hro b hb).1) hd2 (n := fn.ntmps) (by simpa using hn)
  refine calls_of_wp hf hb (wp_mono (h m l W0 J hJ hR _ _ W0 hst ⟨g0, hj0, ⟨?_, ?_⟩, ?_, ?_⟩) fun e a' w' ⟨s', g', h1, ⟨g, hj, _⟩, h3, h4⟩ => ?_)
  · rintro b ⟨_, _, hh, _⟩; cases hh
  · intro b ho hr; exact (hro b hr).2.2 ho
  · rintro b ⟨_, _, hh, _⟩; cases hh
  · intro hr; exact (hro l hr).2.1 rfl
  · have hj' : J xs.length g w' := by rw [← h4]; exact hj
    have fin : a'.defers = [] ∧ ∃ v, (results fn a'.tmps).run P w' = .ok v w' ∧ (∃ v', Ending.returned v = .returned v') ∧ ∃ g', J xs.length g' w' := ⟨h1.defers, _, results_none hres _ _ _, ⟨_, rfl⟩, g, hj'⟩
    rcases h3 with rfl | rfl
    · exact fin
    · exact fin

section
variable {l : Nat} {W0 : World} {J : Nat → G → World → Prop} {P : Program} {K : Nat × St → Prop} {Q : Exit → Nat × St → Prop} {s : Nat × St} {id i : Nat}
theorem awi_skip (h : Q .normal s) : AWi l W0 J P .skip Q s := fun g a w hr hi => wp_skip ⟨s, g, hr, hi, h⟩
theorem awi_exit {id : Nat} (h : Q (.exit id) s) : AWi l W0 J P (.exit id) Q s := fun g a w hr hi => wp_exit ⟨s, g, hr, hi, h⟩
theorem awi_ret (h : Q .ret s) : AWi l W0 J P .ret Q s := fun g a w hr hi => wp_ret ⟨s, g, hr, hi, h⟩
theorem si_n (h : K s) : seqI K Q .normal s := h
theorem si_r (h : Q .ret s) : seqI K Q .ret s := h
theorem si_x (h : Q (.exit i) s) : seqI K Q (.exit i) s := h
theorem bi_n (h : Q .normal s) : blockI id Q .normal s := h
theorem bi_r (h : Q .ret s) : blockI id Q .ret s := h
theorem bi_x (h : Q .normal s) : blockI id Q (.exit id) s := by simp only [blockI, if_true]; exact h
theorem bi_y (hn : Nat.beq i id = false) (h : Q (.exit i) s) : blockI id Q (.exit i) s := by
  simp only [blockI]
  rw [if_neg (Nat.ne_of_beq_eq_false hn)]; exact h
end
end Go.Abs

set_option linter.unusedVariables false
set_option linter.unusedSimpArgs false
set_option maxRecDepth 100000
namespace Go.Proofs.Ytknelhiejjdioaa
open Go.Abs

/-! The iterator over a region's cells. -/
theorem all_ok (R : List Row) : PC Try.prog 100 [.agg (regRow R)] (.p (.fn (.func 129) [.rp (regRow R)])) := by
  refine pc_of_awp cx (fn := Try.f100) (c := _) Try.func100 rfl rfl (Nat.le_of_ble_eq_true rfl) ?_
  rw [Try.ntmps100]; refine Nav.imp ?_
  refine awp_region cx [] fun K hK => ?_
  simp [push_cast]
  repeat (refine And.intro (by clear hK; intros; first | omega | (simp_all; done) | (simp_all <;> omega)) ?_)
  refine hK _ ?_; clear hK K; refine Nav.imp ?_
  refine awp_region cx [] fun K hK => ?_
  simp [push_cast]
  repeat (refine And.intro (by clear hK; intros; first | omega | (simp_all; done) | (simp_all <;> omega)) ?_)
  refine hK _ ?_; clear hK K; refine Nav.imp ?_
  simp [push_cast]
theorem cells_at {R : List Row} {i j q : Nat} {w : Row} {r : Run} (hw : R[i]? = some w) (hr : w.runs[j]? = some r) (hq : q < (r.b - r.a).toNat) :
    (regCells R)[(rowsTo R i).length + ((runsTo w j).length + q)]? = some ⟨r.a + q, w.y⟩ := by
  have h1 : regCells R = rowsTo R i ++ rowCells w ++ (R.drop (i + 1)).flatMap rowCells := flat_split rowCells hw
  have h2 : rowCells w = runsTo w j ++ runCells w.y r ++ (w.runs.drop (j + 1)).flatMap (runCells w.y) := flat_split (runCells w.y) hr
  have hl := runCells_len w.y r
  rw [h1, List.append_assoc, List.getElem?_append_right (by omega), Nat.add_sub_cancel_left, h2]
  rw [List.append_assoc, List.append_assoc, List.getElem?_append_right (by omega), Nat.add_sub_cancel_left, List.getElem?_append_left (by omega)]
  simp [runCells, hq]
def itemsOf (R : List Row) : List D := (regCells R).map fun c => .agg c.row

set_option maxHeartbeats 4000000 in
theorem iter_ok (R : List Row) (hsm : smallR R) (hv : validR R = true) : IterOk Try.prog 129 [.rp (regRow R)] (itemsOf R) := by
  have hRl := hsm.1
  have hlen : (itemsOf R).length = (regCells R).length := by simp [itemsOf]
  rw [← rowsTo_all] at hlen
  refine iter_of_awi (fn := Try.f129) (c := _) Try.func129 rfl rfl (Nat.le_of_ble_eq_true rfl) rfl fun m l W0 J hJ hR => ?_
  rw [Try.ntmps129]; (repeat (first | refine awi_seq ?_ | refine awi_block ?_ | refine awi_skip ?_ | refine awi_exit ?_ | refine awi_ret ?_ | refine si_n ?_ | refine si_r ?_ | refine si_x ?_ | refine bi_n ?_ | refine bi_r ?_ | refine bi_x ?_ | refine bi_y rfl ?_))
  rw [hlen]
  clear hlen
  refine awi_of_awp hJ (awp_region cx [] fun K hK => ?_)
  simp [push_cast]
  repeat (refine And.intro (by clear hK; intros; first | omega | (simp_all; done) | (simp_all <;> omega)) ?_)
  refine hK _ ?_; clear hK K; (try dsimp only); (repeat (first | refine awi_seq ?_ | refine awi_block ?_ | refine awi_skip ?_ | refine awi_exit ?_ | refine awi_ret ?_ | refine si_n ?_ | refine si_r ?_ | refine si_x ?_ | refine bi_n ?_ | refine bi_r ?_ | refine bi_x ?_ | refine bi_y rfl ?_))
  refine awi_loop hJ (β := Nat) (fun i => ((rowsTo R i).length, ⟨39, [(0, .d (.fn (.yield l) [])), (9, .d (encRows R)), (10, .d (.int .i64 R.length)), (11, .d (.int .i64 i))], [], 0⟩)) (fun i => i ≤ R.length) (fun i => R.length - i) 0 ?_ (by simp [rowsTo]) (Nat.zero_le _) ?_
  · refine weak_of [] rfl (by simp [upT, up, upL, push_cast]) (by simp [upH, upR, upL, up, push_cast]) (by simp [namesOk, push_cast]) (by simp [olds])
  · intro i hi
    replace hi : i ≤ R.length := hi
    (repeat (first | refine awi_seq ?_ | refine awi_block ?_ | refine awi_skip ?_ | refine awi_exit ?_ | refine awi_ret ?_ | refine si_n ?_ | refine si_r ?_ | refine si_x ?_ | refine bi_n ?_ | refine bi_r ?_ | refine bi_x ?_ | refine bi_y rfl ?_))
    refine awi_of_awp hJ (awp_region cx [] fun K hK => ?_)
    simp [push_cast]
    repeat (refine And.intro (by clear hK; intros; first | omega | (simp_all; done) | (simp_all <;> omega)) ?_)
    refine hK _ ?_; clear hK K; (try dsimp only); (repeat (first | refine awi_seq ?_ | refine awi_block ?_ | refine awi_skip ?_ | refine awi_exit ?_ | refine awi_ret ?_ | refine si_n ?_ | refine si_r ?_ | refine si_x ?_ | refine bi_n ?_ | refine bi_r ?_ | refine bi_x ?_ | refine bi_y rfl ?_))
    refine awi_cond (b := decide ((i : Int) < R.length)) (by simp [push_cast]) (fun hb => ?_) (fun hb => ?_) <;> ((repeat (first | refine awi_seq ?_ | refine awi_block ?_ | refine awi_skip ?_ | refine awi_exit ?_ | refine awi_ret ?_ | refine si_n ?_ | refine si_r ?_ | refine si_x ?_ | refine bi_n ?_ | refine bi_r ?_ | refine bi_x ?_ | refine bi_y rfl ?_)))
    · have hlt : i < R.length := by simpa using hb
      obtain ⟨w, hw⟩ := getq hlt
      have e0 := wrap_i64 (n := (i : Int) + 1) (by omega) (by omega)
      have hwl := hsm.2 w (List.mem_of_getElem? hw)
      have hfine := (validR_at hv hw).2
      have hnx : (rowsTo R i).length + (runsTo w w.runs.length).length = (rowsTo R (i + 1)).length := by rw [rowsTo_next hw, runsTo_all, List.length_append]
      refine awi_of_awp hJ (awp_region cx [] fun K hK => ?_)
      simp [push_cast, hw, Row.row]
      repeat (refine And.intro (by clear hK; intros; first | omega | (simp_all; done) | (simp_all <;> omega)) ?_)
      refine hK _ ?_; clear hK K; (try dsimp only); (repeat (first | refine awi_seq ?_ | refine awi_block ?_ | refine awi_skip ?_ | refine awi_exit ?_ | refine awi_ret ?_ | refine si_n ?_ | refine si_r ?_ | refine si_x ?_ | refine bi_n ?_ | refine bi_r ?_ | refine bi_x ?_ | refine bi_y rfl ?_))
      refine awi_of_awp hJ (awp_region cx [] fun K hK => ?_)
      simp [push_cast]
      repeat (refine And.intro (by clear hK; intros; first | omega | (simp_all; done) | (simp_all <;> omega)) ?_)
      refine hK _ ?_; clear hK K; (try dsimp only); (repeat (first | refine awi_seq ?_ | refine awi_block ?_ | refine awi_skip ?_ | refine awi_exit ?_ | refine awi_ret ?_ | refine si_n ?_ | refine si_r ?_ | refine si_x ?_ | refine bi_n ?_ | refine bi_r ?_ | refine bi_x ?_ | refine bi_y rfl ?_))
      generalize hX : (rowsTo R i).length = X at *
      refine awi_loop hJ (β := Nat) (fun j => (X + (runsTo w j).length, ⟨39, [(0, .d (.fn (.yield l) [])), (4, .ptr 0 0 0), (9, .d (encRows R)), (10, .d (.int .i64 R.length)), (11, .d (.int .i64 i)), (16, .d (encRuns w.runs)), (17, .d (.int .i64 w.runs.length)), (18, .d (.int .i64 j))], [(0, some ⟨48, 2, [[.d (.int .i64 w.y), .d (encRuns w.runs)]]⟩)], 1⟩)) (fun j => j ≤ w.runs.length) (fun j => w.runs.length - j) 0 ?_ (by simp [runsTo]) (Nat.zero_le _) ?_
      · dsimp only
        refine weak_of [(0, some 3)] rfl (by simp [upT, up, upL, push_cast]) (by simp [upH, upR, upL, up, push_cast]) (by simp [namesOk, push_cast]) (by simp [olds])
      · intro j hj
        replace hj : j ≤ w.runs.length := hj
        (repeat (first | refine awi_seq ?_ | refine awi_block ?_ | refine awi_skip ?_ | refine awi_exit ?_ | refine awi_ret ?_ | refine si_n ?_ | refine si_r ?_ | refine si_x ?_ | refine bi_n ?_ | refine bi_r ?_ | refine bi_x ?_ | refine bi_y rfl ?_))
        refine awi_of_awp hJ (awp_region cx [] fun K hK => ?_)
        simp [push_cast]
        repeat (refine And.intro (by clear hK; intros; first | omega | (simp_all; done) | (simp_all <;> omega)) ?_)
        refine hK _ ?_; clear hK K; (try dsimp only); (repeat (first | refine awi_seq ?_ | refine awi_block ?_ | refine awi_skip ?_ | refine awi_exit ?_ | refine awi_ret ?_ | refine si_n ?_ | refine si_r ?_ | refine si_x ?_ | refine bi_n ?_ | refine bi_r ?_ | refine bi_x ?_ | refine bi_y rfl ?_))
        refine awi_cond (b := decide ((j : Int) < w.runs.length)) (by simp [push_cast]) (fun hb => ?_) (fun hb => ?_) <;> ((repeat (first | refine awi_seq ?_ | refine awi_block ?_ | refine awi_skip ?_ | refine awi_exit ?_ | refine awi_ret ?_ | refine si_n ?_ | refine si_r ?_ | refine si_x ?_ | refine bi_n ?_ | refine bi_r ?_ | refine bi_x ?_ | refine bi_y rfl ?_)))
        · have hlj : j < w.runs.length := by simpa using hb
          obtain ⟨r, hr⟩ := getq hlj
          have e1 := wrap_i64 (n := (j : Int) + 1) (by omega) (by omega)
          have hrb := fine_at hfine hr
          have hrl := runCells_len w.y r
          have hat := fun q hq => @cells_at R i j q w r hw hr hq
          have hnr : (runsTo w j).length + (r.b - r.a).toNat = (runsTo w (j + 1)).length := by rw [runsTo_next hr, List.length_append, hrl]
          rw [hX] at hat
          generalize (runsTo w j).length = Y at *
          obtain ⟨ra, rb⟩ := r
          simp only at hrb hrl hat hnr
          refine awi_of_awp hJ (awp_region cx [] fun K hK => ?_)
          simp [push_cast, hr, Run.row]
          repeat (refine And.intro (by clear hK; intros; first | omega | (simp_all; done) | (simp_all <;> omega)) ?_)
          refine hK _ ?_; clear hK K; (try dsimp only); (repeat (first | refine awi_seq ?_ | refine awi_block ?_ | refine awi_skip ?_ | refine awi_exit ?_ | refine awi_ret ?_ | refine si_n ?_ | refine si_r ?_ | refine si_x ?_ | refine bi_n ?_ | refine bi_r ?_ | refine bi_x ?_ | refine bi_y rfl ?_))
          refine awi_of_awp hJ (awp_region cx [] fun K hK => ?_)
          simp [push_cast]
          repeat (refine And.intro (by clear hK; intros; first | omega | (simp_all; done) | (simp_all <;> omega)) ?_)
          refine hK _ ?_; clear hK K; (try dsimp only); (repeat (first | refine awi_seq ?_ | refine awi_block ?_ | refine awi_skip ?_ | refine awi_exit ?_ | refine awi_ret ?_ | refine si_n ?_ | refine si_r ?_ | refine si_x ?_ | refine bi_n ?_ | refine bi_r ?_ | refine bi_x ?_ | refine bi_y rfl ?_))
          refine awi_loop hJ (β := Nat) (fun q => (X + (Y + q), ⟨39, [(0, .d (.fn (.yield l) [])), (4, .ptr 0 0 0), (6, .ptr 1 0 0), (7, .d (.int .i64 (ra + q))), (9, .d (encRows R)), (10, .d (.int .i64 R.length)), (11, .d (.int .i64 i)), (16, .d (encRuns w.runs)), (17, .d (.int .i64 w.runs.length)), (18, .d (.int .i64 j))], [(0, some ⟨48, 2, [[.d (.int .i64 w.y), .d (encRuns w.runs)]]⟩), (1, some ⟨51, 2, [[.d (.int .i64 ra), .d (.int .i64 rb)]]⟩)], 2⟩)) (fun q => q ≤ (rb - ra).toNat) (fun q => (rb - ra).toNat - q) 0 ?_ (by simp) (Nat.zero_le _) ?_
          · dsimp only
            refine weak_of [(0, some 0), (1, some 4)] rfl (by simp [upT, up, upL, push_cast]) (by simp [upH, upR, upL, up, push_cast]) (by simp [namesOk, push_cast]) (by simp [olds])
          · intro q hq
            replace hq : q ≤ (rb - ra).toNat := hq
            (repeat (first | refine awi_seq ?_ | refine awi_block ?_ | refine awi_skip ?_ | refine awi_exit ?_ | refine awi_ret ?_ | refine si_n ?_ | refine si_r ?_ | refine si_x ?_ | refine bi_n ?_ | refine bi_r ?_ | refine bi_x ?_ | refine bi_y rfl ?_))
            refine awi_of_awp hJ (awp_region cx [] fun K hK => ?_)
            simp [push_cast]
            repeat (refine And.intro (by clear hK; intros; first | omega | (simp_all; done) | (simp_all <;> omega)) ?_)
            refine hK _ ?_; clear hK K; (try dsimp only); (repeat (first | refine awi_seq ?_ | refine awi_block ?_ | refine awi_skip ?_ | refine awi_exit ?_ | refine awi_ret ?_ | refine si_n ?_ | refine si_r ?_ | refine si_x ?_ | refine bi_n ?_ | refine bi_r ?_ | refine bi_x ?_ | refine bi_y rfl ?_))
            refine awi_cond (b := decide (ra + (q : Int) < rb)) (by simp [push_cast]) (fun hb => ?_) (fun hb => ?_) <;> ((repeat (first | refine awi_seq ?_ | refine awi_block ?_ | refine awi_skip ?_ | refine awi_exit ?_ | refine awi_ret ?_ | refine si_n ?_ | refine si_r ?_ | refine si_x ?_ | refine bi_n ?_ | refine bi_r ?_ | refine bi_x ?_ | refine bi_y rfl ?_)))
            · have hql : q < (rb - ra).toNat := by simp at hb; omega
              have e2 := wrap_i64 (n := ra + (q : Int) + 1) (by omega) (by omega)
              have hx : (itemsOf R)[X + (Y + q)]? = some (.agg [.int .i64 (ra + q), .int .i64 w.y]) := by
                unfold itemsOf
                rw [List.getElem?_map, hat q hql]; rfl
              refine awi_yield cx hJ hR (pre := [_, _, _, _, _]) (post := [_]) rfl rfl rfl rfl rfl 35 rfl rfl hx rfl fun K hK => ?_
              simp [push_cast]
              refine hK _ ?_
              clear hK K
              (try dsimp only)
              (repeat (first | refine awi_seq ?_ | refine awi_block ?_ | refine awi_skip ?_ | refine awi_exit ?_ | refine awi_ret ?_ | refine si_n ?_ | refine si_r ?_ | refine si_x ?_ | refine bi_n ?_ | refine bi_r ?_ | refine bi_x ?_ | refine bi_y rfl ?_))
              refine awi_cond (b := false) (by simp [push_cast]) (fun hb => ?_) (fun hb => ?_) <;> ((repeat (first | refine awi_seq ?_ | refine awi_block ?_ | refine awi_skip ?_ | refine awi_exit ?_ | refine awi_ret ?_ | refine si_n ?_ | refine si_r ?_ | refine si_x ?_ | refine bi_n ?_ | refine bi_r ?_ | refine bi_x ?_ | refine bi_y rfl ?_)))
              · simp at hb
              · refine awi_of_awp hJ (awp_region cx [] fun K hK => ?_)
                simp [push_cast, e2]
                repeat (refine And.intro (by clear hK; intros; first | omega | (simp_all; done) | (simp_all <;> omega)) ?_)
                refine hK _ ?_; clear hK K; (try dsimp only); (repeat (first | refine awi_seq ?_ | refine awi_block ?_ | refine awi_skip ?_ | refine awi_exit ?_ | refine awi_ret ?_ | refine si_n ?_ | refine si_r ?_ | refine si_x ?_ | refine bi_n ?_ | refine bi_r ?_ | refine bi_x ?_ | refine bi_y rfl ?_))
                refine ⟨q + 1, hql, by omega, by simp only; omega, ?_⟩
                dsimp only
                have e3 : ra + ((q : Int) + 1) = ra + q + 1 := by omega
                refine weak_of [(0, some 0), (1, some 1)] rfl (by simp [upT, up, upL, push_cast, e3]) (by simp [upH, upR, upL, up, push_cast, e3]) (by simp [namesOk, push_cast]) (by simp [olds])
            · have hqe : q = (rb - ra).toNat := by simp at hb; omega
              subst hqe
              refine awi_of_awp hJ (awp_region cx [] fun K hK => ?_)
              simp [push_cast, e1]
              repeat (refine And.intro (by clear hK; intros; first | omega | (simp_all; done) | (simp_all <;> omega)) ?_)
              refine hK _ ?_; clear hK K; (try dsimp only); (repeat (first | refine awi_seq ?_ | refine awi_block ?_ | refine awi_skip ?_ | refine awi_exit ?_ | refine awi_ret ?_ | refine si_n ?_ | refine si_r ?_ | refine si_x ?_ | refine bi_n ?_ | refine bi_r ?_ | refine bi_x ?_ | refine bi_y rfl ?_))
              refine ⟨j + 1, hlj, by omega, by simp only; omega, ?_⟩
              dsimp only
              refine weak_of [(0, some 0)] rfl (by simp [upT, up, upL, push_cast]) (by simp [upH, upR, upL, up, push_cast]) (by simp [namesOk, push_cast]) (by simp [olds])
        · have hje : j = w.runs.length := by simp at hb; omega
          subst hje
          refine awi_of_awp hJ (awp_region cx [] fun K hK => ?_)
          simp [push_cast, e0]
          repeat (refine And.intro (by clear hK; intros; first | omega | (simp_all; done) | (simp_all <;> omega)) ?_)
          refine hK _ ?_; clear hK K; (try dsimp only); (repeat (first | refine awi_seq ?_ | refine awi_block ?_ | refine awi_skip ?_ | refine awi_exit ?_ | refine awi_ret ?_ | refine si_n ?_ | refine si_r ?_ | refine si_x ?_ | refine bi_n ?_ | refine bi_r ?_ | refine bi_x ?_ | refine bi_y rfl ?_))
          refine ⟨i + 1, hlt, by omega, by simp only; omega, ?_⟩
          dsimp only
          refine weak_of [] rfl (by simp [upT, up, upL, push_cast]) (by simp [upH, upR, upL, up, push_cast]) (by simp [namesOk, push_cast]) (by simp [olds])
    · have hie : i = R.length := by simp at hb; omega
      subst hie
      exact ⟨.inl rfl, rfl⟩
end Go.Proofs.Ytknelhiejjdioaa

set_option linter.unusedVariables false
set_option linter.unusedSimpArgs false
namespace Go.Abs
open Go.RowKit

theorem Step.foot {g g' : G} {w w' : World} (h : Step g w g' w') {b : Nat} (hb : b < w.heap.size) (hn : ¬ g.foot b) : ¬ g'.foot b := by
  rintro (h1 | h1)
  · rcases h.own b h1 with h2 | h2
    · omega
    · exact hn (.inl h2)
  · rcases h.ro' b h1 with h2 | h2 | h2
    · exact hn (.inr h2)
    · omega
    · exact hn (.inl h2)
theorem Step.put {g g' : G} {w w' : World} (h : Step g w g' w') {l : Nat} (o : Obj) (hl : w.heap.size ≤ l) : Step g w g' (w'.putObj l o) :=
  ⟨h.os, h.tape, h.output, by simpa using h.size, fun b h1 h2 => by rw [World.putObj_heap_other (by omega)]; exact h.block b h1 h2, h.own, h.ro, h.ro'⟩
theorem Step.allocB {g g' : G} {w w' : World} (h : Step g w g' w') (o : Obj) : Step g w g' (w'.alloc o) :=
  ⟨h.os, h.tape, h.output, by have := h.size; simp; omega, fun b h1 h2 => by
    have := h.size
    have e : (w'.alloc o).heap[b]? = w'.heap[b]? := by
      show (w'.heap.push o)[b]? = _
      rw [Array.getElem?_push_lt (by omega), Array.getElem?_eq_getElem (by omega)]
    rw [e]; exact h.block b h1 h2, h.own, h.ro, h.ro'⟩
theorem Rnd.step {x : Nat} {g g' g'' : G} {w w' w'' : World} (h : Rnd x g w g' w') (k : Step g' w' g'' w'') : Rnd x g w g'' w'' := by
  have hs := h.size
  refine ⟨Nat.le_trans h.size k.size, fun b h1 h2 h3 => ?_, fun b hb => ?_, fun b hb => ?_⟩
  · rw [k.block b (by omega) fun ho => by
      rcases h.own b ho with h4 | h4
      · omega
      · exact h2 h4]
    exact h.block b h1 h2 h3
  · rcases k.own b hb with h1 | h1
    · exact .inl (by omega)
    · exact h.own b h1
  · rcases k.ro' b hb with h1 | h1 | h1
    · exact h.ro' b h1
    · exact .inr (.inl (by omega))
    · rcases h.own b h1 with h2 | h2
      · exact .inr (.inl h2)
      · exact .inr (.inr h2)
theorem Rnd.put {x : Nat} {g g' : G} {w w' : World} (h : Rnd x g w g' w') (o : Obj) : Rnd x g w g' (w'.putObj x o) :=
  ⟨by simpa using h.size, fun b h1 h2 h3 => by rw [World.putObj_heap_other h3]; exact h.block b h1 h2 h3, h.own, h.ro'⟩
theorem Rel.put {U : Nat → Prop} {g : G} {get : Nat → AV} {obj : Nat → Option Ob} {n : Nat} {a : Act} {w : World} (h : Rel U g get obj n a w) {l : Nat} (o : Obj) (hl : ¬ g.foot l) : Rel U g get obj n a (w.putObj l o) :=
  h.stay (by simp) fun b hb => World.putObj_heap_other fun e => hl (e ▸ hb)

/-- The state between two rounds: a pointer to the one variable, whose place is known. -/
def S1 (n t pn id : Nat) (L : Loc) (hp : List (Nat × Option Ob)) (nx : Nat) : St := ⟨n, [(t, .ptr id 0 0), (pn, .pin id L)], hp, nx⟩
theorem S1_tmps {n t pn id : Nat} {L : Loc} {hp : List (Nat × Option Ob)} {nx : Nat} (htp : t ≠ pn) {g : G} {a a' : Act} {w : World} (h : RelS (S1 n t pn id L hp nx) g a' w) (hd : a.defers = []) (hs : a.tmps.size = n)
    (hv : (a.tmps.getD t undef).oneCell' = true ∧ (L.virt = false ∧ L.map = false) ∧ a.tmps.getD t undef = .pointer (some ⟨L.blk, 0 * L.m + 0, none⟩)) : RelS (S1 n t pn id L hp nx) g a w := by
  have hpin : g.used id ∧ ∀ M, g.loc id = some M → M = L := by
    have := h.tmp pn
    rw [show (S1 n t pn id L hp nx).get pn = .pin id L from by simp [S1, St.get, find, htp]] at this
    simpa [RepA] using this
  refine ⟨hd, hs, fun x => ?_, h.used, h.heap⟩
  by_cases e : x = t
  · subst e
    rw [show (S1 n x pn id L hp nx).get x = .ptr id 0 0 from by simp [S1, St.get, find]]
    simp only [RepA]
    exact ⟨⟨hpin.1, hv.1⟩, fun M hM => by rw [hpin.2 M hM]; exact hv.2⟩
  · by_cases e2 : x = pn
    · subst e2
      rw [show (S1 n t x id L hp nx).get x = .pin id L from by simp [S1, St.get, find, htp]]
      simp only [RepA]; exact hpin
    · rw [show (S1 n t pn id L hp nx).get x = .any from by simp [S1, St.get, find, Ne.symm e, Ne.symm e2]]
      simp [RepA]

/-- THE LOOP. -/
theorem range_sound {m : Nat} {P : Program} {a : Act} {w : World} {s : St} {g0 : G} (hr : RelS s g0 a w) {go : Operand} {f : FuncId} {caps xs : List D} (hgv : s.eval go = .d (.fn (.func f) caps)) (hit : IterOk P f caps xs)
    {t pn idS id pt nx : Nat} (htp : t ≠ pn) (hpn : s.n ≤ pn) (hgt : s.get t = .ptr idS 0 0) (hptn : pt < s.n) {o : Ob} (hob : s.obj idS = some o) (hus : idS < s.nxt) (I : Nat → List (Nat × Option Ob))
    (hstart : ∀ L, Weak { s with tm := (pn, .pin idS L) :: s.tm } (S1 s.n t pn id L (I 0) nx)) {assign body : Code}
    (hbody : ∀ L k x, xs[k]? = some x → AWr m P assign (fun e s1 => e = .normal ∧ AWr m P body (fun e s2 => e = .normal ∧ Weak s2 (S1 s.n t pn id L (I (k + 1)) nx)) s1) { S1 s.n t pn id L (I k) nx with tm := (pt, .d x) :: (S1 s.n t pn id L (I k) nx).tm })
    {Q : Exit → Act → World → Prop}
    (hdone : ∀ g' W D L, RelS (S1 s.n t pn id L (I xs.length) nx) g' a W → Step g0 w g' W → w.heap.size ≤ D → W.heap[D]? = some (.deferred (some [])) → ¬ g'.foot D → Q .normal { a with defers := { target := .collected D, args := #[] } :: a.defers } W) :
    (Code.rangeFunc go #[pt] assign body).wpIn Fence.wide (m + 2) P Q a w := by
  -- the iterator's value
  have hval := eval_rep hr (s := s) (fun _ => rfl) go
  rw [hgv] at hval
  simp only [RepA, RepD] at hval
  obtain ⟨vs, hgo, hcaps⟩ := hval
  -- the variable's place
  obtain ⟨L, hL, _⟩ := hr.heap.own idS o hob
  have hused : g0.used idS := (hr.heap.live idS L hL).1
  have hptr := hr.tmp t
  have hgt' : s.get t = .ptr idS 0 0 := hgt
  rw [hgt'] at hptr
  simp only [RepA] at hptr
  have hv : (a.tmps.getD t undef).oneCell' = true ∧ (L.virt = false ∧ L.map = false) ∧ a.tmps.getD t undef = .pointer (some ⟨L.blk, 0 * L.m + 0, none⟩) := ⟨hptr.1.2, hptr.2 L hL⟩
  have hr1 : RelS { s with tm := (pn, .pin idS L) :: s.tm } g0 a w := by
    refine ⟨hr.defers, hr.size, fun x => ?_, hr.used, hr.heap⟩
    by_cases e : pn = x
    · subst e
      rw [show St.get { s with tm := (pn, .pin idS L) :: s.tm } pn = .pin idS L from by simp [St.get, find]]
      simp only [RepA]; exact ⟨hused, fun M hM => by rw [hL] at hM; exact (Option.some.inj hM).symm⟩
    · rw [show St.get { s with tm := (pn, .pin idS L) :: s.tm } x = s.get x from by simp [St.get, find, e]]
      exact hr.tmp x
  obtain ⟨g1, hS0, hst0⟩ := hstart L g0 a w hr1
  obtain ⟨fnf, hfn, hname, hbodyf⟩ := hit.1
  have eg : ∀ args w, (callFunc f args).run P w = .ok (.enter f args) w := fun args w => by
    simp only [callFunc, Sem.run_bind, run_program, Result.andThen_ok, hfn, hname, hbodyf, Bool.false_eq_true, if_false, Sem.run_pure]
  refine wpIn_rangeFunc ?_
  intro fn hfn'
  rw [Fence.wide_round]
  obtain ⟨rec, hrec⟩ : ∃ rec : LoopState → Option Code → Loop, rec = fun st pe => { state := st, pending := pe, fn, tmps := a.tmps, params := #[pt], assign, body, defers := w.heap.size } := ⟨_, rfl⟩
  obtain ⟨W1, hW1⟩ : ∃ W1, (w.alloc (.deferred (some []))).alloc (.loop (rec .ready none)) = W1 := ⟨_, rfl⟩
  have hsz1 : W1.heap.size = w.heap.size + 2 := by rw [← hW1]; simp
  have hL1 : W1.heap[w.heap.size + 1]? = some (.loop (rec .ready none)) := by
    rw [← hW1]; have := World.alloc_heap_new (w.alloc (.deferred (some []))) (.loop (rec .ready none)); rwa [World.size_alloc] at this
  have hK1 : W1.heap[w.heap.size]? = some (.deferred (some [])) := by
    rw [← hW1]
    show ((w.alloc (.deferred (some []))).heap.push _)[w.heap.size]? = _
    rw [Array.getElem?_push_lt (by simp), ← Array.getElem?_eq_getElem (by simp)]
    exact World.alloc_heap_new w _
  have hst1 : Step g0 w g1 W1 := by rw [← hW1]; exact (hst0.allocB _).allocB _
  have hlow : ∀ b, b < w.heap.size → W1.heap[b]? = w.heap[b]? := fun b hb => by
    have h := (Step.refl ⟨fun _ => False, fun _ => none, fun _ => False⟩ w).allocB (.deferred (some []))
    have h2 := (h.allocB (.loop (rec .ready none))).block b hb (by rintro ⟨_, _, hh, _⟩; cases hh)
    rw [hW1] at h2; exact h2
  refine ⟨w.heap.size + 1, [{ target := .collected w.heap.size, args := #[] }], W1, { target := .fn (.func f) vs.toArray, args := #[.func (.yield (w.heap.size + 1)) #[] #[]] }, W1, f,
    #[.func (.yield (w.heap.size + 1)) #[] #[]] ++ vs.toArray, W1, ?_, ?_, fun _ _ => trivial, ?_, fun h => absurd h (by simp [Fence.wide]), ?_⟩
  · rw [← hW1, hrec]; exact run_enterLoop_outer _ _ _ _ _
  · simp only [resolve, hgo]
    simp [go_sem]
  · simp [invoke, go_sem, eg]
  · let J : Nat → G → World → Prop := fun k g W => RelS (S1 s.n t pn id L (I k) nx) g a W ∧ Step g0 w g W ∧ W.heap[w.heap.size + 1]? = some (.loop (rec .ready none)) ∧ W.heap[w.heap.size]? = some (.deferred (some [])) ∧ ¬ g.foot (w.heap.size + 1) ∧ ¬ g.foot w.heap.size
    have hfoot0 : ∀ b, g1.foot b → b < w.heap.size := fun b hb => hS0.heap.foot_lt hb
    have hJ0 : J 0 g1 W1 := ⟨hS0.stay (by omega) fun b hb => hlow b (hfoot0 b hb), hst1, hL1, hK1, fun h => by have := hfoot0 _ h; omega, fun h => by have := hfoot0 _ h; omega⟩
    have hJ : JOk (w.heap.size + 1) W1 J := by
      refine ⟨by omega, fun k g W ⟨h1, h2, h3, h4, h5, h6⟩ => ⟨?_, fun b hb => h1.heap.foot_lt hb⟩, fun k g W W' ⟨h1, h2, h3, h4, h5, h6⟩ k1 k2 k3 k4 k5 => ⟨h1.stay k4 fun b hb => k5 b (.inr hb), ?_, (k5 _ (.inl (by omega))).trans h3, (k5 _ (.inl (by omega))).trans h4, h5, h6⟩⟩
      · have := (Array.getElem?_eq_some_iff.1 h3).1; omega
      · exact ⟨k1.trans h2.os, ⟨k2.1.trans h2.tape.1, Nat.le_trans h2.tape.2 k2.2⟩, k3.trans h2.output, Nat.le_trans h2.size k4, fun b b1 b2 => (k5 b (.inl (by omega))).trans (h2.block b b1 b2), h2.own, h2.ro, h2.ro'⟩
    have hR : JRound m (w.heap.size + 1) P J xs := by
      rintro k g W x v hx ⟨hrel, hst, hl, hk, hfl, hfk⟩ hxv
      have hlt : w.heap.size + 1 < W.heap.size := (Array.getElem?_eq_some_iff.1 hl).1
      have hy := run_yield (P := P) (args := #[v]) hl (by rw [hrec]; rfl)
      rw [hrec] at hy
      refine ⟨fn, _, assign, body, hy, roundIn_of_wpIn trivial ?_⟩
      have hput := rel_put (U' := (· < nx)) (dst := some pt) (v := .d x) (u := v) hrel hrel.heap ⟨fun b hb => ⟨hb, rfl⟩, fun _ hx => hx, fun _ _ => .inl rfl⟩ (fun k hk => hrel.used k hk) (by simp only [RepA]; exact RepD.mono (fun b hb => hb.elim) x v hxv) (fun d hd => by cases hd; exact hptn)
      have hstart2 : RelS { S1 s.n t pn id L (I k) nx with tm := (pt, .d x) :: (S1 s.n t pn id L (I k) nx).tm } g { tmps := a.tmps.setIfInBounds pt v, defers := [] } W := by
        have e : a.put (some pt) v = { tmps := a.tmps.setIfInBounds pt v, defers := [] } := by simp [Act.put, hr.defers]
        rw [e] at hput
        exact hput.congr (fun x' => by simp only [putG, St.get, find]; split <;> simp_all [St.get]) (fun _ => rfl)
      refine wpIn_mono (hbody L k x hx _ g _ W (by simpa using hstart2)) ?_
      rintro e a1 w1 ⟨s1, g2, r1, st1, rfl, hb⟩
      have hl1 : w1.heap[w.heap.size + 1]? = some (.loop (rec .ready none)) := (st1.block _ hlt fun h => hfl (.inl h)).trans hl
      have hk1 : w1.heap[w.heap.size]? = some (.deferred (some [])) := (st1.block _ (by omega) fun h => hfk (.inl h)).trans hk
      have hfl1 := st1.foot hlt hfl
      have hfk1 := st1.foot (b := w.heap.size) (by omega) hfk
      refine ⟨_, run_beginRound hl1 (by rw [hrec]), ?_⟩
      have hsz1' : w.heap.size + 1 < w1.heap.size := (Array.getElem?_eq_some_iff.1 hl1).1
      have hl2 : (w1.putObj (w.heap.size + 1) (.loop { rec .ready none with state := .busy })).heap[w.heap.size + 1]? = some (.loop { rec .ready none with state := .busy }) := World.putObj_heap_same hsz1'
      have hk2 : (w1.putObj (w.heap.size + 1) (.loop { rec .ready none with state := .busy })).heap[w.heap.size]? = some (.deferred (some [])) := (World.putObj_heap_other (by omega)).trans hk1
      have r1' : RelS s1 g2 a1 (w1.putObj (w.heap.size + 1) (.loop { rec .ready none with state := .busy })) := r1.put _ hfl1
      have stA : Step g0 w g2 (w1.putObj (w.heap.size + 1) (.loop { rec .ready none with state := .busy })) := (hst.trans st1).put _ (by omega)
      have rnA : Rnd (w.heap.size + 1) g W g2 (w1.putObj (w.heap.size + 1) (.loop { rec .ready none with state := .busy })) := (st1.rnd _).put _
      generalize hw2 : w1.putObj (w.heap.size + 1) (.loop { rec .ready none with state := .busy }) = w2 at *
      have hsz2 : w.heap.size + 1 < w2.heap.size := (Array.getElem?_eq_some_iff.1 hl2).1
      refine wpIn_mono (hb _ g2 a1 w2 r1') ?_
      rintro e a2 w3 ⟨s2, g3, r2, st2, rfl, hweak⟩
      obtain ⟨g4, r3, st3⟩ := hweak g3 a2 w3 r2
      have hl3 : w3.heap[w.heap.size + 1]? = some (.loop { rec .ready none with state := .busy }) := (st2.block _ hsz2 fun h => hfl1 (.inl h)).trans hl2
      have hk3 : w3.heap[w.heap.size]? = some (.deferred (some [])) := (st2.block _ (by omega) fun h => hfk1 (.inl h)).trans hk2
      have hsz3 : w.heap.size + 1 < w3.heap.size := (Array.getElem?_eq_some_iff.1 hl3).1
      have hfl4 := st3.foot hsz3 (st2.foot hsz2 hfl1)
      have hfk4 := st3.foot (b := w.heap.size) (by omega) (st2.foot (b := w.heap.size) (by omega) hfk1)
      have hend := run_endRound (P := P) none hl3
      rw [hrec] at hend
      refine ⟨_, _, hend, rfl, g4, ⟨?_, ?_, ?_, ?_, hfl4, hfk4⟩, ?_⟩
      · exact S1_tmps htp (r3.put _ hfl4) hr.defers hr.size hv
      · exact (stA.trans (st2.trans st3)).put _ (by omega)
      · rw [World.putObj_heap_same hsz3, hrec]; rfl
      · rw [World.putObj_heap_other (by omega)]; exact hk3
      · exact (rnA.step (st2.trans st3)).put _
    have hcaps1 : RepDs g1.ro W1 caps vs := RepDs.mono (fun b hb => ⟨hst0.ro b hb, by
      exact hlow b (hr.heap.ro b hb)⟩) caps vs hcaps
    have hcall := hit.2 m (w.heap.size + 1) W1 J g1 g1.ro vs hJ hR hJ0 hcaps1 (fun b hb => ⟨by have := hfoot0 b (.inr hb); omega, by have := hfoot0 b (.inr hb); omega, fun ⟨x, M, hx, hvx, hbx⟩ => by
      subst hbx; exact ((hS0.heap.live x M hx).2 hvx).2 hb⟩)
    have hargs : (Value.func (.yield (w.heap.size + 1)) #[] #[] :: vs).toArray = #[.func (.yield (w.heap.size + 1)) #[] #[]] ++ vs.toArray := by simp
    rw [hargs] at hcall
    refine (callsIn_wide.2 hcall).mono ?_
    rintro e W2 ⟨⟨v, rfl⟩, g', h1, h2, h3, h4, h5, h6⟩
    refine ⟨none, _, by have := run_endLoop (P := P) h3 (by rw [hrec]; simp); rw [hrec] at this; exact this, ?_⟩
    refine hdone g' _ w.heap.size L (h1.put _ h5) (h2.put _ (by omega)) (Nat.le_refl _) ?_ h6
    rw [World.putObj_heap_other (by omega)]; exact h4
end Go.Abs

set_option linter.unusedVariables false
set_option linter.unusedSimpArgs false
namespace Go.Abs
open Go.RowKit

/-- What a return gives. -/
theorem ret_done {P : Program} {ty : TypeId → Option TI} (hc : Ctx P ty) {fn : Func} {ro : Nat → Prop} {w w' : World} {s' : St} {g' : G} {a' : Act} {r : Res} (h1 : RelS s' g' a' w') (h2 : Step ⟨ro, fun _ => none, fun _ => False⟩ w g' w') :
    (∃ l, resAs ty s' fn.results.toList = some l ∧ resOk s' (oneOf l) r) → ∃ v, (results fn a'.tmps).run P w' = .ok v w' ∧ ∃ v', Ending.returned v = .returned v' ∧ Below w.heap.size w w' ∧ RepRes ro w.heap.size w' r v' := by
  rintro ⟨l, hl, hok⟩
  obtain ⟨v, hv, hrep⟩ := results_run hc h1 hl
  refine ⟨v, hv, v, rfl, ⟨h2.os, h2.tape, h2.output, h2.size, fun k hk => h2.block k hk (by rintro ⟨_, _, h, _⟩; cases h)⟩, ?_⟩
  have hro' : ∀ b, g'.ro b → ro b ∨ (w.heap.size ≤ b ∧ b < w'.heap.size) := fun b hb => by
    rcases h2.ro' b hb with hh | hh | ⟨_, _, hh, _⟩
    · exact .inl hh
    · exact .inr ⟨hh, h1.heap.ro b hb⟩
    · cases hh
  have hown' : ∀ b, g'.owns b → w.heap.size ≤ b ∧ b < w'.heap.size := fun b hb => by
    refine ⟨?_, ?_⟩
    · rcases h2.own b hb with hh | ⟨_, _, hh, _⟩
      · exact hh
      · cases hh
    · obtain ⟨x, L, hx, hvx, rfl⟩ := hb
      exact ((h1.heap.live x L hx).2 hvx).1
  cases r with
  | x c => exact (show False from hok).elim
  | skip => exact (show False from hok).elim
  | ub b => exact (show False from hok).elim
  | f d =>
    simp only [resOk] at hok
    split at hok
    · rename_i y hy
      obtain ⟨d', p⟩ := y
      obtain ⟨rfl, hp⟩ := hok
      simp only [RepRes]
      exact RepD.mono (fun b hb => ⟨hown' b hb, rfl⟩) d' v (snapF_sound h1.heap _ _ _ _ hy hp hrep)
    · exact hok.elim
  | p d =>
    obtain ⟨p, b, hs, hp⟩ := resOk_p hok
    obtain ⟨k1, _⟩ := snap_sound h1.heap _ _ _ _ _ hs hp hrep
    simp only [RepRes]
    exact RepD.mono (fun b hb => ⟨hb.elim (hro' b) fun ho => .inr (hown' b ho), rfl⟩) d v k1
  | o e m rows =>
    simp only [RepRes, OwnRes]
    rcases resOk_o hok with ⟨hx, rfl, hm⟩ | ⟨id, len, o, R, hx, hob, rfl, rfl, hR, rfl, hlen⟩
    · rw [hx] at hrep
      simp only [RepA] at hrep
      exact ⟨hm, .inl ⟨rfl, hrep⟩⟩
    · rw [hx] at hrep
      obtain ⟨L, hL, hok⟩ := h1.heap.own id o hob
      refine ⟨by rw [← hok.m]; exact hok.pos, ?_⟩
      simp only [RepA] at hrep
      rcases hrep.2 L hL with ⟨_, _, rfl, hv'⟩ | ⟨hvirt, hle, hv'⟩
      · exact .inl ⟨by simp, hv'⟩
      · obtain ⟨cur, c1, c2, c3, c5⟩ := hok.cells hvirt
        have hlenR : (R.take len).length = len := by simp; omega
        refine .inr ⟨L.blk, L.cap, cur, (hown' _ ⟨id, L, hL, hvirt.1, rfl⟩).1, by rw [hv', hlenR]; simp, c1, by rw [hlenR]; omega, c3, by rw [c2, hok.m], fun i row hi => ?_⟩
        rw [List.getElem?_take] at hi
        split at hi
        · obtain ⟨arow, harow, had⟩ := rowsD_get hR i row hi
          obtain ⟨d1, d2⟩ := c5 i arow harow
          obtain ⟨us, hul, hur, huc⟩ := hok.row hvirt harow
          have hds := RepAs.allD had hur
          refine ⟨by rw [← hds.length, hul, hok.m], fun j d hj => ?_⟩
          obtain ⟨u, hu, hru⟩ := hds.get j d hj
          obtain ⟨hcell, hone⟩ := huc j u hu
          have hcu : cur[i * o.m + j]? = some u := by
            rw [← hok.m]
            simp only [World.cell?, c1] at hcell
            simpa using hcell
          refine ⟨u, hcu, hone, RepD.mono (fun b hb => ⟨?_, rfl⟩) d u hru⟩
          rcases hro' b hb with hh | hh
          · exact .inl hh
          · exact .inr ⟨hh.1, hh.2, fun e' => ((h1.heap.live id L hL).2 hvirt.1).2 (e' ▸ hb)⟩
        · cases hi

/-- Operations do not look at the activation's deferred calls. -/
def _root_.Go.Act.bare (a : Act) : Act := { a with defers := [] }
theorem op_defers {F : Fence} {n : Nat} (hF : Free F n) {P : Program} {o : Oper} {a : Act} {ds : List Deferred} {w : World} {K K' : Act → World → Prop} {Q' : Exit → Act → World → Prop} (hd : ∀ c, o.op ≠ .defer c)
    (hK : ∀ a w, K a w → a.defers = [] ∧ K' { a with defers := ds } w) (h : o.wp P a w K (fun _ _ _ => False)) : o.wpIn F n P { a with defers := ds } w K' Q' := by
  refine ⟨fun _ _ => hF.fn _, ?_⟩
  have hs : o.semAt F.round (Act.eval { a with defers := ds }) = execOp a.eval o := by
    have he : Act.eval { a with defers := ds } = a.eval := by funext x; cases x <;> rfl
    rw [he]; exact Oper.semAt_eq _ _ _ hd
  rw [hs]
  have hput : ∀ v, Act.put { a with defers := ds } o.dst v = { a.put o.dst v with defers := ds } := fun v => by cases o.dst <;> rfl
  unfold Oper.wp at h
  generalize (execOp a.eval o).run P w = r at *
  cases r with
  | ok x w' =>
    cases x <;> simp only [Oper.upon, Oper.uponIn] at h ⊢
    case value v => rw [hput]; exact (hK _ _ h).2
    case skip => rw [hput]; exact (hK _ _ h).2
    case defer d =>
      have h2 := (hK _ _ h).1
      cases ho : o.dst <;> simp [Act.put, ho] at h2
    case enter f args =>
      refine ⟨fun hh => absurd hh (by rw [hF.depth]; exact Bool.false_ne_true), (hF.calls h).mono fun e w'' he => ?_⟩
      cases e with
      | returned v => simp only at he ⊢; rw [hput]; exact (hK _ _ he).2
      | panicked ch => exact he.elim
      | outgrown => obtain ⟨_, _, hh⟩ := he; exact hh.elim
    case row row args =>
      refine ⟨fun hh => absurd hh (by rw [hF.depth]; exact Bool.false_ne_true), (hF.rows h).mono fun v w'' he => ?_⟩
      rw [hput]; exact (hK _ _ he).2
  | halt x w' => cases x <;> simp only [Oper.upon, Oper.uponIn] at h ⊢ <;> exact h.elim

theorem wpT_soundM {F : Fence} {n : Nat} (hF : Free F n) {ds : List Deferred} {P : Program} {ty : TypeId → Option TI} (hc : Ctx P ty) {orc : List (Nat × Res)} {gs : List (Option Tmp)} {ops : Array Oper} (hgs : ∀ j : Nat, gs[j]? = (ops[j]?).map fun o : Oper => o.dst) {base nxt : Nat} {Q : Exit → Act → World → Prop} {K : St → Prop} {g0 : G} {w0 : World}
    {l2 : List Oper} {en n0 : Nat} (hQ : ∀ s g a w, s.nxt = nxt → s.n = n0 → Rel (· < base + en) g s.get s.obj s.n a w → Step g0 w0 g w → K s → wpListIn F n P ops Q l2 { a with defers := ds } w) :
    ∀ (l : List Oper) (i : Nat) (s : St) (g : G) (a : Act) (w : World), noDefer l = true → i + l.length = en → s.nxt = nxt → s.n = n0 → Rel (· < base + i) g s.get s.obj s.n a w → Step g0 w0 g w → wpT ty P orc gs base i l s K → wpListIn F n P ops Q (l ++ l2) { a with defers := ds } w
  | [], i, s, g, a, w, _, hle, hnx, hn0, h, hs, hk => hQ s g a w hnx hn0 (by simp at hle; rw [← hle]; exact h) hs hk
  | o :: rest, i, s, g, a, w, hdf, hle, hnx, hn0, h, hs, hk => by
    simp only [List.length_cons] at hle
    have hputd : ∀ v, Act.put { a with defers := ds } o.dst v = { a.put o.dst v with defers := ds } := fun v => by cases o.dst <;> rfl
    have hdo := noDefer_mem hdf (o := o) (by simp)
    have hdr : noDefer rest = true := by simp only [noDefer, List.all_cons, Bool.and_eq_true] at hdf; exact hdf.2
    have hargs : RepAs g w (o.op.operands.toList.map s.eval) (o.op.operands.toList.map a.eval) := by
      refine RepAs.of_get (by simp) fun j av hj => ?_
      rw [List.getElem?_map] at hj ⊢
      cases hx : o.op.operands.toList[j]? with
      | none => rw [hx] at hj; cases hj
      | some x => rw [hx] at hj; cases hj; exact ⟨a.eval x, rfl, eval_rep h (fun _ => rfl) x⟩
    have relapp : ∀ (e : Eff) (g' : G) (a' : Act) (w' : World), Rel (fun k => k < base + i ∨ k = base + i) g' (putG s.get o.dst e.val) (updL s.obj e.wr) s.n a' w' → Rel (· < base + (i + 1)) g' (s.app o.dst e).get (s.app o.dst e).obj (s.app o.dst e).n a' w' := by
      intro e g' a' w' hr
      have hn : (s.app o.dst e).n = s.n := by unfold St.app St.put; cases o.dst <;> rfl
      rw [hn]
      exact ⟨hr.defers, hr.size, fun t => by rw [app_get]; exact hr.tmp t, fun id hu => by
        have := hr.used id hu
        show id < base + (i + 1)
        rcases this with hh | hh <;> omega, by
        have : (s.app o.dst e).obj = updL s.obj e.wr := funext (app_obj s o.dst e)
        rw [this]; exact hr.heap⟩
    have hnapp : ∀ e, (s.app o.dst e).nxt = nxt := fun e => by rw [← hnx]; unfold St.app St.put; cases o.dst <;> rfl
    have hna : ∀ e, (s.app o.dst e).n = s.n := fun e => by unfold St.app St.put; cases o.dst <;> rfl
    have hnput : ∀ v, (s.put o.dst v).nxt = nxt := fun v => by rw [← hnx]; unfold St.put; cases o.dst <;> rfl
    have hnn : ∀ v, (s.put o.dst v).n = s.n := fun v => by unfold St.put; cases o.dst <;> rfl
    have relput : ∀ (v : AV) (g' : G) (a' : Act) (w' : World) (U : Nat → Prop), (∀ k, U k → k < base + (i + 1)) → Rel U g' (putG s.get o.dst v) s.obj s.n a' w' → Rel (· < base + (i + 1)) g' (s.put o.dst v).get (s.put o.dst v).obj (s.put o.dst v).n a' w' := by
      intro v g' a' w' U hU hr
      rw [hnn]
      have := hr.congr (get' := (s.put o.dst v).get) (obj' := (s.put o.dst v).obj) (fun t => St.get_put s o.dst v t) (fun id => put_obj s o.dst v id)
      exact ⟨this.defers, this.size, this.tmp, fun k hk => hU k (this.used k hk), this.heap⟩
    have skipped : ∀ v, (∀ d, o.dst = some d → d < s.n) → RepA g w v undef → wpT ty P orc gs base (i + 1) rest (s.put o.dst v) K → wpListIn F n P ops Q (rest ++ l2) { a.put o.dst undef with defers := ds } w := by
      intro v hd hv hrest
      have hr := rel_put (U' := (· < base + i)) (dst := o.dst) (v := v) (u := undef) h h.heap ⟨fun b hb => ⟨hb, rfl⟩, fun _ hx => hx, fun _ _ => .inl rfl⟩ (fun k hk => h.used k hk) hv hd
      exact wpT_soundM hF (nxt := nxt) hc hgs hQ rest (i + 1) _ g _ w hdr (by omega) (hnput v) ((hnn v).trans hn0) (relput v g _ w _ (fun k hk => by omega) hr) hs hrest
    simp only [List.cons_append, wpListIn]
    unfold wpT at hk
    split at hk
    · rename_i hg
      have hw : Region.wanted o (yielded ops a.tmps) = true := by simp [Region.wanted, hg]
      rw [if_pos hw]
      unfold doOp at hk
      split at hk
      · rename_i e he
        obtain ⟨hob, hd, hrest⟩ := hk
        exact op_defers hF hdo (fun _ _ hk => hk) <| op_step hc (K := fun a' w' => a'.defers = [] ∧ wpListIn F n P ops Q (rest ++ l2) { a' with defers := ds } w') (Q := fun _ _ _ => False) (nid := base + i) h (by simp) hargs he hob (fun d hd' => by rw [hd'] at hd; exact hd) fun g' a' w' hr hst =>
          ⟨hr.defers, wpT_soundM hF (nxt := nxt) hc hgs hQ rest (i + 1) (s.app o.dst e) g' a' w' hdr (by omega) (hnapp e) ((hna e).trans hn0) (relapp e g' a' w' hr) (hs.trans hst) hrest⟩
      · exact hk.elim
    · rename_i j want hg
      split at hk
      · rename_i x hgv
        have hw := guard_wanted (a := a) hgs h.tmp hg hgv
        rw [hw]
        obtain ⟨hd, hk⟩ := hk
        have hd' : ∀ d, o.dst = some d → d < s.n := fun d hd' => by rw [hd'] at hd; exact hd
        split at hk
        · rename_i e he
          split at hk
          · rename_i hwr
            obtain ⟨hexec, hrest⟩ := hk
            cases x with
            | true =>
              rw [if_pos rfl]
              obtain ⟨hso, hob⟩ := hexec rfl
              refine op_defers hF hdo (fun _ _ hk => hk) <| op_step hc (K := fun a' w' => a'.defers = [] ∧ wpListIn F n P ops Q (rest ++ l2) { a' with defers := ds } w') (Q := fun _ _ _ => False) (nid := base + i) h (by simp) (strips_repG hargs hso) he hob hd' fun g' a' w' hr hst => ?_
              refine ⟨hr.defers, ?_⟩
              rw [hwr] at hr
              exact wpT_soundM hF (nxt := nxt) hc hgs hQ rest (i + 1) _ g' a' w' hdr (by omega) (hnput _) ((hnn _).trans hn0) (relput _ g' a' w' _ (fun k hk => by rcases hk with hh | hh <;> omega) hr.opt) (hs.trans hst) hrest
            | false =>
              rw [if_neg (by simp)]
              exact ⟨fun _ _ => hF.fn _, by rw [hputd]; exact skipped _ hd' (by simp [RepA]) hrest⟩
          · obtain ⟨rfl, hso, hob, hrest⟩ := hk
            rw [if_pos rfl]
            exact op_defers hF hdo (fun _ _ hk => hk) <| op_step hc (K := fun a' w' => a'.defers = [] ∧ wpListIn F n P ops Q (rest ++ l2) { a' with defers := ds } w') (Q := fun _ _ _ => False) (nid := base + i) h (by simp) (strips_repG hargs hso) he hob hd' fun g' a' w' hr hst =>
              ⟨hr.defers, wpT_soundM hF (nxt := nxt) hc hgs hQ rest (i + 1) (s.app o.dst e) g' a' w' hdr (by omega) (hnapp e) ((hna e).trans hn0) (relapp e g' a' w' hr) (hs.trans hst) hrest⟩
        · obtain ⟨rfl, hrest⟩ := hk
          rw [if_neg (by simp)]
          exact ⟨fun _ _ => hF.fn _, by rw [hputd]; exact skipped _ hd' (by simp [RepA]) hrest⟩
      · exact hk.elim




/-- The activation's marks: none, or that of the one loop that is behind us. -/
def Mk (w0 : World) (b : Bool) (a : Act) (g : G) (w : World) : Prop :=
  (b = false ∧ a.defers = []) ∨ (b = true ∧ ∃ D, a.defers = [{ target := .collected D, args := #[] }] ∧ w0.heap.size ≤ D ∧ D < w.heap.size ∧ w.heap[D]? = some (.deferred (some [])) ∧ ¬ g.foot D)
theorem Mk.step {w0 : World} {b : Bool} {a a' : Act} {g g' : G} {w w' : World} (h : Mk w0 b a g w) (st : Step g w g' w') (hd : a'.defers = a.defers) : Mk w0 b a' g' w' := by
  rcases h with ⟨h1, h2⟩ | ⟨h1, D, h2, h3, h4, h5, h6⟩
  · exact .inl ⟨h1, hd.trans h2⟩
  · exact .inr ⟨h1, D, hd.trans h2, h3, Nat.lt_of_lt_of_le h4 st.size, (st.block D h4 fun h => h6 (.inl h)).trans h5, st.foot h4 h6⟩

/-- Code of a function that holds a range over a function. -/
def AWm (P : Program) (g0 : G) (w0 : World) (c : Code) (Q : Exit → Bool × St → Prop) (s : Bool × St) : Prop :=
  ∀ g a w, RelS s.2 g a.bare w → Step g0 w0 g w → Mk w0 s.1 a g w → c.wpIn Fence.wide 2 P (fun e a' w' => ∃ s' g', RelS s'.2 g' a'.bare w' ∧ Step g0 w0 g' w' ∧ Mk w0 s'.1 a' g' w' ∧ Q e s') a w

section
variable {P : Program} {g0 : G} {w0 : World} {K : Bool × St → Prop} {Q : Exit → Bool × St → Prop} {s : Bool × St} {id i : Nat}
def seqM (K : Bool × St → Prop) (Q : Exit → Bool × St → Prop) : Exit → Bool × St → Prop
  | .normal, s => K s
  | e, s => Q e s
def blockM (id : Nat) (Q : Exit → Bool × St → Prop) : Exit → Bool × St → Prop
  | .exit id', s => if id' = id then Q .normal s else Q (.exit id') s
  | e, s => Q e s
theorem awm_seq {x y : Code} (h : AWm P g0 w0 x (seqM (fun s' => AWm P g0 w0 y Q s') Q) s) : AWm P g0 w0 (.seq x y) Q s := by
  intro g a w hr hs hm
  refine wpIn_seq (wpIn_mono (h g a w hr hs hm) fun e a' w' ⟨s', g', h1, h2, h3, h4⟩ => ?_)
  cases e with
  | normal => exact h4 g' a' w' h1 h2 h3
  | _ => exact ⟨s', g', h1, h2, h3, h4⟩
theorem awm_cond {c : Operand} {x y : Code} {b : Bool} (hc : s.2.eval c = .d (.bool b)) (ht : b = true → AWm P g0 w0 x Q s) (hf : b = false → AWm P g0 w0 y Q s) : AWm P g0 w0 (.cond c x y) Q s := by
  intro g a w hr hs hm
  have h1 := eval_rep hr (s := s.2) (fun _ => rfl) c
  rw [hc] at h1
  simp only [RepA, RepD] at h1
  have h2 : a.eval c = .bool b := by rw [← h1]; cases c <;> rfl
  exact wpIn_cond_split h2 (fun hb => ht hb g a w hr hs hm) (fun hb => hf hb g a w hr hs hm)
theorem awm_block {c : Code} (h : AWm P g0 w0 c (blockM id Q) s) : AWm P g0 w0 (.block id c) Q s := by
  intro g a w hr hs hm
  refine wpIn_block (wpIn_mono (h g a w hr hs hm) fun e a' w' ⟨s', g', h1, h2, h3, h4⟩ => ?_)
  cases e with
  | exit id' =>
    simp only [blockM] at h4
    simp only [Exit.inBlock]
    split at h4
    · rename_i he; rw [if_pos he]; exact ⟨s', g', h1, h2, h3, h4⟩
    · rename_i he; rw [if_neg he]; exact ⟨s', g', h1, h2, h3, h4⟩
  | _ => exact ⟨s', g', h1, h2, h3, h4⟩
theorem awm_skip (h : Q .normal s) : AWm P g0 w0 .skip Q s := fun g a w hr hs hm => wpIn_skip ⟨s, g, hr, hs, hm, h⟩
theorem awm_exit (h : Q (.exit id) s) : AWm P g0 w0 (.exit id) Q s := fun g a w hr hs hm => wpIn_exit ⟨s, g, hr, hs, hm, h⟩
theorem awm_ret (h : Q .ret s) : AWm P g0 w0 .ret Q s := fun g a w hr hs hm => wpIn_ret ⟨s, g, hr, hs, hm, h⟩
theorem sm_n (h : K s) : seqM K Q .normal s := h
theorem sm_r (h : Q .ret s) : seqM K Q .ret s := h
theorem sm_x (h : Q (.exit i) s) : seqM K Q (.exit i) s := h
theorem bm_n (h : Q .normal s) : blockM id Q .normal s := h
theorem bm_r (h : Q .ret s) : blockM id Q .ret s := h
theorem bm_x (h : Q .normal s) : blockM id Q (.exit id) s := by simp only [blockM, if_true]; exact h
theorem bm_y (hn : Nat.beq i id = false) (h : Q (.exit i) s) : blockM id Q (.exit i) s := by
  simp only [blockM]
  rw [if_neg (Nat.ne_of_beq_eq_false hn)]; exact h

theorem bare_eq {a : Act} (h : a.defers = []) : a.bare = a := by cases a; simp at h; subst h; rfl

theorem awm_region {ty : TypeId → Option TI} (hc : Ctx P ty) (orc : List (Nat × Res)) {l : List Oper} (hd : noDefer l = true)
    (h : ∀ K : St → Prop, (∀ s', Q .normal (s.1, s') → K s') → wpT ty P orc (l.map (·.dst)) s.2.nxt 0 l { s.2 with nxt := s.2.nxt + l.length } K) : AWm P g0 w0 (.region id l.toArray false) Q s := by
  intro g a w hr hs hm
  refine wpIn_region_lit ?_
  have ha : a = { a.bare with defers := a.defers } := rfl
  have key := wpT_soundM (free_wide 2) (ds := a.defers) (P := P) hc (orc := orc) (gs := l.map (·.dst)) (ops := l.toArray) (by intro j; simp) (base := s.2.nxt) (nxt := s.2.nxt + l.length)
    (Q := fun e a' w' => ∃ s' g', RelS s'.2 g' a'.bare w' ∧ Step g0 w0 g' w' ∧ Mk w0 s'.1 a' g' w' ∧ Q e s') (K := fun s' => Q .normal (s.1, s')) (g0 := g) (w0 := w) (l2 := []) (en := l.length) (n0 := s.2.n)
    (fun s' g' a' w' hnx hn hrel hst hk => ⟨(s.1, s'), g', by
      have hb : Go.Act.bare { a' with defers := a.defers } = a' := bare_eq (a := a') hrel.defers
      rw [hb]
      exact ⟨hrel.defers, hrel.size, hrel.tmp, fun id hu => by have := hrel.used id hu; show id < s'.nxt; omega, hrel.heap⟩, hs.trans hst, hm.step hst rfl, hk⟩)
    l 0 { s.2 with nxt := s.2.nxt + l.length } g a.bare w hd (by simp) rfl rfl ⟨hr.defers, hr.size, hr.tmp, fun id hu => by have := hr.used id hu; simpa using this, hr.heap⟩ (Step.refl g w) (h _ fun _ hq => hq)
  rw [List.append_nil] at key
  rw [ha]
  exact key

/-- THE LOOP. -/
theorem awm_range (hsb : s.1 = false) {go : Operand} {f : FuncId} {caps xs : List D} (hgv : s.2.eval go = .d (.fn (.func f) caps)) (hit : IterOk P f caps xs)
    {t pn idS idn pt nx : Nat} (htp : t ≠ pn) (hpn : s.2.n ≤ pn) (hgt : s.2.get t = .ptr idS 0 0) (hptn : pt < s.2.n) {o : Ob} (hob : s.2.obj idS = some o) (hus : idS < s.2.nxt) (I : Nat → List (Nat × Option Ob))
    (hstart : ∀ L, Weak { s.2 with tm := (pn, .pin idS L) :: s.2.tm } (S1 s.2.n t pn idn L (I 0) nx)) {assign body : Code}
    (hbody : ∀ L k x, xs[k]? = some x → AWr 0 P assign (fun e s1 => e = .normal ∧ AWr 0 P body (fun e s2 => e = .normal ∧ Weak s2 (S1 s.2.n t pn idn L (I (k + 1)) nx)) s1) { S1 s.2.n t pn idn L (I k) nx with tm := (pt, .d x) :: (S1 s.2.n t pn idn L (I k) nx).tm })
    (hq : ∀ L, Q .normal (true, S1 s.2.n t pn idn L (I xs.length) nx)) : AWm P g0 w0 (.rangeFunc go #[pt] assign body) Q s := by
  intro g a w hr hs hm
  have ha : a.defers = [] := by
    rcases hm with h | h
    · exact h.2
    · rw [hsb] at h; exact absurd h.1 Bool.false_ne_true
  rw [bare_eq ha] at hr
  refine range_sound (m := 0) hr hgv hit htp hpn hgt hptn hob hus I hstart hbody fun g' W D L h1 h2 h3 h4 h5 => ⟨(true, S1 s.2.n t pn idn L (I xs.length) nx), g', ?_, hs.trans h2, .inr ⟨rfl, D, by simp [ha], Nat.le_trans hs.size h3, (Array.getElem?_eq_some_iff.1 h4).1, h4, h5⟩, hq L⟩
  have hb : Go.Act.bare { a with defers := { target := .collected D, args := #[] } :: a.defers } = a := bare_eq ha
  rw [hb]; exact h1
end

/-- A CONTRACT OUT OF THE CODE, where it holds a range over a function. -/
theorem pc_of_awm {P : Program} {ty : TypeId → Option TI} (hc : Ctx P ty) {f : FuncId} {fn : Func} {c : Code} {ds : List D} {r : Res} (hf : P.funcs[f]? = some fn) (hb : fn.body = some c) (hname : (fn.name == "runtime.NumGoroutine") = false) (hn : ds.length ≤ fn.ntmps)
    (h : ∀ g0 w0, AWm P g0 w0 c (fun e s => retQ ty fn.results.toList r e s.2) (false, start fn.ntmps ds)) : PC P f ds r := by
  refine ⟨⟨fn, hf, hname, by rw [hb]; rfl⟩, fun ro w vs hro hd => ?_⟩
  refine callsIn_wide.1 (callsIn_of_wp_marks (n := 2) hf hb trivial (wpIn_mono (h ⟨ro, fun _ => none, fun _ => False⟩ w _ _ w (start_rel hro hd hn) (Step.refl _ w) (.inl ⟨rfl, rfl⟩)) fun e a' w' ⟨s', g', h1, h2, h3, h4⟩ => ?_))
  have fin : (∃ l, resAs ty s'.2 fn.results.toList = some l ∧ resOk s'.2 (oneOf l) r) → LeavesInM Fence.wide 2 P fn a'.tmps (fun e w' => ∃ v, e = .returned v ∧ Below w.heap.size w w' ∧ RepRes ro w.heap.size w' r v) a'.defers .returning w' := by
    intro hl
    rcases h3 with ⟨_, h3⟩ | ⟨_, D, h3, k1, k2, k3, k4⟩
    · rw [h3]
      obtain ⟨v, hv, v', he, hb, hrep⟩ := ret_done hc h1 h2 hl
      cases he
      exact ⟨v, hv, v, rfl, hb, hrep⟩
    · rw [h3]
      refine ⟨by simp, .inl ⟨D, _, rfl, run_takeDeferred k3, ?_⟩⟩
      obtain ⟨v, hv, v', he, hb, hrep⟩ := ret_done hc (Rel.put h1 (.deferred none) k4) (h2.put (.deferred none) k1) hl
      cases he
      exact ⟨v, hv, v, rfl, hb, hrep⟩
  cases e with
  | normal => exact fin (retQ_spec h4)
  | ret => exact fin (retQ_spec h4)
  | _ => exact h4.elim
end Go.Abs

set_option linter.unusedVariables false
set_option linter.unusedSimpArgs false
set_option maxRecDepth 100000
namespace Go.Proofs.Ytknelhiejjdioaa
open Go.Abs

def cellI (R : List Row) (k : Nat) : List (Nat × Option Ob) := [(1, some ⟨40, 1, [[.hs 2 0 ((regCells R).take k).length]]⟩), (2, some ⟨31, 2, dr (((regCells R).take k).map Cell.row)⟩)]

set_option maxHeartbeats 4000000 in
theorem cells_own (R : List Row) (hsm : smallR R) (hn : validR R = true → (regCells R).length ≤ 1000000) : PC Try.prog 81 [.agg (regRow R)] (.o 31 2 ((cellsOf R).map Cell.row)) := by
  have c1 := valid_ok R hsm
  have hC : cellsOf R = if validR R then regCells R else [] := rfl
  cases hv : validR R with
  | false =>
    rw [hv] at c1 hC
    rw [if_neg (by simp)] at hC
    rw [hC]
    refine pc_of_awm cx (fn := Try.f81) (c := _) Try.func81 rfl rfl (Nat.le_of_ble_eq_true rfl) fun gM wM => ?_
    rw [Try.ntmps81]; (repeat (first | refine awm_seq ?_ | refine awm_block ?_ | refine awm_skip ?_ | refine awm_exit ?_ | refine awm_ret ?_ | refine sm_n ?_ | refine sm_r ?_ | refine sm_x ?_ | refine bm_n ?_ | refine bm_r ?_ | refine bm_x ?_ | refine bm_y rfl ?_))
    refine awm_region cx [] rfl fun K hK => ?_
    simp [push_cast]
    repeat (refine And.intro (by clear hK; intros; first | omega | (simp_all; done) | (simp_all <;> omega)) ?_)
    refine hK _ ?_; clear hK K; (try dsimp only); (repeat (first | refine awm_seq ?_ | refine awm_block ?_ | refine awm_skip ?_ | refine awm_exit ?_ | refine awm_ret ?_ | refine sm_n ?_ | refine sm_r ?_ | refine sm_x ?_ | refine bm_n ?_ | refine bm_r ?_ | refine bm_x ?_ | refine bm_y rfl ?_))
    refine awm_region cx [(1, .p (.bool false))] rfl fun K hK => ?_
    simp [push_cast, c1]
    repeat (refine And.intro (by clear hK; intros; first | omega | (simp_all; done) | (simp_all <;> omega)) ?_)
    refine hK _ ?_; clear hK K; (try dsimp only); (repeat (first | refine awm_seq ?_ | refine awm_block ?_ | refine awm_skip ?_ | refine awm_exit ?_ | refine awm_ret ?_ | refine sm_n ?_ | refine sm_r ?_ | refine sm_x ?_ | refine bm_n ?_ | refine bm_r ?_ | refine bm_x ?_ | refine bm_y rfl ?_))
    refine awm_cond (b := true) (by simp [push_cast]) (fun hb => ?_) (fun hb => ?_) <;> ((repeat (first | refine awm_seq ?_ | refine awm_block ?_ | refine awm_skip ?_ | refine awm_exit ?_ | refine awm_ret ?_ | refine sm_n ?_ | refine sm_r ?_ | refine sm_x ?_ | refine bm_n ?_ | refine bm_r ?_ | refine bm_x ?_ | refine bm_y rfl ?_)))
    · refine awm_region cx [] rfl fun K hK => ?_
      simp [push_cast]
      repeat (refine And.intro (by clear hK; intros; first | omega | (simp_all; done) | (simp_all <;> omega)) ?_)
      refine hK _ ?_; clear hK K; (try dsimp only); (repeat (first | refine awm_seq ?_ | refine awm_block ?_ | refine awm_skip ?_ | refine awm_exit ?_ | refine awm_ret ?_ | refine sm_n ?_ | refine sm_r ?_ | refine sm_x ?_ | refine bm_n ?_ | refine bm_r ?_ | refine bm_x ?_ | refine bm_y rfl ?_))
      simp [push_cast]
    · simp at hb
  | true =>
    have hit := iter_ok R hsm hv
    have hn := hn hv
    have c2 := all_ok R
    rw [hv] at c1 hC
    rw [if_pos rfl] at hC
    rw [hC]
    clear hC
    refine pc_of_awm cx (fn := Try.f81) (c := _) Try.func81 rfl rfl (Nat.le_of_ble_eq_true rfl) fun gM wM => ?_
    rw [Try.ntmps81]; (repeat (first | refine awm_seq ?_ | refine awm_block ?_ | refine awm_skip ?_ | refine awm_exit ?_ | refine awm_ret ?_ | refine sm_n ?_ | refine sm_r ?_ | refine sm_x ?_ | refine bm_n ?_ | refine bm_r ?_ | refine bm_x ?_ | refine bm_y rfl ?_))
    refine awm_region cx [] rfl fun K hK => ?_
    simp [push_cast]
    repeat (refine And.intro (by clear hK; intros; first | omega | (simp_all; done) | (simp_all <;> omega)) ?_)
    refine hK _ ?_; clear hK K; (try dsimp only); (repeat (first | refine awm_seq ?_ | refine awm_block ?_ | refine awm_skip ?_ | refine awm_exit ?_ | refine awm_ret ?_ | refine sm_n ?_ | refine sm_r ?_ | refine sm_x ?_ | refine bm_n ?_ | refine bm_r ?_ | refine bm_x ?_ | refine bm_y rfl ?_))
    refine awm_region cx [(1, .p (.bool true))] rfl fun K hK => ?_
    simp [push_cast, c1]
    repeat (refine And.intro (by clear hK; intros; first | omega | (simp_all; done) | (simp_all <;> omega)) ?_)
    refine hK _ ?_; clear hK K; (try dsimp only); (repeat (first | refine awm_seq ?_ | refine awm_block ?_ | refine awm_skip ?_ | refine awm_exit ?_ | refine awm_ret ?_ | refine sm_n ?_ | refine sm_r ?_ | refine sm_x ?_ | refine bm_n ?_ | refine bm_r ?_ | refine bm_x ?_ | refine bm_y rfl ?_))
    refine awm_cond (b := false) (by simp [push_cast]) (fun hb => ?_) (fun hb => ?_) <;> ((repeat (first | refine awm_seq ?_ | refine awm_block ?_ | refine awm_skip ?_ | refine awm_exit ?_ | refine awm_ret ?_ | refine sm_n ?_ | refine sm_r ?_ | refine sm_x ?_ | refine bm_n ?_ | refine bm_r ?_ | refine bm_x ?_ | refine bm_y rfl ?_)))
    · simp at hb
    · refine awm_region cx [] rfl fun K hK => ?_
      simp [push_cast]
      repeat (refine And.intro (by clear hK; intros; first | omega | (simp_all; done) | (simp_all <;> omega)) ?_)
      refine hK _ ?_; clear hK K; (try dsimp only); (repeat (first | refine awm_seq ?_ | refine awm_block ?_ | refine awm_skip ?_ | refine awm_exit ?_ | refine awm_ret ?_ | refine sm_n ?_ | refine sm_r ?_ | refine sm_x ?_ | refine bm_n ?_ | refine bm_r ?_ | refine bm_x ?_ | refine bm_y rfl ?_))
      refine awm_region cx [(1, .p (.fn (.func 129) [.rp (regRow R)]))] rfl fun K hK => ?_
      simp [push_cast, c2]
      repeat (refine And.intro (by clear hK; intros; first | omega | (simp_all; done) | (simp_all <;> omega)) ?_)
      refine hK _ ?_; clear hK K; (try dsimp only); (repeat (first | refine awm_seq ?_ | refine awm_block ?_ | refine awm_skip ?_ | refine awm_exit ?_ | refine awm_ret ?_ | refine sm_n ?_ | refine sm_r ?_ | refine sm_x ?_ | refine bm_n ?_ | refine bm_r ?_ | refine bm_x ?_ | refine bm_y rfl ?_))
      refine awm_range (caps := [.rp (regRow R)]) (xs := itemsOf R) rfl rfl hit (t := 3) (pn := 16) (idS := 5) (idn := 1) (nx := 3) (by decide) (Nat.le_of_ble_eq_true rfl) rfl (Nat.le_of_ble_eq_true rfl) rfl (Nat.le_of_ble_eq_true rfl) (cellI R) (fun L => ?_) (fun L k x hx => ?_) fun L => ?_
      · show Weak _ ⟨16, [(3, .ptr 1 0 0), (16, .pin 1 L)], cellI R 0, 3⟩
        unfold cellI
        refine weak_of [(1, some 5), (2, none)] rfl (by simp [upT, up, upL, push_cast]) (by simp [upH, upR, upL, up, push_cast]) (by simp [namesOk, push_cast]) (by simp [olds])
      · unfold itemsOf at hx
        rw [List.getElem?_map] at hx
        cases hc : (regCells R)[k]? with
        | none => rw [hc] at hx; cases hx
        | some c =>
          rw [hc] at hx
          cases hx
          have hk := (List.getElem?_eq_some_iff.1 hc).1
          have htk : (regCells R).take (k + 1) = (regCells R).take k ++ [c] := take_get hc
          have hkl : ((regCells R).take k).length = k := by rw [List.length_take]; omega
          unfold S1 cellI
          rw [htk]
          generalize (regCells R).take k = Z at *
          have hZ16 : (Z.length + 1) * 16 ≤ 140737488355328 := by omega
          obtain ⟨x, y⟩ := c
          refine awr_region cx [] (fun s' h => by cases h.1) rfl fun K hK => ?_
          simp [push_cast]
          refine hK _ ⟨rfl, ?_⟩
          clear hK K
          refine awr_block (Q := fun s2 => Weak s2 _) ?_
          refine awr_region cx [] (fun s' h => by cases h.1) rfl fun K hK => ?_
          simp [push_cast, hZ16]
          refine hK _ ⟨rfl, ?_⟩
          clear hK K
          dsimp only
          refine weak_of [(1, some 1), (2, some 8)] rfl (by simp [upT, up, upL, push_cast, Cell.row]) (by simp [upH, upR, upL, up, push_cast, Cell.row]) (by simp [namesOk, push_cast]) (by simp [olds])
      · unfold S1 cellI
        have hl : (itemsOf R).length = (regCells R).length := by simp [itemsOf]
        rw [hl, List.take_length]
        (repeat (first | refine awm_seq ?_ | refine awm_block ?_ | refine awm_skip ?_ | refine awm_exit ?_ | refine awm_ret ?_ | refine sm_n ?_ | refine sm_r ?_ | refine sm_x ?_ | refine bm_n ?_ | refine bm_r ?_ | refine bm_x ?_ | refine bm_y rfl ?_))
        refine awm_region cx [] rfl fun K hK => ?_
        simp [push_cast]
        repeat (refine And.intro (by clear hK; intros; first | omega | (simp_all; done) | (simp_all <;> omega)) ?_)
        refine hK _ ?_; clear hK K; (try dsimp only); (repeat (first | refine awm_seq ?_ | refine awm_block ?_ | refine awm_skip ?_ | refine awm_exit ?_ | refine awm_ret ?_ | refine sm_n ?_ | refine sm_r ?_ | refine sm_x ?_ | refine bm_n ?_ | refine bm_r ?_ | refine bm_x ?_ | refine bm_y rfl ?_))
        have ht : List.take (regCells R).length ((regCells R).map Cell.row) = (regCells R).map Cell.row := List.take_of_length_le (by simp)
        simp [push_cast, ht]
theorem cells_ok (R : List Row) (hsm : smallR R) (hn : validR R = true → (regCells R).length ≤ 1000000) : PC Try.prog 81 [.agg (regRow R)] (.p (encCells (cellsOf R))) := (cells_own R hsm hn).data
end Go.Proofs.Ytknelhiejjdioaa

set_option linter.unusedVariables false
set_option linter.unusedSimpArgs false
namespace Go.Proofs.Ytknelhiejjdioaa
open Go.Abs

set_option maxHeartbeats 1000000 in
theorem rsame_ok (a b : List Row) (ha : smallR a) : PC Try.prog 12 [.agg (regRow a), .agg (regRow b)] (.p (.bool (decide (a = b)))) := by
  have hal := ha.1
  refine pc_of_awp cx (fn := Try.f12) (c := _) Try.func12 rfl rfl (Nat.le_of_ble_eq_true rfl) ?_
  rw [Try.ntmps12]; refine Nav.imp ?_
  refine awp_region cx [] fun K hK => ?_
  simp [push_cast]
  repeat (refine And.intro (by clear hK; intros; first | omega | (simp_all; done) | (simp_all <;> omega)) ?_)
  refine hK _ ?_; clear hK K; refine Nav.imp ?_
  refine awp_region cx [] fun K hK => ?_
  simp [push_cast]
  repeat (refine And.intro (by clear hK; intros; first | omega | (simp_all; done) | (simp_all <;> omega)) ?_)
  refine hK _ ?_; clear hK K; refine Nav.imp ?_
  refine awp_cond (by simp [push_cast] <;> exact rfl) (fun hb => ?_) (fun hb => ?_) <;> (refine Nav.imp ?_)
  · simp at hb
    have hne : a ≠ b := by intro e; subst e; simp at hb
    refine awp_region cx [] fun K hK => ?_
    simp [push_cast]
    repeat (refine And.intro (by clear hK; intros; first | omega | (simp_all; done) | (simp_all <;> omega)) ?_)
    refine hK _ ?_; clear hK K; refine Nav.imp ?_
    simp [push_cast, hne]
  · have hlen : a.length = b.length := by simp at hb; omega
    clear hb
    refine awp_region cx [] fun K hK => ?_
    simp [push_cast]
    repeat (refine And.intro (by clear hK; intros; first | omega | (simp_all; done) | (simp_all <;> omega)) ?_)
    refine hK _ ?_; clear hK K; refine Nav.imp ?_
    refine awp_loop (β := Nat) (fun k => ⟨65, [(2, .ptr 0 0 0), (3, .ptr 1 0 0), (5, .d (.int .i64 k))], [(0, some ⟨24, 1, [(regRow a).map .d]⟩), (1, some ⟨24, 1, [(regRow b).map .d]⟩)], 2⟩) (fun k => k ≤ a.length ∧ a.take k = b.take k) (fun k => a.length - k) 0 ?_ ⟨Nat.zero_le _, by simp⟩ ?_
    · refine weak_of [(0, some 0), (1, some 1)] rfl (by simp [upT, up, upL, push_cast]) (by simp [upH, upR, upL, up, push_cast]) (by simp [namesOk, push_cast]) (by simp [olds])
    · rintro k ⟨hk, hpre⟩
      refine Nav.imp ?_
      refine awp_region cx [] fun K hK => ?_
      simp [push_cast]
      repeat (refine And.intro (by clear hK; intros; first | omega | (simp_all; done) | (simp_all <;> omega)) ?_)
      refine hK _ ?_; clear hK K; refine Nav.imp ?_
      refine awp_cond (b := decide ((k : Int) < a.length)) (by simp [push_cast]) (fun hb => ?_) (fun hb => ?_) <;> (refine Nav.imp ?_)
      · have hlt : k < a.length := by simpa using hb
        obtain ⟨x, hx⟩ := getq hlt
        obtain ⟨y, hy⟩ : ∃ y, b[k]? = some y := getq (by omega)
        have e0 := wrap_i64 (n := (k : Int) + 1) (by omega) (by omega)
        have hxl := ha.2 x (List.mem_of_getElem? hx)
        have hno : x ≠ y → a ≠ b := fun h e => by
          subst e
          rw [hx] at hy
          exact h (Option.some.inj hy)
        obtain ⟨xy, xr⟩ := x
        obtain ⟨yy, yr⟩ := y
        simp only at hxl
        refine awp_region_draw cx mixed [] fun K hK => ?_
        simp [push_cast, hx, hy, Row.row]
        repeat (refine And.intro (by clear hK; intros; first | omega | (simp_all; done) | (simp_all <;> omega)) ?_)
        refine hK _ _ (by kernel_rfl) ?_; clear hK K; refine Nav.imp ?_
        refine awp_region cx [] fun K hK => ?_
        simp [push_cast, Row.row]
        repeat (refine And.intro (by clear hK; intros; first | omega | (simp_all; done) | (simp_all <;> omega)) ?_)
        refine hK _ ?_; clear hK K; refine Nav.imp ?_
        refine awp_cond (by simp [push_cast] <;> exact rfl) (fun hb => ?_) (fun hb => ?_) <;> (refine Nav.imp ?_)
        · have hn : a ≠ b := hno (by rintro ⟨⟩; simp at hb)
          refine awp_region cx [] fun K hK => ?_
          simp [push_cast]
          repeat (refine And.intro (by clear hK; intros; first | omega | (simp_all; done) | (simp_all <;> omega)) ?_)
          refine hK _ ?_; clear hK K; refine Nav.imp ?_
          simp [push_cast, hn]
        · simp at hb
          obtain ⟨hy0, hl0⟩ := hb
          have hl0 : xr.length = yr.length := by omega
          subst hy0
          refine awp_region cx [] fun K hK => ?_
          simp [push_cast]
          repeat (refine And.intro (by clear hK; intros; first | omega | (simp_all; done) | (simp_all <;> omega)) ?_)
          refine hK _ ?_; clear hK K; refine Nav.imp ?_
          refine awp_loop (β := Nat) (fun j => ⟨65, [(2, .ptr 0 0 0), (3, .ptr 1 0 0), (5, .d (.int .i64 k)), (6, .ptr 2 0 0), (7, .ptr 3 0 0), (8, .d (.int .i64 j))], [(0, some ⟨24, 1, [(regRow a).map .d]⟩), (1, some ⟨24, 1, [(regRow b).map .d]⟩), (2, some ⟨48, 2, [(Row.row ⟨xy, xr⟩).map .d]⟩), (3, some ⟨48, 2, [(Row.row ⟨xy, yr⟩).map .d]⟩)], 4⟩) (fun j => j ≤ xr.length ∧ xr.take j = yr.take j) (fun j => xr.length - j) 0 ?_ ⟨Nat.zero_le _, by simp⟩ ?_
          · refine weak_of [(0, some 0), (1, some 1), (2, some 17), (3, some 18)] rfl (by simp [upT, up, upL, push_cast, Row.row]) (by simp [upH, upR, upL, up, push_cast, Row.row]) (by simp [namesOk, push_cast]) (by simp [olds])
          · rintro j ⟨hj, hpr⟩
            refine Nav.imp ?_
            refine awp_region cx [] fun K hK => ?_
            simp [push_cast, Row.row]
            repeat (refine And.intro (by clear hK; intros; first | omega | (simp_all; done) | (simp_all <;> omega)) ?_)
            refine hK _ ?_; clear hK K; refine Nav.imp ?_
            refine awp_cond (b := decide ((j : Int) < xr.length)) (by simp [push_cast]) (fun hb => ?_) (fun hb => ?_) <;> (refine Nav.imp ?_)
            · have hjl : j < xr.length := by simpa using hb
              obtain ⟨p, hp⟩ := getq hjl
              obtain ⟨q, hq⟩ : ∃ y, yr[j]? = some y := getq (by omega)
              have e1 := wrap_i64 (n := (j : Int) + 1) (by omega) (by omega)
              have hn2 : p ≠ q → a ≠ b := fun h => hno fun e => by
                injection e with _ e2
                subst e2
                rw [hp] at hq
                exact h (Option.some.inj hq)
              obtain ⟨pa, pb⟩ := p
              obtain ⟨qa, qb⟩ := q
              refine awp_region_draw cx mixed [] fun K hK => ?_
              simp [push_cast, hp, hq, Row.row, Run.row]
              repeat (refine And.intro (by clear hK; intros; first | omega | (simp_all; done) | (simp_all <;> omega)) ?_)
              refine hK _ _ (by kernel_rfl) ?_; clear hK K; refine Nav.imp ?_
              refine awp_cond (by simp [push_cast] <;> exact rfl) (fun hb => ?_) (fun hb => ?_) <;> (refine Nav.imp ?_)
              · have hn : a ≠ b := hn2 (by rintro ⟨⟩; simp at hb)
                refine awp_region cx [] fun K hK => ?_
                simp [push_cast]
                repeat (refine And.intro (by clear hK; intros; first | omega | (simp_all; done) | (simp_all <;> omega)) ?_)
                refine hK _ ?_; clear hK K; refine Nav.imp ?_
                simp [push_cast, hn]
              · simp at hb
                obtain ⟨h1, h2⟩ := hb
                subst h1 h2
                refine awp_region cx [] fun K hK => ?_
                simp [push_cast, e1]
                repeat (refine And.intro (by clear hK; intros; first | omega | (simp_all; done) | (simp_all <;> omega)) ?_)
                refine hK _ ?_; clear hK K; refine Nav.imp ?_
                refine ⟨j + 1, ⟨hjl, take_eq_step hpr hp hq rfl⟩, by omega, ?_⟩
                refine weak_of [(0, some 0), (1, some 1), (2, some 2), (3, some 3)] rfl (by simp [upT, up, upL, push_cast, Row.row]) (by simp [upH, upR, upL, up, push_cast, Row.row]) (by simp [namesOk, push_cast]) (by simp [olds])
            · have hjn : j = xr.length := by simp at hb; omega
              subst hjn
              rw [List.take_length, hl0, List.take_length] at hpr
              subst hpr
              refine awp_region cx [] fun K hK => ?_
              simp [push_cast, e0]
              repeat (refine And.intro (by clear hK; intros; first | omega | (simp_all; done) | (simp_all <;> omega)) ?_)
              refine hK _ ?_; clear hK K; refine Nav.imp ?_
              refine ⟨k + 1, ⟨hlt, take_eq_step hpre hx hy rfl⟩, by omega, ?_⟩
              refine weak_of [(0, some 0), (1, some 1)] rfl (by simp [upT, up, upL, push_cast]) (by simp [upH, upR, upL, up, push_cast]) (by simp [namesOk, push_cast]) (by simp [olds])
      · have hge : k = a.length := by simp at hb; omega
        subst hge
        rw [List.take_length, hlen, List.take_length] at hpre
        refine awp_region cx [] fun K hK => ?_
        simp [push_cast]
        repeat (refine And.intro (by clear hK; intros; first | omega | (simp_all; done) | (simp_all <;> omega)) ?_)
        refine hK _ ?_; clear hK K; refine Nav.imp ?_
        simp [push_cast, hpre]
end Go.Proofs.Ytknelhiejjdioaa

set_option linter.unusedVariables false
set_option linter.unusedSimpArgs false
namespace Go.Abs
open Go.Shelf Go.RowKit Go.Lib Go.Sort Go.Proofs

/-- Two sorted lists of the same elements are one. -/
theorem sorted_uniq {α : Type} (le : α → α → Prop) : ∀ (l l' : List α), l.Perm l' → l.Pairwise le → l'.Pairwise le → (∀ a ∈ l, ∀ b ∈ l, le a b → le b a → a = b) → l = l'
  | [], l', h, _, _, _ => by have := h.length_eq; simp at this; exact (List.length_eq_zero_iff.1 this.symm).symm
  | a :: l, [], h, _, _, _ => by have := h.length_eq; simp at this
  | a :: l, b :: l', h, h1, h2, h3 => by
    have hab : a = b := by
      have ha : a ∈ b :: l' := h.subset (by simp)
      have hb : b ∈ a :: l := h.symm.subset (by simp)
      rcases List.mem_cons.1 ha with e | ha
      · exact e
      · rcases List.mem_cons.1 hb with e | hb
        · exact e.symm
        · exact h3 a (by simp) b (by simp [hb]) ((List.pairwise_cons.1 h1).1 b hb) ((List.pairwise_cons.1 h2).1 a ha)
    subst hab
    rw [sorted_uniq le l l' h.cons_inv (List.pairwise_cons.1 h1).2 (List.pairwise_cons.1 h2).2 (fun x hx y hy => h3 x (by simp [hx]) y (by simp [hy]))]

/-- What a comparison does: it hands back a number, and lays at most new memory. -/
def CmpOk (P : Program) (cg : FuncId) (V : List D → Prop) (cf : List D → List D → Int) : Prop :=
  ∀ (ro : Nat → Prop) (w : World) (a b : List D) (va vb : List Value), (∀ blk, ro blk → blk < w.heap.size) → V a → V b → RepDs ro w a va → RepDs ro w b vb → OneCells va → OneCells vb →
    Calls P cg #[.agg va.toArray, .agg vb.toArray] w fun e w' => e = .returned (.int .i64 (cf a b)) ∧ ∃ q os, w' = grow (w.drewN q) os

structure CmpOrd (V : List D → Prop) (cf : List D → List D → Int) : Prop where
  irrefl : ∀ a, V a → ¬ cf a a < 0
  trans : ∀ a b c, V a → V b → V c → cf a b < 0 → cf b c < 0 → cf a c < 0
  ntrans : ∀ a b c, V a → V b → V c → ¬ cf a b < 0 → ¬ cf b c < 0 → ¬ cf a c < 0

section
variable (ro : Nat → Prop) (w : World) (V : List D → Prop) (k : Nat)
/-- An element: what it reads as, and its cells. -/
def Elt : Type := { x : List D × List Value // V x.1 ∧ x.2.length = k ∧ OneCells x.2 ∧ RepDs ro w x.1 x.2 }
def Elt.enc (x : Elt ro w V k) : List Value := x.1.2
end

theorem heap_sort {α : Type} [Inhabited α] (enc : α → List Value) (k : Nat) (w : World) (blk m : Nat) (d : Array α) (os : Array Obj) {b : Nat} (hb : b < w.heap.size) (hne : b ≠ blk) : (sortWorldK enc k w blk 0 m d os).heap[b]? = w.heap[b]? := by
  unfold sortWorldK
  rw [heap_grow_old _ _ (by simpa [putRowK] using hb)]
  simp only [putRowK, putRow, mapBlock, heap_ahead]
  rw [Array.getElem?_modify, if_neg (fun h => hne h.symm)]

theorem heap_sort_blk {α : Type} [Inhabited α] (enc : α → List Value) (k : Nat) (w : World) (blk m : Nat) (d : Array α) (os : Array Obj) {cur : Array Value} {e : TypeId} {fr : Nat × Nat} (h : w.heap[blk]? = some (.cells cur e fr)) : (sortWorldK enc k w blk 0 m d os).heap[blk]? = some (.cells (Go.Sort.putCells id 0 (flatK enc k d) cur) e fr) := by
  have hb : blk < w.heap.size := (Array.getElem?_eq_some_iff.1 h).1
  unfold sortWorldK
  rw [heap_grow_old _ _ (by simpa [putRowK] using hb)]
  simp only [putRowK, putRow, mapBlock, heap_ahead]
  rw [Array.getElem?_modify, if_pos rfl, h]
  rfl

theorem size_sort {α : Type} [Inhabited α] (enc : α → List Value) (k : Nat) (w : World) (blk m : Nat) (d : Array α) (os : Array Obj) : w.heap.size ≤ (sortWorldK enc k w blk 0 m d os).heap.size := by
  unfold sortWorldK
  rw [size_grow]
  simp [putRowK]

theorem drawn_sort {α : Type} [Inhabited α] (enc : α → List Value) (k : Nat) (w : World) (blk m : Nat) (d : Array α) (os : Array Obj) : w.drawn ≤ (sortWorldK enc k w blk 0 m d os).drawn := by
  simp [sortWorldK, putRowK, grow, putRow, mapBlock, ahead]

/-- A contract over plain data is one of a comparison. -/
theorem cmp_of_pc {P : Program} {cg : FuncId} {V : List D → Prop} {cf : List D → List D → Int} (h : ∀ a b, V a → V b → PC P cg [.agg a, .agg b] (.p (.int .i64 (cf a b)))) : CmpOk P cg V cf := by
  intro ro w a b va vb hro ha hb ra rb oa ob
  refine ((h a b ha hb).2 ro w [.agg va.toArray, .agg vb.toArray] hro ?_).mono ?_
  · simp only [RepDs, RepD]
    exact ⟨_, _, rfl, ⟨va, rfl, oa, ra⟩, _, _, rfl, ⟨vb, rfl, ob, rb⟩, rfl⟩
  · rintro e w' ⟨v, he, hB, hr⟩
    simp only [RepRes, RepD] at hr
    refine ⟨by rw [he, hr], ?_⟩
    obtain ⟨p, hp⟩ := regrown_of_below hB.kit
    have hd : w'.drawn = w.drawn + (w'.drawn - w.drawn) := by have := hB.tape.2; omega
    refine ⟨w'.drawn - w.drawn, p.os, ?_⟩
    have hpd : p.d = w'.drawn := by rw [hp]; rfl
    rw [hp]
    simp only [grow, redrawn, World.drewN]
    rw [hp] at hd
    simp only [grow, redrawn] at hd
    congr 1

theorem cmp_lays {P : Program} {cg : FuncId} {V : List D → Prop} {cf : List D → List D → Int} (hc : CmpOk P cg V cf) {ro : Nat → Prop} {w : World} {k blk size : Nat} (hro : ∀ b, ro b → b < w.heap.size ∧ b ≠ blk) [Inhabited (Elt ro w V k)] :
    CmpLays P cg #[] (Elt.enc ro w V k) k (fun x y => cf x.1.1 y.1.1) blk 0 size w := by
  intro m os dk _ x y
  have hf : Fut ro w ro (sortWorldK (Elt.enc ro w V k) k w blk 0 m dk os) := fun b hb => ⟨hb, heap_sort _ _ _ _ _ _ _ (hro b hb).1 (hro b hb).2⟩
  obtain ⟨hx1, _, ox, hx2⟩ := x.2
  obtain ⟨hy1, _, oy, hy2⟩ := y.2
  have := hc ro (sortWorldK (Elt.enc ro w V k) k w blk 0 m dk os) x.1.1 y.1.1 x.1.2 y.1.2 (fun b hb => Nat.lt_of_lt_of_le (hro b hb).1 (size_sort _ _ _ _ _ _ _)) hx1 hy1 (RepDs.mono hf _ _ hx2) (RepDs.mono hf _ _ hy2) ox oy
  simpa [Elt.enc] using this

/-- THE CONTRACT of slices.SortFunc at structs of k cells: the rows in their order (which is one alone). -/
theorem sortFunc_px {P : Program} {ρ : Ren} (L : SlLaysF0.n6 P ρ) {k : Nat} (hk0 : 0 < k) (aE : ∀ w, (isAgg (ρ.t 24)).run P w = .ok true w) (zE : ∀ w, (Go.sizeOf (ρ.t 24)).run P w = .ok k w) (hent : Enters P (ρ.f 6)) {cg : FuncId}
    (eg : ∀ args w, (callFunc cg args).run P w = .ok (.enter cg args) w) {V : List D → Prop} {cf : List D → List D → Int} (hc : CmpOk P cg V cf) (hO : CmpOrd V cf) (e : TypeId) {rows rows' : List (List D)} (hV : ∀ r ∈ rows, V r)
    (hanti : ∀ a ∈ rows, ∀ b ∈ rows, ¬ cf b a < 0 → ¬ cf a b < 0 → a = b) (hp : rows'.Perm rows) (hs : rows'.Pairwise fun a b => ¬ cf b a < 0) (hn : 0 < rows.length) (hsz : rows.length < 4611686018427387904) (fv : AV)
    (hfv : ∀ g w v, RepA g w fv v → v = .func (.func cg) #[] #[]) :
    PX P (ρ.f 6) [.hs 0 0 rows.length, fv] [(0, ⟨e, k, dr rows⟩)] [(0, 0)] [(0, ⟨e, k, dr rows'⟩)] (.tup []) := by
  refine ⟨hent, fun g w vs h hu hvs => ?_⟩
  simp only [RepAs] at hvs
  obtain ⟨v0, _, rfl, h0, v1, _, rfl, h1, rfl⟩ := hvs
  have e1 := hfv g w v1 h1
  obtain ⟨L0, hL, hok⟩ := h.own 0 ⟨e, k, dr rows⟩ (by simp [objL, find])
  have hkm : L0.m = k := hok.m
  have hlenr : (dr rows).length = rows.length := by simp [dr]
  have hvirt : L0.virt = false := by
    cases hv : L0.virt with
    | false => rfl
    | true =>
      have h2 : (dr rows).length = 0 := by rw [show dr rows = [] from hok.virt hv]; rfl
      omega
  simp only [RepA] at h0
  have hflat : L0.virt = false ∧ L0.map = false := by
    rcases h0.2 L0 hL with ⟨hv, _⟩ | ⟨hv, _⟩
    · rw [hvirt] at hv; cases hv
    · exact hv
  have hvm := hflat.2
  obtain ⟨cur, hblk, hcs, hcap, hrows⟩ := hok.cells hflat
  have e0 : v0 = .slice (some ⟨L0.blk, 0, none⟩) rows.length L0.cap := by
    rcases h0.2 L0 hL with ⟨hv, _⟩ | ⟨_, _, hv⟩
    · rw [hvirt] at hv; cases hv
    · rw [hv]; simp
  have hcapl : rows.length ≤ L0.cap := by have := hok.len hvm; rw [hlenr] at this; exact this
  have hblt : L0.blk < w.heap.size := (Array.getElem?_eq_some_iff.1 hblk).1
  have hnro : ¬ g.ro L0.blk := ((h.live 0 L0 hL).2 hvirt).2
  have hro : ∀ b, g.ro b → b < w.heap.size ∧ b ≠ L0.blk := fun b hb => ⟨h.ro b hb, fun e => hnro (e ▸ hb)⟩
  have hcsz : rows.length * k ≤ cur.size := by rw [hcs, hkm]; exact Nat.mul_le_mul_right k hcapl
  have hin : ∀ i, i < rows.length → i * k + k ≤ cur.size := fun i hi => by
    have := Nat.mul_le_mul_right k (show i + 1 ≤ rows.length from hi)
    rw [Nat.add_mul, Nat.one_mul] at this; omega
  -- the cells of element i
  have hel : ∀ i (hi : i < rows.length), V rows[i] ∧ (cur.toList.drop (i * k) |>.take k).length = k ∧ OneCells (cur.toList.drop (i * k) |>.take k) ∧ RepDs g.ro w rows[i] (cur.toList.drop (i * k) |>.take k) := by
    intro i hi
    have hrow := hrows i (rows[i].map AV.d) (by simp [dr, hi])
    have hl : (cur.toList.drop (i * k) |>.take k).length = k := by
      have := hin i hi
      simp only [List.length_take, List.length_drop, Array.length_toList]; omega
    have hget : ∀ j, j < k → (cur.toList.drop (i * k) |>.take k)[j]? = cur[i * k + j]? := fun j hj => by
      rw [List.getElem?_take, if_pos hj, List.getElem?_drop, Array.getElem?_toList]
    have hrl : rows[i].length = k := by have := hrow.1; rw [hkm] at this; simpa using this
    refine ⟨hV _ (List.getElem_mem hi), hl, ?_, ?_⟩
    · intro v hv
      obtain ⟨j, hj⟩ := List.mem_iff_getElem?.1 hv
      have hjk : j < k := by have := (List.getElem?_eq_some_iff.1 hj).1; omega
      rw [hget j hjk] at hj
      obtain ⟨u, hu1, hu2, _⟩ := hrow.2 j (.d (rows[i][j]'(by omega))) (by simp [show j < rows[i].length by omega])
      rw [hkm, hj] at hu1
      cases hu1
      exact hu2
    · refine RepDs.of_get (by rw [hl, hrl]) fun j x hj => ?_
      have hjk : j < k := by have := (List.getElem?_eq_some_iff.1 hj).1; omega
      obtain ⟨u, hu1, _, hu3⟩ := hrow.2 j (.d x) (by simp [hj])
      rw [hkm] at hu1
      exact ⟨u, by rw [hget j hjk, hu1], by simpa only [RepA] using hu3⟩
  let mk : _root_.Fin rows.length → Elt g.ro w V k := fun i => ⟨(rows[i.1], (cur.toList.drop (i.1 * k)).take k), hel i.1 i.2⟩
  let d : Array (Elt g.ro w V k) := Array.ofFn mk
  haveI : Inhabited (Elt g.ro w V k) := ⟨mk ⟨0, hn⟩⟩
  have hds : d.size = rows.length := by simp [d]
  have hdi : ∀ i (hi : i < rows.length), d[i]! = mk ⟨i, hi⟩ := fun i hi => by
    rw [getElem!_pos d i (by rw [hds]; exact hi)]; simp [d]
  have hdl : d.toList.map (fun x => x.1.1) = rows := by
    apply List.ext_getElem
    · simp [d]
    · intro i h1 h2
      have hi : i < d.size := by simpa using h1
      rw [List.getElem_map, Array.getElem_toList]
      have e := hdi i h2
      rw [getElem!_pos d i hi] at e
      rw [e]
  have hH : HoldsK (Elt.enc g.ro w V k) k w L0.blk 0 d := by
    intro j hj
    have hjs : j < rows.length * k := by simpa [hds] using hj
    have hdk : j / k < rows.length := Nat.div_lt_of_lt_mul (by rwa [Nat.mul_comm] at hjs)
    have hmod : j % k < k := Nat.mod_lt j hk0
    have hdm : j / k * k + j % k = j := by rw [Nat.mul_comm]; exact Nat.div_add_mod j k
    rw [get_flatK _ _ _ _ (by rw [hds]; exact hjs), hdi _ hdk]
    have hlt : j < cur.size := by omega
    refine ⟨?_, ?_⟩
    · simp only [World.cell?, hblk, Nat.zero_add]
      simp only [Option.isSome_none, Bool.false_eq_true, if_false, id_eq]
      have hl2 := (hel _ hdk).2.1
      rw [getElem!_pos _ _ (by rw [show (Elt.enc g.ro w V k (mk ⟨j / k, hdk⟩)) = (cur.toList.drop (j / k * k)).take k from rfl, hl2]; exact hmod)]
      simp only [Elt.enc, mk, List.getElem_take, List.getElem_drop, Array.getElem_toList, hdm]
      exact Array.getElem?_eq_getElem hlt
    · simp only [World.frozen?, hblk]
      simp
  have hswo : SWO (ltOf fun x y : Elt g.ro w V k => cf x.1.1 y.1.1) := by
    refine ⟨fun x => ?_, fun x y z h1 h2 => ?_, fun x y z h1 h2 => ?_⟩
    · simpa [ltOf] using hO.irrefl x.1.1 x.2.1
    · simp only [ltOf, decide_eq_true_eq] at h1 h2 ⊢
      exact hO.trans _ _ _ x.2.1 y.2.1 z.2.1 h1 h2
    · simp only [ltOf, decide_eq_false_iff_not] at h1 h2 ⊢
      exact hO.ntrans _ _ _ x.2.1 y.2.1 z.2.1 h1 h2
  have hmain := AnyQ.slices_SortFunc L k aE zE (Elt.enc g.ro w V k) (fun x => x.2.2.1) (fun x v hv => x.2.2.2.1 v hv) (fun x y => cf x.1.1 y.1.1) hswo cg #[] L0.blk 0 L0.cap d w eg (cmp_lays hc hro) hH hblt (by rw [hds]; exact hsz)
  rw [hds] at hmain
  rw [e0, e1]
  refine hmain.mono ?_
  rintro ex w' ⟨rfl, d', n, os, hperm, hsort, rfl⟩
  obtain ⟨hps, _, hpp⟩ := hperm
  have hex : ∀ a : Array (Elt g.ro w V k), a.size = rows.length → (a.extract 0 rows.length) = a := fun a ha => by rw [← ha]; simp
  rw [hex d' (by rw [hps, hds]), hex d hds] at hpp
  have hrows' : d'.toList.map (fun x => x.1.1) = rows' := by
    refine sorted_uniq (fun a b => ¬ cf b a < 0) _ _ ((hpp.map _).trans (by rw [hdl]; exact hp.symm)) ?_ hs ?_
    · rw [List.pairwise_map, List.pairwise_iff_getElem]
      intro i j hi hj hij
      have hj' : j < d'.size := by simpa using hj
      have := hsort i j (Nat.zero_le _) hij (by rw [hps, hds] at hj'; exact hj')
      rw [getElem!_pos d' i (by omega), getElem!_pos d' j hj'] at this
      simpa [ltOf] using this
    · intro a ha b hb hab hba
      have hsub : ∀ x, x ∈ d'.toList.map (fun x => x.1.1) → x ∈ rows := fun x hx => by
        have := (hpp.map (fun x : Elt g.ro w V k => x.1.1)).subset hx
        rwa [hdl] at this
      exact hanti a (hsub a ha) b (hsub b hb) hab hba
  have hd's : d'.size = rows.length := by rw [hps, hds]
  have hbs : (sortWorldK (Elt.enc g.ro w V k) k w L0.blk 0 n d' os).heap[L0.blk]? = some (.cells (Go.Sort.putCells id 0 (flatK (Elt.enc g.ro w V k) k d') cur) e (0, 0)) := heap_sort_blk _ _ _ _ _ _ _ hblk
  obtain ⟨g', h1, h2, h3, h4, h5, h6⟩ := HRel.write h hL hflat (id' := 0) (.inl rfl) ⟨e, k, dr rows'⟩ (Go.Sort.putCells id 0 (flatK (Elt.enc g.ro w V k) k d') cur) (w' := sortWorldK (Elt.enc g.ro w V k) k w L0.blk 0 n d' os) (cap := L0.cap) (B := L0.blk) rfl ⟨rfl, drawn_sort _ _ _ _ _ _ _⟩ rfl (size_sort _ _ _ _ _ _ _)
    (fun b hb hne => heap_sort _ _ _ _ _ _ _ hb hne) (.inl rfl) hbs hkm.symm hok.pos (by simp only [Go.Sort.putCells, Array.size_mapIdx]; exact hcs) (by have := hp.length_eq; simp [dr]; omega) hcap (fun _ => ⟨rfl, rfl⟩) (by
      intro i row hi
      have hil : i < rows'.length := by have := (List.getElem?_eq_some_iff.1 hi).1; simpa [dr] using this
      have hil2 : i < rows.length := by have := hp.length_eq; omega
      have hid : i < d'.size := by omega
      have hri : rows'[i] = (d'[i]'hid).1.1 := by
        have : (d'.toList.map (fun x => x.1.1))[i]'(by simpa using hid) = rows'[i] := by simp only [hrows']
        rw [← this]; simp
      have hrow : row = rows'[i].map AV.d := by
        have : (dr rows')[i]? = some (rows'[i].map AV.d) := by simp [dr, hil]
        rw [this] at hi; exact (Option.some.inj hi).symm
      obtain ⟨x1, x2, x3, x4⟩ := (d'[i]'hid).2
      subst hrow
      rw [hri, hkm]
      have hxl : (d'[i]'hid).1.1.length = k := by have := x4.length; omega
      refine ⟨by simp [hxl], fun j av hj => ?_⟩
      have hjk : j < k := by have := (List.getElem?_eq_some_iff.1 hj).1; simp at this; omega
      have hav : av = .d ((d'[i]'hid).1.1[j]'(by omega)) := by
        rw [List.getElem?_map, List.getElem?_eq_getElem (by omega)] at hj
        exact (Option.some.inj hj).symm
      obtain ⟨v, hv1, hv2⟩ := x4.get j _ (List.getElem?_eq_getElem (by omega))
      have hdiv : (i * k + j) / k = i := (blk_iff k i _ hk0).1 ⟨by omega, by omega⟩
      have hmod : (i * k + j) % k = j := by rw [Nat.mod_eq_sub_div_mul, hdiv]; omega
      have hlt : i * k + j < rows.length * k := by have := Nat.mul_le_mul_right k (show i + 1 ≤ rows.length from hil2); rw [Nat.add_mul, Nat.one_mul] at this; omega
      refine ⟨v, ?_, x3 v (List.mem_of_getElem? hv1), ?_⟩
      · have hlc : i * k + j < cur.size := by omega
        have hc1 : (Go.Sort.putCells id 0 (flatK (Elt.enc g.ro w V k) k d') cur)[i * k + j]? = some ((flatK (Elt.enc g.ro w V k) k d')[i * k + j]!) := by
          simp only [Go.Sort.putCells, Array.getElem?_mapIdx, Array.getElem?_eq_getElem hlc, Option.map_some]
          rw [if_pos ⟨Nat.zero_le _, by rw [size_flatK, hd's]; omega⟩]
          simp
        rw [hc1, get_flatK _ _ _ _ (by rw [hd's]; exact hlt), hdiv, hmod, getElem!_pos d' i hid]
        simp only [Elt.enc]
        obtain ⟨hjl, hjv⟩ := List.getElem?_eq_some_iff.1 hv1
        rw [getElem!_pos _ j hjl, hjv]
      · rw [hav]
        simpa only [RepA] using hv2)
  refine ⟨_, g', rfl, ?_, ?_, h5, ?_⟩
  · have : (upd1 (upd1 (objL [(0, ⟨e, k, dr rows⟩)]) 0 none) 0 (some ⟨e, k, dr rows'⟩)) = objL [(0, ⟨e, k, dr rows'⟩)] := by
      funext x
      simp only [upd1, objL, find]
      by_cases hx : x = 0
      · subst hx; simp
      · have hx' : ¬ (0 = x) := fun h => hx h.symm
        simp [hx, hx']
    rw [← this]; exact h4
  · simp only [RepA, RepAs]
    exact ⟨[], rfl, rfl⟩
  · intro i j hij
    simp only [List.mem_cons, List.not_mem_nil, or_false, Prod.mk.injEq] at hij
    obtain ⟨rfl, rfl⟩ := hij
    rw [h1, hL]
    cases L0; simp_all

/-- .. at no element. -/
theorem sortFunc_px0 {P : Program} {ρ : Ren} (L : SlLaysF0.n6 P ρ) {k : Nat} (hk0 : 0 < k) (hent : Enters P (ρ.f 6)) (e : TypeId) (fv : AV) :
    PX P (ρ.f 6) [.hs 0 0 0, fv] [(0, ⟨e, k, []⟩)] [(0, 0)] [(0, ⟨e, k, []⟩)] (.tup []) := by
  refine ⟨hent, fun g w vs h hu hvs => ?_⟩
  simp only [RepAs] at hvs
  obtain ⟨v0, _, rfl, h0, v1, _, rfl, h1, rfl⟩ := hvs
  obtain ⟨L0, hL, hok⟩ := h.own 0 ⟨e, k, []⟩ (by simp [objL, find])
  simp only [RepA] at h0
  have e0 : ∃ p c, v0 = .slice p 0 c := by
    rcases h0.2 L0 hL with ⟨_, _, _, hv⟩ | ⟨_, _, hv⟩
    · exact ⟨_, _, hv⟩
    · exact ⟨_, _, hv⟩
  obtain ⟨p, c, rfl⟩ := e0
  refine (AnyF.slices_SortFunc_none { L with } p c v1 w).mono ?_
  rintro ex w' ⟨rfl, rfl⟩
  refine ⟨_, g, rfl, h, ?_, Step.refl g _, ?_⟩
  · simp only [RepA, RepAs]; exact ⟨[], rfl, rfl⟩
  · intro i j hij
    simp only [List.mem_cons, List.not_mem_nil, or_false, Prod.mk.injEq] at hij
    obtain ⟨rfl, rfl⟩ := hij
    rfl

/-- .. at any number of elements. -/
theorem sortFunc_all {P : Program} {ρ : Ren} (L : SlLaysF0.n6 P ρ) {k : Nat} (hk0 : 0 < k) (aE : ∀ w, (isAgg (ρ.t 24)).run P w = .ok true w) (zE : ∀ w, (Go.sizeOf (ρ.t 24)).run P w = .ok k w) (hent : Enters P (ρ.f 6)) {cg : FuncId}
    (eg : ∀ args w, (callFunc cg args).run P w = .ok (.enter cg args) w) {V : List D → Prop} {cf : List D → List D → Int} (hc : CmpOk P cg V cf) (hO : CmpOrd V cf) (e : TypeId) {rows rows' : List (List D)} (hV : ∀ r ∈ rows, V r)
    (hanti : ∀ a ∈ rows, ∀ b ∈ rows, ¬ cf b a < 0 → ¬ cf a b < 0 → a = b) (hp : rows'.Perm rows) (hs : rows'.Pairwise fun a b => ¬ cf b a < 0) (hsz : rows.length < 4611686018427387904) :
    PX P (ρ.f 6) [.hs 0 0 rows.length, .d (.fn (.func cg) [])] [(0, ⟨e, k, dr rows⟩)] [(0, 0)] [(0, ⟨e, k, dr rows'⟩)] (.tup []) := by
  by_cases hn : rows = []
  · subst hn
    have : rows' = [] := hp.eq_nil
    subst this
    exact sortFunc_px0 L hk0 hent e _
  · refine sortFunc_px L hk0 aE zE hent eg hc hO e hV hanti hp hs (List.length_pos_iff.2 hn) hsz _ fun g w v hv => ?_
    simp only [RepA, RepD] at hv
    obtain ⟨vs, rfl, h2⟩ := hv
    simp only [RepDs] at h2
    rw [h2]

end Go.Abs

set_option linter.unusedVariables false
set_option linter.unusedSimpArgs false
namespace Go.Proofs.Ytknelhiejjdioaa
open Go.Abs Go.Shelf Go.RowKit Go.Lib Go.Sort

/-! What the sorts of package thin do. -/
def sortCell_ren : Go.Shelf.Ren := ⟨fun | 6 => 60 | 15 => 90 | 14 => 89 | 28 => 110 | 29 => 111 | 20 => 102 | 21 => 103 | 22 => 104 | 23 => 105 | 24 => 106 | 25 => 107 | 26 => 108 | 27 => 109 | 46 => 130 | 47 => 131 | 48 => 132 | 49 => 133 | 50 => 134 | 57 => 141 | n => n, fun | 22 => 40 | 24 => 31 | 25 => 79 | 3 => 3 | 39 => 111 | 0 => 0 | 53 => 131 | 55 => 133 | 4 => 4 | 46 => 125 | 45 => 124 | 50 => 93 | 5 => 5 | 9 => 9 | 66 => 145 | 70 => 149 | 76 => 155 | 77 => 156 | n => n, fun n => n⟩
theorem sortCell_lays : SlLaysF0.n6 Try.prog sortCell_ren where
  mixed := by kernel_rfl
  f6 := ⟨Try.f60.name, by kernel_rfl, Try.func60.trans (congrArg some (by kernel_rfl))⟩
  f14 := ⟨Try.f89.name, by kernel_rfl, Try.func89.trans (congrArg some (by kernel_rfl))⟩
  f15 := Try.func90.trans (congrArg some (by kernel_rfl))
  f20 := ⟨Try.f102.name, by kernel_rfl, Try.func102.trans (congrArg some (by kernel_rfl))⟩
  f21 := ⟨Try.f103.name, by kernel_rfl, Try.func103.trans (congrArg some (by kernel_rfl))⟩
  f22 := ⟨Try.f104.name, by kernel_rfl, Try.func104.trans (congrArg some (by kernel_rfl))⟩
  f23 := ⟨Try.f105.name, by kernel_rfl, Try.func105.trans (congrArg some (by kernel_rfl))⟩
  f24 := ⟨Try.f106.name, by kernel_rfl, Try.func106.trans (congrArg some (by kernel_rfl))⟩
  f25 := ⟨Try.f107.name, by kernel_rfl, Try.func107.trans (congrArg some (by kernel_rfl))⟩
  f26 := ⟨Try.f108.name, by kernel_rfl, Try.func108.trans (congrArg some (by kernel_rfl))⟩
  f27 := ⟨Try.f109.name, by kernel_rfl, Try.func109.trans (congrArg some (by kernel_rfl))⟩
  f28 := Try.func110.trans (congrArg some (by kernel_rfl))
  f29 := Try.func111.trans (congrArg some (by kernel_rfl))
  f46 := ⟨Try.f130.name, by kernel_rfl, Try.func130.trans (congrArg some (by kernel_rfl))⟩
  f47 := Try.func131.trans (congrArg some (by kernel_rfl))
  f48 := Try.func132.trans (congrArg some (by kernel_rfl))
  f49 := ⟨Try.f133.name, by kernel_rfl, Try.func133.trans (congrArg some (by kernel_rfl))⟩
  f50 := ⟨Try.f134.name, by kernel_rfl, Try.func134.trans (congrArg some (by kernel_rfl))⟩
  f57 := ⟨Try.f141.name, by kernel_rfl, Try.func141.trans (congrArg some (by kernel_rfl))⟩
  t0 := Try.underlying0
  a0 := Try.isAgg0
  z0 := Try.sizeOf0
  v0 := Try.zeroValue0
  t3 := Try.underlying3
  a3 := Try.isAgg3
  z3 := Try.sizeOf3
  v3 := Try.zeroValue3
  t4 := Try.underlying4
  a4 := Try.isAgg4
  z4 := Try.sizeOf4
  v4 := Try.zeroValue4
  t5 := Try.underlying5
  a5 := Try.isAgg5
  z5 := Try.sizeOf5
  v5 := Try.zeroValue5
  t9 := Try.underlying9
  a9 := Try.isAgg9
  z9 := Try.sizeOf9
  v9 := Try.zeroValue9
  t22 := Try.underlying40
  a22 := Try.isAgg40
  z22 := Try.sizeOf40
  v22 := Try.zeroValue40
  t25 := Try.underlying79
  a25 := Try.isAgg79
  z25 := Try.sizeOf79
  v25 := Try.zeroValue79
  t39 := Try.underlying111
  a39 := Try.isAgg111
  z39 := Try.sizeOf111
  v39 := Try.zeroValue111
  t45 := Try.underlying124
  a45 := Try.isAgg124
  z45 := Try.sizeOf124
  v45 := Try.zeroValue124
  t46 := Try.underlying125
  a46 := Try.isAgg125
  z46 := Try.sizeOf125
  v46 := Try.zeroValue125
  t50 := Try.underlying93
  a50 := Try.isAgg93
  z50 := Try.sizeOf93
  v50 := Try.zeroValue93
  t53 := Try.underlying131
  a53 := Try.isAgg131
  z53 := Try.sizeOf131
  v53 := Try.zeroValue131
  t55 := Try.underlying133
  a55 := Try.isAgg133
  z55 := Try.sizeOf133
  v55 := Try.zeroValue133
  t66 := Try.underlying145
  a66 := Try.isAgg145
  z66 := Try.sizeOf145
  v66 := Try.zeroValue145
  t70 := Try.underlying149
  a70 := Try.isAgg149
  z70 := Try.sizeOf149
  v70 := Try.zeroValue149
  t76 := Try.underlying155
  a76 := Try.isAgg155
  z76 := Try.sizeOf155
  v76 := Try.zeroValue155
  t77 := Try.underlying156
  a77 := Try.isAgg156
  z77 := Try.sizeOf156
  v77 := Try.zeroValue156
def sortTrack_ren : Go.Shelf.Ren := ⟨fun | 6 => 63 | 15 => 90 | 14 => 91 | 28 => 110 | 29 => 111 | 20 => 112 | 21 => 113 | 22 => 114 | 23 => 115 | 24 => 116 | 25 => 117 | 26 => 118 | 27 => 119 | 46 => 135 | 47 => 131 | 48 => 132 | 49 => 136 | 50 => 137 | 57 => 142 | n => n, fun | 22 => 36 | 24 => 42 | 25 => 82 | 3 => 3 | 39 => 111 | 0 => 0 | 53 => 131 | 55 => 133 | 4 => 4 | 46 => 125 | 45 => 124 | 50 => 93 | 5 => 5 | 9 => 9 | 66 => 145 | 70 => 149 | 76 => 155 | 77 => 156 | n => n, fun n => n⟩
theorem sortTrack_lays : SlLaysF0.n6 Try.prog sortTrack_ren where
  mixed := by kernel_rfl
  f6 := ⟨Try.f63.name, by kernel_rfl, Try.func63.trans (congrArg some (by kernel_rfl))⟩
  f14 := ⟨Try.f91.name, by kernel_rfl, Try.func91.trans (congrArg some (by kernel_rfl))⟩
  f15 := Try.func90.trans (congrArg some (by kernel_rfl))
  f20 := ⟨Try.f112.name, by kernel_rfl, Try.func112.trans (congrArg some (by kernel_rfl))⟩
  f21 := ⟨Try.f113.name, by kernel_rfl, Try.func113.trans (congrArg some (by kernel_rfl))⟩
  f22 := ⟨Try.f114.name, by kernel_rfl, Try.func114.trans (congrArg some (by kernel_rfl))⟩
  f23 := ⟨Try.f115.name, by kernel_rfl, Try.func115.trans (congrArg some (by kernel_rfl))⟩
  f24 := ⟨Try.f116.name, by kernel_rfl, Try.func116.trans (congrArg some (by kernel_rfl))⟩
  f25 := ⟨Try.f117.name, by kernel_rfl, Try.func117.trans (congrArg some (by kernel_rfl))⟩
  f26 := ⟨Try.f118.name, by kernel_rfl, Try.func118.trans (congrArg some (by kernel_rfl))⟩
  f27 := ⟨Try.f119.name, by kernel_rfl, Try.func119.trans (congrArg some (by kernel_rfl))⟩
  f28 := Try.func110.trans (congrArg some (by kernel_rfl))
  f29 := Try.func111.trans (congrArg some (by kernel_rfl))
  f46 := ⟨Try.f135.name, by kernel_rfl, Try.func135.trans (congrArg some (by kernel_rfl))⟩
  f47 := Try.func131.trans (congrArg some (by kernel_rfl))
  f48 := Try.func132.trans (congrArg some (by kernel_rfl))
  f49 := ⟨Try.f136.name, by kernel_rfl, Try.func136.trans (congrArg some (by kernel_rfl))⟩
  f50 := ⟨Try.f137.name, by kernel_rfl, Try.func137.trans (congrArg some (by kernel_rfl))⟩
  f57 := ⟨Try.f142.name, by kernel_rfl, Try.func142.trans (congrArg some (by kernel_rfl))⟩
  t0 := Try.underlying0
  a0 := Try.isAgg0
  z0 := Try.sizeOf0
  v0 := Try.zeroValue0
  t3 := Try.underlying3
  a3 := Try.isAgg3
  z3 := Try.sizeOf3
  v3 := Try.zeroValue3
  t4 := Try.underlying4
  a4 := Try.isAgg4
  z4 := Try.sizeOf4
  v4 := Try.zeroValue4
  t5 := Try.underlying5
  a5 := Try.isAgg5
  z5 := Try.sizeOf5
  v5 := Try.zeroValue5
  t9 := Try.underlying9
  a9 := Try.isAgg9
  z9 := Try.sizeOf9
  v9 := Try.zeroValue9
  t22 := Try.underlying36
  a22 := Try.isAgg36
  z22 := Try.sizeOf36
  v22 := Try.zeroValue36
  t25 := Try.underlying82
  a25 := Try.isAgg82
  z25 := Try.sizeOf82
  v25 := Try.zeroValue82
  t39 := Try.underlying111
  a39 := Try.isAgg111
  z39 := Try.sizeOf111
  v39 := Try.zeroValue111
  t45 := Try.underlying124
  a45 := Try.isAgg124
  z45 := Try.sizeOf124
  v45 := Try.zeroValue124
  t46 := Try.underlying125
  a46 := Try.isAgg125
  z46 := Try.sizeOf125
  v46 := Try.zeroValue125
  t50 := Try.underlying93
  a50 := Try.isAgg93
  z50 := Try.sizeOf93
  v50 := Try.zeroValue93
  t53 := Try.underlying131
  a53 := Try.isAgg131
  z53 := Try.sizeOf131
  v53 := Try.zeroValue131
  t55 := Try.underlying133
  a55 := Try.isAgg133
  z55 := Try.sizeOf133
  v55 := Try.zeroValue133
  t66 := Try.underlying145
  a66 := Try.isAgg145
  z66 := Try.sizeOf145
  v66 := Try.zeroValue145
  t70 := Try.underlying149
  a70 := Try.isAgg149
  z70 := Try.sizeOf149
  v70 := Try.zeroValue149
  t76 := Try.underlying155
  a76 := Try.isAgg155
  z76 := Try.sizeOf155
  v76 := Try.zeroValue155
  t77 := Try.underlying156
  a77 := Try.isAgg156
  z77 := Try.sizeOf156
  v77 := Try.zeroValue156

/-- By X, then by Y. -/
def cfX : List D → List D → Int
  | [.int _ ax, .int _ ay], [.int _ bx, .int _ by'] => if ax ≠ bx then ax - bx else ay - by'
  | _, _ => 0
def VC (r : List D) : Prop := ∃ c : Cell, r = c.row ∧ onG c = true

set_option maxHeartbeats 1000000 in
theorem cmpX_ok : CmpOk Try.prog 61 VC cfX := by
  rintro ro w a b va vb hro ⟨⟨ax, ay⟩, rfl, hc⟩ ⟨⟨bx, by'⟩, rfl, hd⟩ ha hb _ _
  have h1 := onG_bd hc
  have h2 := onG_bd hd
  simp only at h1 h2
  simp only [Cell.row, RepDs, RepD] at ha hb
  obtain ⟨_, _, rfl, rfl, _, _, rfl, rfl, rfl⟩ := ha
  obtain ⟨_, _, rfl, rfl, _, _, rfl, rfl, rfl⟩ := hb
  have w1 : IntKind.i64.wrap (ax - bx) = ax - bx := wrap_i64 (by omega) (by omega)
  have w2 : IntKind.i64.wrap (ay - by') = ay - by' := wrap_i64 (by omega) (by omega)
  go_enter Try.func61, Try.ntmps61
  go_wp2
  · rename_i h
    go_ret
    refine ⟨?_, 0, _, by rw [alloc_eq_grow, alloc_eq_grow, grow_grow]; rfl⟩
    simp at h
    simp [cfX, h]
  · rename_i h
    go_ret
    refine ⟨?_, 0, _, by rw [alloc_eq_grow, alloc_eq_grow, grow_grow]; rfl⟩
    simp at h
    simp [cfX, h]

/-- By the first cell's Y, then by its X. -/
def cfY : List D → List D → Int
  | [_, _, .sl ([.int _ ax, .int _ ay] :: _)], [_, _, .sl ([.int _ bx, .int _ by'] :: _)] => if ay ≠ by' then ay - by' else ax - bx
  | _, _ => 0
theorem cfY_rows (ra rb : Int) (ca cb : Bool) (ax ay bx by' : Int) (la lb : List Cell) : cfY (Track.row ⟨ra, ca, ⟨ax, ay⟩ :: la⟩) (Track.row ⟨rb, cb, ⟨bx, by'⟩ :: lb⟩) = if ay ≠ by' then ay - by' else ax - bx := rfl
def VT (r : List D) : Prop := ∃ (t : Track) (c : Cell) (l : List Cell), r = t.row ∧ t.cells = c :: l ∧ onG c = true

set_option maxHeartbeats 1000000 in
theorem cmpY_ok : CmpOk Try.prog 64 VT cfY := by
  rintro ro w a b va vb hro ⟨⟨ra, ca, _⟩, ⟨ax, ay⟩, la, rfl, rfl, hc⟩ ⟨⟨rb, cb, _⟩, ⟨bx, by'⟩, lb, rfl, rfl, hd⟩ ha hb _ _
  have h1 := onG_bd hc
  have h2 := onG_bd hd
  simp only at h1 h2
  simp only [Track.row, encCells, RepDs, RepD, List.map_cons, List.length_cons, List.length_map] at ha hb
  obtain ⟨_, _, rfl, rfl, _, _, rfl, rfl, _, _, rfl, ⟨p, cp, rfl, hp1, hp2, hp3⟩, rfl⟩ := ha
  obtain ⟨_, _, rfl, rfl, _, _, rfl, rfl, _, _, rfl, ⟨q, cq, rfl, hq1, hq2, hq3⟩, rfl⟩ := hb
  obtain ⟨b1, o1, m1, rfl, hb1, hr1⟩ := hp3.resolve_left (by simp)
  obtain ⟨b2, o2, m2, rfl, hb2, hr2⟩ := hq3.resolve_left (by simp)
  simp only [RepRows, RepDs, RepD] at hr1 hr2
  obtain ⟨⟨_, hl1, ⟨_, _, rfl, rfl, _, _, rfl, rfl, rfl⟩, hc1⟩, _⟩ := hr1
  obtain ⟨⟨_, hl2, ⟨_, _, rfl, rfl, _, _, rfl, rfl, rfl⟩, hc2⟩, _⟩ := hr2
  have x1 := (hc1 0 (.int .i64 ax) (by simp)).1
  have y1 := (hc1 1 (.int .i64 ay) (by simp)).1
  have x2 := (hc2 0 (.int .i64 bx) (by simp)).1
  have y2 := (hc2 1 (.int .i64 by') (by simp)).1
  clear hl1 hl2
  have s1 := hro b1 hb1
  have s2 := hro b2 hb2
  simp only [Nat.add_zero] at x1 x2
  clear hc1 hc2 hp1 hp2 hp3 hq1 hq2 hq3 hro hb1 hb2
  have w1 : IntKind.i64.wrap (ax - bx) = ax - bx := wrap_i64 (by omega) (by omega)
  have w2 : IntKind.i64.wrap (ay - by') = ay - by' := wrap_i64 (by omega) (by omega)
  go_enter Try.func64, Try.ntmps64
  go_wp2
  have hW0 : ∀ (o1 o2 : Obj), (w.alloc o1).alloc o2 = grow w #[o1, o2] := fun o1 o2 => by rw [alloc_eq_grow, alloc_eq_grow, grow_grow]; rfl
  have kp : ∀ (os : Array Obj) (a : Addr), a.block < w.heap.size → (grow w os).cell? a = w.cell? a := fun os a h => cell?_grow w os a h
  have q1 : ∀ (p q : Obj), ((w.alloc p).alloc q).cell? ⟨b1, o1, none⟩ = some (.int .i64 ax) := fun p q => by rw [hW0, kp _ _ s1, x1]
  have q2 : ∀ (p q : Obj), ((w.alloc p).alloc q).cell? ⟨b1, o1 + 1, none⟩ = some (.int .i64 ay) := fun p q => by rw [hW0, kp _ _ s1, y1]
  have q3 : ∀ (p q : Obj), ((w.alloc p).alloc q).cell? ⟨b2, o2, none⟩ = some (.int .i64 bx) := fun p q => by rw [hW0, kp _ _ s2, x2]
  have q4 : ∀ (p q : Obj), ((w.alloc p).alloc q).cell? ⟨b2, o2 + 1, none⟩ = some (.int .i64 by') := fun p q => by rw [hW0, kp _ _ s2, y2]
  obtain ⟨B1, hB1⟩ : ∃ B1, B1 = w.heap.size := ⟨_, rfl⟩
  obtain ⟨W, hW⟩ : ∃ W, W = (w.alloc (Obj.cells #[Value.int IntKind.i64 ra, Value.bool ca, Value.slice (some ⟨b1, o1, none⟩) (la.length + 1) cp] 42)).alloc (Obj.cells #[Value.int IntKind.i64 rb, Value.bool cb, Value.slice (some ⟨b2, o2, none⟩) (lb.length + 1) cq] 42) := ⟨_, rfl⟩
  have z1 := q1 (Obj.cells #[Value.int IntKind.i64 ra, Value.bool ca, Value.slice (some ⟨b1, o1, none⟩) (la.length + 1) cp] 42) (Obj.cells #[Value.int IntKind.i64 rb, Value.bool cb, Value.slice (some ⟨b2, o2, none⟩) (lb.length + 1) cq] 42)
  have z2 := q2 (Obj.cells #[Value.int IntKind.i64 ra, Value.bool ca, Value.slice (some ⟨b1, o1, none⟩) (la.length + 1) cp] 42) (Obj.cells #[Value.int IntKind.i64 rb, Value.bool cb, Value.slice (some ⟨b2, o2, none⟩) (lb.length + 1) cq] 42)
  have z3 := q3 (Obj.cells #[Value.int IntKind.i64 ra, Value.bool ca, Value.slice (some ⟨b1, o1, none⟩) (la.length + 1) cp] 42) (Obj.cells #[Value.int IntKind.i64 rb, Value.bool cb, Value.slice (some ⟨b2, o2, none⟩) (lb.length + 1) cq] 42)
  have z4 := q4 (Obj.cells #[Value.int IntKind.i64 ra, Value.bool ca, Value.slice (some ⟨b1, o1, none⟩) (la.length + 1) cp] 42) (Obj.cells #[Value.int IntKind.i64 rb, Value.bool cb, Value.slice (some ⟨b2, o2, none⟩) (lb.length + 1) cq] 42)
  have z5 : ((w.alloc (Obj.cells #[Value.int IntKind.i64 ra, Value.bool ca, Value.slice (some ⟨b1, o1, none⟩) (la.length + 1) cp] 42)).alloc (Obj.cells #[Value.int IntKind.i64 rb, Value.bool cb, Value.slice (some ⟨b2, o2, none⟩) (lb.length + 1) cq] 42)).cell? ⟨B1, 2, none⟩ = some (.slice (some ⟨b1, o1, none⟩) (la.length + 1) cp) := by rw [hB1, hW0]; simp [World.cell?, grow, Array.getElem?_append]
  have z6 : ((w.alloc (Obj.cells #[Value.int IntKind.i64 ra, Value.bool ca, Value.slice (some ⟨b1, o1, none⟩) (la.length + 1) cp] 42)).alloc (Obj.cells #[Value.int IntKind.i64 rb, Value.bool cb, Value.slice (some ⟨b2, o2, none⟩) (lb.length + 1) cq] 42)).cell? ⟨B1 + 1, 2, none⟩ = some (.slice (some ⟨b2, o2, none⟩) (lb.length + 1) cq) := by rw [hB1, hW0]; simp [World.cell?, grow, Array.getElem?_append]
  rw [hW0] at hW
  rw [hW0] at z1 z2 z3 z4 z5 z6 ⊢
  rw [← hW] at z1 z2 z3 z4 z5 z6 ⊢
  rw [← hB1]
  have hWh : Go.Abs.Hid (∃ p q, W = grow w #[p, q]) := ⟨_, _, hW⟩
  have hBh : Go.Abs.Hid (B1 = w.heap.size) := ⟨hB1⟩
  clear q1 q2 q3 q4 x1 x2 y1 y2 hW hB1 hW0 kp s1 s2
  have n1 := World.new_ne W _ z1
  have n2 := World.new_ne W _ z2
  have n3 := World.new_ne W _ z3
  have n4 := World.new_ne W _ z4
  have n5 := World.new_ne W _ z5
  have n6 := World.new_ne W _ z6
  go_region_held3 (fun w' => w'.cell? ⟨B1, 2, none⟩ = some (.slice (some ⟨b1, o1, none⟩) (la.length + 1) cp) ∧ w'.cell? ⟨B1 + 1, 2, none⟩ = some (.slice (some ⟨b2, o2, none⟩) (lb.length + 1) cq) ∧ w'.cell? ⟨b1, o1, none⟩ = some (.int .i64 ax) ∧ w'.cell? ⟨b1, o1 + 1, none⟩ = some (.int .i64 ay) ∧ w'.cell? ⟨b2, o2, none⟩ = some (.int .i64 bx) ∧ w'.cell? ⟨b2, o2 + 1, none⟩ = some (.int .i64 by')) (go_keep) (fail)
  all_goals go_wp2
  all_goals
    rename_i h
    go_ret
    obtain ⟨⟨p, q, rfl⟩⟩ := hWh
    refine ⟨?_, 1, _, by rw [alloc_eq_grow, alloc_eq_grow, grow_grow, grow_grow]; rfl⟩
    simp at h
    rw [cfY_rows]
    simp [h]
end Go.Proofs.Ytknelhiejjdioaa
