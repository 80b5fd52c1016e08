/-
  The abstract machine: a range over a function whose body turns one variable of the caller's own.
-/
import Derived.Test.YtmfkfgonedgjnaaAbsV
import Derived.RangeFuncLeaves
set_option linter.unusedVariables false
set_option linter.unusedSimpArgs false
namespace Go.Abs
open Go.RowKit

theorem Step.foot {g g' : G} {w w' : World} (h : Step g w g' w') {b : Nat} (hb : b < w.heap.size) (hn : ¬ g.foot b) : ¬ g'.foot b := by
  rintro (h1 | h1)
  · rcases h.own b h1 with h2 | h2
    · omega
    · exact hn (.inl h2)
  · rcases h.ro' b h1 with h2 | h2 | h2
    · exact hn (.inr h2)
    · omega
    · exact hn (.inl h2)
theorem Step.put {g g' : G} {w w' : World} (h : Step g w g' w') {l : Nat} (o : Obj) (hl : w.heap.size ≤ l) : Step g w g' (w'.putObj l o) :=
  ⟨h.os, h.tape, h.output, by simpa using h.size, fun b h1 h2 => by rw [World.putObj_heap_other (by omega)]; exact h.block b h1 h2, h.own, h.ro, h.ro'⟩
theorem Step.allocB {g g' : G} {w w' : World} (h : Step g w g' w') (o : Obj) : Step g w g' (w'.alloc o) :=
  ⟨h.os, h.tape, h.output, by have := h.size; simp; omega, fun b h1 h2 => by
    have := h.size
    have e : (w'.alloc o).heap[b]? = w'.heap[b]? := by
      show (w'.heap.push o)[b]? = _
      rw [Array.getElem?_push_lt (by omega), Array.getElem?_eq_getElem (by omega)]
    rw [e]; exact h.block b h1 h2, h.own, h.ro, h.ro'⟩
theorem Rnd.step {x : Nat} {g g' g'' : G} {w w' w'' : World} (h : Rnd x g w g' w') (k : Step g' w' g'' w'') : Rnd x g w g'' w'' := by
  have hs := h.size
  refine ⟨Nat.le_trans h.size k.size, fun b h1 h2 h3 => ?_, fun b hb => ?_, fun b hb => ?_⟩
  · rw [k.block b (by omega) fun ho => by
      rcases h.own b ho with h4 | h4
      · omega
      · exact h2 h4]
    exact h.block b h1 h2 h3
  · rcases k.own b hb with h1 | h1
    · exact .inl (by omega)
    · exact h.own b h1
  · rcases k.ro' b hb with h1 | h1 | h1
    · exact h.ro' b h1
    · exact .inr (.inl (by omega))
    · rcases h.own b h1 with h2 | h2
      · exact .inr (.inl h2)
      · exact .inr (.inr h2)
theorem Rnd.put {x : Nat} {g g' : G} {w w' : World} (h : Rnd x g w g' w') (o : Obj) : Rnd x g w g' (w'.putObj x o) :=
  ⟨by simpa using h.size, fun b h1 h2 h3 => by rw [World.putObj_heap_other h3]; exact h.block b h1 h2 h3, h.own, h.ro'⟩
theorem Rel.put {U : Nat → Prop} {g : G} {get : Nat → AV} {obj : Nat → Option Ob} {n : Nat} {a : Act} {w : World} (h : Rel U g get obj n a w) {l : Nat} (o : Obj) (hl : ¬ g.foot l) : Rel U g get obj n a (w.putObj l o) :=
  h.stay (by simp) fun b hb => World.putObj_heap_other fun e => hl (e ▸ hb)

/-- The state between two rounds: a pointer to the one variable, whose place is known. -/
def S1 (n t pn id : Nat) (L : Loc) (hp : List (Nat × Option Ob)) (nx : Nat) : St := ⟨n, [(t, .ptr id 0 0), (pn, .pin id L)], hp, nx⟩
theorem S1_tmps {n t pn id : Nat} {L : Loc} {hp : List (Nat × Option Ob)} {nx : Nat} (htp : t ≠ pn) {g : G} {a a' : Act} {w : World} (h : RelS (S1 n t pn id L hp nx) g a' w) (hd : a.defers = []) (hs : a.tmps.size = n)
    (hv : (a.tmps.getD t undef).oneCell' = true ∧ L.virt = false ∧ a.tmps.getD t undef = .pointer (some ⟨L.blk, 0 * L.m + 0, none⟩)) : RelS (S1 n t pn id L hp nx) g a w := by
  have hpin : g.used id ∧ ∀ M, g.loc id = some M → M = L := by
    have := h.tmp pn
    rw [show (S1 n t pn id L hp nx).get pn = .pin id L from by simp [S1, St.get, find, htp]] at this
    simpa [RepA] using this
  refine ⟨hd, hs, fun x => ?_, h.used, h.heap⟩
  by_cases e : x = t
  · subst e
    rw [show (S1 n x pn id L hp nx).get x = .ptr id 0 0 from by simp [S1, St.get, find]]
    simp only [RepA]
    exact ⟨⟨hpin.1, hv.1⟩, fun M hM => by rw [hpin.2 M hM]; exact hv.2⟩
  · by_cases e2 : x = pn
    · subst e2
      rw [show (S1 n t x id L hp nx).get x = .pin id L from by simp [S1, St.get, find, htp]]
      simp only [RepA]; exact hpin
    · rw [show (S1 n t pn id L hp nx).get x = .any from by simp [S1, St.get, find, Ne.symm e, Ne.symm e2]]
      simp [RepA]

/-- THE LOOP. -/
theorem range_sound {m : Nat} {P : Program} {a : Act} {w : World} {s : St} {g0 : G} (hr : RelS s g0 a w) {go : Operand} {f : FuncId} {caps xs : List D} (hgv : s.eval go = .d (.fn (.func f) caps)) (hit : IterOk P f caps xs)
    {t pn idS id pt nx : Nat} (htp : t ≠ pn) (hpn : s.n ≤ pn) (hgt : s.get t = .ptr idS 0 0) (hptn : pt < s.n) {o : Ob} (hob : s.obj idS = some o) (hus : idS < s.nxt) (I : Nat → List (Nat × Option Ob))
    (hstart : ∀ L, Weak { s with tm := (pn, .pin idS L) :: s.tm } (S1 s.n t pn id L (I 0) nx)) {assign body : Code}
    (hbody : ∀ L k x, xs[k]? = some x → AWr m P assign (fun e s1 => e = .normal ∧ AWr m P body (fun e s2 => e = .normal ∧ Weak s2 (S1 s.n t pn id L (I (k + 1)) nx)) s1) { S1 s.n t pn id L (I k) nx with tm := (pt, .d x) :: (S1 s.n t pn id L (I k) nx).tm })
    {Q : Exit → Act → World → Prop}
    (hdone : ∀ g' W D L, RelS (S1 s.n t pn id L (I xs.length) nx) g' a W → Step g0 w g' W → w.heap.size ≤ D → W.heap[D]? = some (.deferred (some [])) → ¬ g'.foot D → Q .normal { a with defers := { target := .collected D, args := #[] } :: a.defers } W) :
    (Code.rangeFunc go #[pt] assign body).wpIn Fence.wide (m + 2) P Q a w := by
  -- the iterator's value
  have hval := eval_rep hr (s := s) (fun _ => rfl) go
  rw [hgv] at hval
  simp only [RepA, RepD] at hval
  obtain ⟨vs, hgo, hcaps⟩ := hval
  -- the variable's place
  obtain ⟨L, hL, _⟩ := hr.heap.own idS o hob
  have hused : g0.used idS := (hr.heap.live idS L hL).1
  have hptr := hr.tmp t
  have hgt' : s.get t = .ptr idS 0 0 := hgt
  rw [hgt'] at hptr
  simp only [RepA] at hptr
  have hv : (a.tmps.getD t undef).oneCell' = true ∧ L.virt = false ∧ a.tmps.getD t undef = .pointer (some ⟨L.blk, 0 * L.m + 0, none⟩) := ⟨hptr.1.2, hptr.2 L hL⟩
  have hr1 : RelS { s with tm := (pn, .pin idS L) :: s.tm } g0 a w := by
    refine ⟨hr.defers, hr.size, fun x => ?_, hr.used, hr.heap⟩
    by_cases e : pn = x
    · subst e
      rw [show St.get { s with tm := (pn, .pin idS L) :: s.tm } pn = .pin idS L from by simp [St.get, find]]
      simp only [RepA]; exact ⟨hused, fun M hM => by rw [hL] at hM; exact (Option.some.inj hM).symm⟩
    · rw [show St.get { s with tm := (pn, .pin idS L) :: s.tm } x = s.get x from by simp [St.get, find, e]]
      exact hr.tmp x
  obtain ⟨g1, hS0, hst0⟩ := hstart L g0 a w hr1
  obtain ⟨fnf, hfn, hname, hbodyf⟩ := hit.1
  have eg : ∀ args w, (callFunc f args).run P w = .ok (.enter f args) w := fun args w => by
    simp only [callFunc, Sem.run_bind, run_program, Result.andThen_ok, hfn, hname, hbodyf, Bool.false_eq_true, if_false, Sem.run_pure]
  refine wpIn_rangeFunc ?_
  intro fn hfn'
  rw [Fence.wide_round]
  obtain ⟨rec, hrec⟩ : ∃ rec : LoopState → Option Code → Loop, rec = fun st pe => { state := st, pending := pe, fn, tmps := a.tmps, params := #[pt], assign, body, defers := w.heap.size } := ⟨_, rfl⟩
  obtain ⟨W1, hW1⟩ : ∃ W1, (w.alloc (.deferred (some []))).alloc (.loop (rec .ready none)) = W1 := ⟨_, rfl⟩
  have hsz1 : W1.heap.size = w.heap.size + 2 := by rw [← hW1]; simp
  have hL1 : W1.heap[w.heap.size + 1]? = some (.loop (rec .ready none)) := by
    rw [← hW1]; have := World.alloc_heap_new (w.alloc (.deferred (some []))) (.loop (rec .ready none)); rwa [World.size_alloc] at this
  have hK1 : W1.heap[w.heap.size]? = some (.deferred (some [])) := by
    rw [← hW1]
    show ((w.alloc (.deferred (some []))).heap.push _)[w.heap.size]? = _
    rw [Array.getElem?_push_lt (by simp), ← Array.getElem?_eq_getElem (by simp)]
    exact World.alloc_heap_new w _
  have hst1 : Step g0 w g1 W1 := by rw [← hW1]; exact (hst0.allocB _).allocB _
  have hlow : ∀ b, b < w.heap.size → W1.heap[b]? = w.heap[b]? := fun b hb => by
    have h := (Step.refl ⟨fun _ => False, fun _ => none, fun _ => False⟩ w).allocB (.deferred (some []))
    have h2 := (h.allocB (.loop (rec .ready none))).block b hb (by rintro ⟨_, _, hh, _⟩; cases hh)
    rw [hW1] at h2; exact h2
  refine ⟨w.heap.size + 1, [{ target := .collected w.heap.size, args := #[] }], W1, { target := .fn (.func f) vs.toArray, args := #[.func (.yield (w.heap.size + 1)) #[] #[]] }, W1, f,
    #[.func (.yield (w.heap.size + 1)) #[] #[]] ++ vs.toArray, W1, ?_, ?_, fun _ _ => trivial, ?_, fun h => absurd h (by simp [Fence.wide]), ?_⟩
  · rw [← hW1, hrec]; exact run_enterLoop_outer _ _ _ _ _
  · simp only [resolve, hgo]
    simp [go_sem]
  · simp [invoke, go_sem, eg]
  · let J : Nat → G → World → Prop := fun k g W => RelS (S1 s.n t pn id L (I k) nx) g a W ∧ Step g0 w g W ∧ W.heap[w.heap.size + 1]? = some (.loop (rec .ready none)) ∧ W.heap[w.heap.size]? = some (.deferred (some [])) ∧ ¬ g.foot (w.heap.size + 1) ∧ ¬ g.foot w.heap.size
    have hfoot0 : ∀ b, g1.foot b → b < w.heap.size := fun b hb => hS0.heap.foot_lt hb
    have hJ0 : J 0 g1 W1 := ⟨hS0.stay (by omega) fun b hb => hlow b (hfoot0 b hb), hst1, hL1, hK1, fun h => by have := hfoot0 _ h; omega, fun h => by have := hfoot0 _ h; omega⟩
    have hJ : JOk (w.heap.size + 1) W1 J := by
      refine ⟨by omega, fun k g W ⟨h1, h2, h3, h4, h5, h6⟩ => ⟨?_, fun b hb => h1.heap.foot_lt hb⟩, fun k g W W' ⟨h1, h2, h3, h4, h5, h6⟩ k1 k2 k3 k4 k5 => ⟨h1.stay k4 fun b hb => k5 b (.inr hb), ?_, (k5 _ (.inl (by omega))).trans h3, (k5 _ (.inl (by omega))).trans h4, h5, h6⟩⟩
      · have := (Array.getElem?_eq_some_iff.1 h3).1; omega
      · exact ⟨k1.trans h2.os, ⟨k2.1.trans h2.tape.1, Nat.le_trans h2.tape.2 k2.2⟩, k3.trans h2.output, Nat.le_trans h2.size k4, fun b b1 b2 => (k5 b (.inl (by omega))).trans (h2.block b b1 b2), h2.own, h2.ro, h2.ro'⟩
    have hR : JRound m (w.heap.size + 1) P J xs := by
      rintro k g W x v hx ⟨hrel, hst, hl, hk, hfl, hfk⟩ hxv
      have hlt : w.heap.size + 1 < W.heap.size := (Array.getElem?_eq_some_iff.1 hl).1
      have hy := run_yield (P := P) (args := #[v]) hl (by rw [hrec]; rfl)
      rw [hrec] at hy
      refine ⟨fn, _, assign, body, hy, roundIn_of_wpIn trivial ?_⟩
      have hput := rel_put (U' := (· < nx)) (dst := some pt) (v := .d x) (u := v) hrel hrel.heap ⟨fun b hb => ⟨hb, rfl⟩, fun _ hx => hx, fun _ _ => .inl rfl⟩ (fun k hk => hrel.used k hk) (by simp only [RepA]; exact RepD.mono (fun b hb => hb.elim) x v hxv) (fun d hd => by cases hd; exact hptn)
      have hstart2 : RelS { S1 s.n t pn id L (I k) nx with tm := (pt, .d x) :: (S1 s.n t pn id L (I k) nx).tm } g { tmps := a.tmps.setIfInBounds pt v, defers := [] } W := by
        have e : a.put (some pt) v = { tmps := a.tmps.setIfInBounds pt v, defers := [] } := by simp [Act.put, hr.defers]
        rw [e] at hput
        exact hput.congr (fun x' => by simp only [putG, St.get, find]; split <;> simp_all [St.get]) (fun _ => rfl)
      refine wpIn_mono (hbody L k x hx _ g _ W (by simpa using hstart2)) ?_
      rintro e a1 w1 ⟨s1, g2, r1, st1, rfl, hb⟩
      have hl1 : w1.heap[w.heap.size + 1]? = some (.loop (rec .ready none)) := (st1.block _ hlt fun h => hfl (.inl h)).trans hl
      have hk1 : w1.heap[w.heap.size]? = some (.deferred (some [])) := (st1.block _ (by omega) fun h => hfk (.inl h)).trans hk
      have hfl1 := st1.foot hlt hfl
      have hfk1 := st1.foot (b := w.heap.size) (by omega) hfk
      refine ⟨_, run_beginRound hl1 (by rw [hrec]), ?_⟩
      have hsz1' : w.heap.size + 1 < w1.heap.size := (Array.getElem?_eq_some_iff.1 hl1).1
      have hl2 : (w1.putObj (w.heap.size + 1) (.loop { rec .ready none with state := .busy })).heap[w.heap.size + 1]? = some (.loop { rec .ready none with state := .busy }) := World.putObj_heap_same hsz1'
      have hk2 : (w1.putObj (w.heap.size + 1) (.loop { rec .ready none with state := .busy })).heap[w.heap.size]? = some (.deferred (some [])) := (World.putObj_heap_other (by omega)).trans hk1
      have r1' : RelS s1 g2 a1 (w1.putObj (w.heap.size + 1) (.loop { rec .ready none with state := .busy })) := r1.put _ hfl1
      have stA : Step g0 w g2 (w1.putObj (w.heap.size + 1) (.loop { rec .ready none with state := .busy })) := (hst.trans st1).put _ (by omega)
      have rnA : Rnd (w.heap.size + 1) g W g2 (w1.putObj (w.heap.size + 1) (.loop { rec .ready none with state := .busy })) := (st1.rnd _).put _
      generalize hw2 : w1.putObj (w.heap.size + 1) (.loop { rec .ready none with state := .busy }) = w2 at *
      have hsz2 : w.heap.size + 1 < w2.heap.size := (Array.getElem?_eq_some_iff.1 hl2).1
      refine wpIn_mono (hb _ g2 a1 w2 r1') ?_
      rintro e a2 w3 ⟨s2, g3, r2, st2, rfl, hweak⟩
      obtain ⟨g4, r3, st3⟩ := hweak g3 a2 w3 r2
      have hl3 : w3.heap[w.heap.size + 1]? = some (.loop { rec .ready none with state := .busy }) := (st2.block _ hsz2 fun h => hfl1 (.inl h)).trans hl2
      have hk3 : w3.heap[w.heap.size]? = some (.deferred (some [])) := (st2.block _ (by omega) fun h => hfk1 (.inl h)).trans hk2
      have hsz3 : w.heap.size + 1 < w3.heap.size := (Array.getElem?_eq_some_iff.1 hl3).1
      have hfl4 := st3.foot hsz3 (st2.foot hsz2 hfl1)
      have hfk4 := st3.foot (b := w.heap.size) (by omega) (st2.foot (b := w.heap.size) (by omega) hfk1)
      have hend := run_endRound (P := P) none hl3
      rw [hrec] at hend
      refine ⟨_, _, hend, rfl, g4, ⟨?_, ?_, ?_, ?_, hfl4, hfk4⟩, ?_⟩
      · exact S1_tmps htp (r3.put _ hfl4) hr.defers hr.size hv
      · exact (stA.trans (st2.trans st3)).put _ (by omega)
      · rw [World.putObj_heap_same hsz3, hrec]; rfl
      · rw [World.putObj_heap_other (by omega)]; exact hk3
      · exact (rnA.step (st2.trans st3)).put _
    have hcaps1 : RepDs g1.ro W1 caps vs := RepDs.mono (fun b hb => ⟨hst0.ro b hb, by
      exact hlow b (hr.heap.ro b hb)⟩) caps vs hcaps
    have hcall := hit.2 m (w.heap.size + 1) W1 J g1 g1.ro vs hJ hR hJ0 hcaps1 (fun b hb => ⟨by have := hfoot0 b (.inr hb); omega, by have := hfoot0 b (.inr hb); omega, fun ⟨x, M, hx, hvx, hbx⟩ => by
      subst hbx; exact ((hS0.heap.live x M hx).2 hvx).2 hb⟩)
    have hargs : (Value.func (.yield (w.heap.size + 1)) #[] #[] :: vs).toArray = #[.func (.yield (w.heap.size + 1)) #[] #[]] ++ vs.toArray := by simp
    rw [hargs] at hcall
    refine (callsIn_wide.2 hcall).mono ?_
    rintro e W2 ⟨⟨v, rfl⟩, g', h1, h2, h3, h4, h5, h6⟩
    refine ⟨none, _, by have := run_endLoop (P := P) h3 (by rw [hrec]; simp); rw [hrec] at this; exact this, ?_⟩
    refine hdone g' _ w.heap.size L (h1.put _ h5) (h2.put _ (by omega)) (Nat.le_refl _) ?_ h6
    rw [World.putObj_heap_other (by omega)]; exact h4
end Go.Abs
