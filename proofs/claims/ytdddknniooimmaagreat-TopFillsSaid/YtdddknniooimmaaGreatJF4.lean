/-
  Texts of this seat put together: AbsR, AbsV, AbsW, AbsU, AbsL, Base, V1, R1.
-/
import Derived.Test.YtdddknniooimmaaGreatJF3
import Derived.OrdersIn
import Derived.TacticsIn
import Derived.RangeFuncNested
import Derived.RangeFuncLeaves
import Derived.Sort.LoopGhostIn
import Derived.Test.YtdddknniooimmaaGreatRows
set_option linter.unusedVariables false
set_option linter.unusedSectionVars false
set_option linter.unusedSimpArgs false
set_option maxRecDepth 100000
namespace Go.Abs
variable [Flag]
open Go.RowKit

theorem calls_round {l n : Nat} {P : Program} {f : FuncId} {args : Array Value} {w : World} {R : Ending -> World -> Prop} (h : Calls P f args w R) : CallsIn (Fence.wide.inRound l) n P f args w R :=
 CallsIn.inRound l (callsIn_wide.2 h)
theorem rows_round {l n : Nat} {P : Program} {row : String} {args : Array Value} {w : World} {R : Value -> World -> Prop} (h : Rows P row args w R) : RowsIn (Fence.wide.inRound l) n P row args w R := by
 intro c cs _;obtain ⟨v, w', h1, h2⟩ := h c cs;exact ⟨v, w', h1, stepsIn_wide.2 h2⟩
structure Free (F : Fence) (n : Nat) : Prop where
 fn : ∀ f, F.fn f
 depth : F.depth.isSome = false
 calls : ∀ {P : Program} {f : FuncId} {args : Array Value} {w : World} {R : Ending -> World -> Prop}, Calls P f args w R -> CallsIn F (n - 1) P f args w R
 rows : ∀ {P : Program} {row : String} {args : Array Value} {w : World} {R : Value -> World -> Prop}, Rows P row args w R -> RowsIn F (n - 1) P row args w R
theorem free_wide (n : Nat) : Free Fence.wide n := ⟨fun _ => trivial, rfl, fun h => callsIn_wide.2 h, fun h => fun c cs _ => by
 obtain ⟨v, w', h1, h2⟩ := h c cs;exact ⟨v, w', h1, stepsIn_wide.2 h2⟩⟩
theorem op_free {F : Fence} {n : Nat} (hF : Free F n) {P : Program} {o : Oper} {a : Act} {w : World} {K K' : Act -> World -> Prop} {Q : Exit -> Act -> World -> Prop} (hd : ∀ c, o.op ≠ .defer c) (hK : ∀ a w, K a w -> K' a w) (h : o.wp P a w K Q) : o.wpIn F n P a w K' Q := by
 refine ⟨fun _ _ => hF.fn _, ?_⟩;have hs : o.semAt F.round a.eval = execOp a.eval o := Oper.semAt_eq _ _ _ hd;rw [hs];have h := Oper.wp_mono hK h;unfold Oper.wp at h;generalize (execOp a.eval o).run P w = r at *;cases r with
 | ok x w' =>
  cases x <;> simp only [Oper.upon, Oper.uponIn] at h ⊢ <;> first
   | exact h
   | exact ⟨fun hh => absurd hh (by rw [hF.depth]; exact Bool.false_ne_true), (hF.calls h).mono fun e w'' he => by cases e <;> exact he⟩
   | exact ⟨fun hh => absurd hh (by rw [hF.depth]; exact Bool.false_ne_true), hF.rows h⟩
   | exact False.elim h
 | halt x w' => cases x <;> simp only [Oper.upon, Oper.uponIn] at h ⊢ <;> first | exact h | exact h.elim

theorem op_round {l n : Nat} {P : Program} {o : Oper} {a : Act} {w : World} {K K' : Act -> World -> Prop} {Q : Exit -> Act -> World -> Prop} (hd : ∀ c, o.op ≠ .defer c) (hK : ∀ a w, K a w -> K' a w) (h : o.wp P a w K Q) : o.wpIn (Fence.wide.inRound l) n P a w K' Q := by
 refine ⟨fun _ _ => trivial, ?_⟩;rw [Oper.semAt_eq _ _ _ hd];have h := Oper.wp_mono hK h;unfold Oper.wp at h;generalize (execOp a.eval o).run P w = r at *;cases r with
 | ok x w' =>
  cases x <;> simp only [Oper.upon, Oper.uponIn] at h ⊢ <;> first
   | exact h
   | exact ⟨fun hh => absurd hh (by simp [Fence.wide]), (calls_round h).mono fun e w'' he => by cases e <;> exact he⟩
   | exact ⟨fun hh => absurd hh (by simp [Fence.wide]), rows_round h⟩
   | exact False.elim h
 | halt x w' => cases x <;> simp only [Oper.upon, Oper.uponIn] at h ⊢ <;> first | exact h | exact h.elim

def zdx (l : List Oper) : Bool := l.all fun o => match o.op with | .defer _ => false | _ => true
theorem zpy {l : List Oper} (h : zdx l = true) {o : Oper} (ho : o ∈ l) : ∀ c, o.op ≠ .defer c := fun c hc => by
 have := List.all_eq_true.1 h o ho;rw [hc] at this;cases this

theorem zng {l n : Nat} {P : Program} {ops : Array Oper} {Q : Exit -> Act -> World -> Prop} (hQ : ¬ LetsOut Q) : ∀ (ls : List Oper) (a : Act) (w : World), zdx ls = true -> wpList P ops Q ls a w -> wpListIn (Fence.wide.inRound l) n P ops Q ls a w
 | [], a, w, _, h => h
 | o :: rest, a, w, hd, h => by
  have hd' : zdx rest = true := by simp only [zdx, List.all_cons, Bool.and_eq_true] at hd; exact hd.2
  simp only [wpList, wpListIn] at h ⊢;split
  ·rename_i hw;rw [if_pos hw] at h;rcases h with h | h
   ·exact op_round (zpy hd (by simp)) (fun a w hk => zng hQ rest a w hd' hk) h
   ·exact absurd h.2 hQ
  ·rename_i hw;rw [if_neg hw] at h;exact ⟨fun _ _ => trivial, zng hQ rest _ w hd' h⟩

def AWr (n : Nat) (P : Program) (c : Code) (Q : Exit -> St -> Prop) (s : St) : Prop :=
 ∀ (l : Nat) g a w, zcs s g a w -> c.wpIn (Fence.wide.inRound l) n P (fun e a' w' => ∃ s' g', zcs s' g' a' w' /\ zan g w g' w' /\ Q e s') a w

theorem zry {n : Nat} {P : Program} {x y : Code} {Q : Exit -> St -> Prop} {s : St} (h : AWr n P x (fun e s' => match e with | .normal => AWr n P y Q s' | e => Q e s') s) : AWr n P (.seq x y) Q s := by
 intro l g a w hr;refine wpIn_seq (wpIn_mono (h l g a w hr) fun e a' w' ⟨s', g', h1, h2, h3⟩ => ?_);cases e with
 | normal => exact wpIn_mono (h3 l g' a' w' h1) fun e2 a2 w2 ⟨s2, g2, k1, k2, k3⟩ => ⟨s2, g2, k1, h2.trans k2, k3⟩
 | _ => exact ⟨s', g', h1, h2, h3⟩

theorem awr_block {n id : Nat} {P : Program} {c : Code} {Q : St -> Prop} {s : St} (h : AWr n P c (fun e s => e = .normal /\ Q s) s) : AWr n P (.block id c) (fun e s => e = .normal /\ Q s) s := by
 intro l g a w hr;refine wpIn_block (wpIn_mono (h l g a w hr) fun e a' w' ⟨s', g', h1, h2, h3, h4⟩ => ?_);subst h3;exact ⟨s', g', h1, h2, rfl, h4⟩

theorem zda {n : Nat} {P : Program} {ty : TypeId -> Option TI} (hc : Ctx P ty) (orc : List (Nat × Res)) {id : Nat} {l : List Oper} {Q : Exit -> St -> Prop} {s : St} (hQ : ∀ s', ¬ Q .outgrown s') (hd : zdx l = true)
  (h : ∀ K : St -> Prop, (∀ s', Q .normal s' -> K s') -> wpT ty P orc (l.map (·.dst)) s.nxt 0 l { s with nxt := s.nxt + l.length } K) : AWr n P (.region id l.toArray false) Q s := by
 intro r g a w hr;have hw := zgp (P := P) hc (orc := orc) (gs := l.map (·.dst)) (ops := l.toArray) (by intro j; simp) (base := s.nxt) (nxt := s.nxt + l.length)
  (Q := fun e a' w' => ∃ s' g', zcs s' g' a' w' /\ zan g w g' w' /\ Q e s') (K := fun s' => Q .normal s') (g0 := g) (w0 := w)
  (fun s' g' a' w' h1 h2 h3 => ⟨s', g', h1, h2, h3⟩) l 0 { s with nxt := s.nxt + l.length } g a w (by simp) rfl ⟨hr.defers, hr.size, hr.tmp, fun id hu => by have := hr.used id hu; simpa using this, hr.heap⟩ (zan.refl g w) (h _ fun _ hq => hq)
 exact wpIn_region_lit (zng (fun hx => by obtain ⟨_, _, s', _, _, _, hq⟩ := hx; exact hQ s' hq) l a w hd hw)

theorem zgo {F : Fence} {n : Nat} (hF : Free F n) {P : Program} {ty : TypeId -> Option TI} (hc : Ctx P ty) {orc : List (Nat × Res)} {gs : List (Option Tmp)} {ops : Array Oper} (hgs : ∀ j : Nat, gs[j]? = (ops[j]?).map fun o : Oper => o.dst) {base nxt : Nat} {Q : Exit -> Act -> World -> Prop} {K : St -> Prop} {g0 : G} {w0 : World}
  {l2 : List Oper} {en n0 : Nat} (hQ : ∀ s g a w, s.nxt = nxt -> s.n = n0 -> Rel (· < base + en) g s.get s.obj s.n a w -> zan g0 w0 g w -> K s -> wpListIn F n P ops Q l2 a w) :
  ∀ (l : List Oper) (i : Nat) (s : St) (g : G) (a : Act) (w : World), zdx l = true -> i + l.length = en -> s.nxt = nxt -> s.n = n0 -> Rel (· < base + i) g s.get s.obj s.n a w -> zan g0 w0 g w -> wpT ty P orc gs base i l s K -> wpListIn F n P ops Q (l ++ l2) a w
 | [], i, s, g, a, w, _, hle, hnx, hn0, h, hs, hk => hQ s g a w hnx hn0 (by simp at hle; rw [<- hle]; exact h) hs hk
 | o :: rest, i, s, g, a, w, hdf, hle, hnx, hn0, h, hs, hk => by
  simp only [List.length_cons] at hle;have hdo := zpy hdf (o := o) (by simp);have hdr : zdx rest = true := by simp only [zdx, List.all_cons, Bool.and_eq_true] at hdf; exact hdf.2
  have hargs : zj g w (o.op.operands.toList.map s.eval) (o.op.operands.toList.map a.eval) := by
   refine zj.of_get (by simp) fun j av hj => ?_;rw [List.getElem?_map] at hj ⊢;cases hx : o.op.operands.toList[j]? with
   | none => rw [hx] at hj; cases hj
   | some x => rw [hx] at hj; cases hj; exact ⟨a.eval x, rfl, zef h (fun _ => rfl) x⟩
  have relapp : ∀ (e : Eff) (g' : G) (a' : Act) (w' : World), Rel (fun k => k < base + i \/ k = base + i) g' (zgu s.get o.dst e.val) (zcu s.obj e.wr) s.n a' w' -> Rel (· < base + (i + 1)) g' (s.app o.dst e).get (s.app o.dst e).obj (s.app o.dst e).n a' w' := by
   intro e g' a' w' hr;have hn : (s.app o.dst e).n = s.n := by unfold St.app St.put; cases o.dst <;> rfl
   rw [hn];exact ⟨hr.defers, hr.size, fun t => by rw [zos]; exact hr.tmp t, fun id hu => by
    have := hr.used id hu
    show id < base + (i + 1)
    rcases this with hh | hh <;> omega, by
    have : (s.app o.dst e).obj = zcu s.obj e.wr := funext (zor s o.dst e);rw [this]; exact hr.heap⟩
  have hnapp : ∀ e, (s.app o.dst e).nxt = nxt := fun e => by rw [<- hnx]; unfold St.app St.put; cases o.dst <;> rfl
  have hna : ∀ e, (s.app o.dst e).n = s.n := fun e => by unfold St.app St.put; cases o.dst <;> rfl
  have hnput : ∀ v, (s.put o.dst v).nxt = nxt := fun v => by rw [<- hnx]; unfold St.put; cases o.dst <;> rfl
  have hnn : ∀ v, (s.put o.dst v).n = s.n := fun v => by unfold St.put; cases o.dst <;> rfl
  have relput : ∀ (v : AV) (g' : G) (a' : Act) (w' : World) (U : Nat -> Prop), (∀ k, U k -> k < base + (i + 1)) -> Rel U g' (zgu s.get o.dst v) s.obj s.n a' w' -> Rel (· < base + (i + 1)) g' (s.put o.dst v).get (s.put o.dst v).obj (s.put o.dst v).n a' w' := by
   intro v g' a' w' U hU hr;rw [hnn];have := hr.congr (get' := (s.put o.dst v).get) (obj' := (s.put o.dst v).obj) (fun t => St.get_put s o.dst v t) (fun id => zlh s o.dst v id);exact ⟨this.defers, this.size, this.tmp, fun k hk => hU k (this.used k hk), this.heap⟩
  have skipped : ∀ v, (∀ d, o.dst = some d -> d < s.n) -> zh g w v undef -> wpT ty P orc gs base (i + 1) rest (s.put o.dst v) K -> wpListIn F n P ops Q (rest ++ l2) (a.put o.dst undef) w := by
   intro v hd hv hrest;have hr := zcf (U' := (· < base + i)) (dst := o.dst) (v := v) (u := undef) h h.heap ⟨fun b hb => ⟨hb, rfl⟩, fun _ hx => hx, fun _ _ => .inl rfl⟩ (fun k hk => h.used k hk) hv hd;exact zgo hF (nxt := nxt) hc hgs hQ rest (i + 1) _ g _ w hdr (by omega) (hnput v) ((hnn v).trans hn0) (relput v g _ w _ (fun k hk => by omega) hr) hs hrest
  simp only [List.cons_append, wpListIn];unfold wpT at hk;split at hk
  ·rename_i hg;have hw : Region.wanted o (yielded ops a.tmps) = true := by simp [Region.wanted, hg]
   rw [if_pos hw];unfold doOp at hk;split at hk
   ·rename_i e he;obtain ⟨hob, hd, hrest⟩ := hk;exact op_free hF hdo (fun _ _ hk => hk) <| zfo hc (nid := base + i) h (by simp) hargs he hob (fun d hd' => by rw [hd'] at hd; exact hd) fun g' a' w' hr hst =>
     zgo hF (nxt := nxt) hc hgs hQ rest (i + 1) (s.app o.dst e) g' a' w' hdr (by omega) (hnapp e) ((hna e).trans hn0) (relapp e g' a' w' hr) (hs.trans hst) hrest
   ·exact hk.elim
  ·rename_i j want hg;split at hk
   ·rename_i x hgv;have hw := zjo (a := a) hgs h.tmp hg hgv;rw [hw];obtain ⟨hd, hk⟩ := hk;have hd' : ∀ d, o.dst = some d -> d < s.n := fun d hd' => by rw [hd'] at hd; exact hd
    split at hk
    ·rename_i e he;split at hk
     ·rename_i hwr;obtain ⟨hexec, hrest⟩ := hk;cases x with
      | true =>
       rw [if_pos rfl];obtain ⟨hso, hob⟩ := hexec rfl;refine op_free hF hdo (fun _ _ hk => hk) <| zfo hc (nid := base + i) h (by simp) (zdu hargs hso) he hob hd' fun g' a' w' hr hst => ?_
       rw [hwr] at hr;exact zgo hF (nxt := nxt) hc hgs hQ rest (i + 1) _ g' a' w' hdr (by omega) (hnput _) ((hnn _).trans hn0) (relput _ g' a' w' _ (fun k hk => by rcases hk with hh | hh <;> omega) hr.opt) (hs.trans hst) hrest
      | false =>
       rw [if_neg (by simp)];exact ⟨fun _ _ => hF.fn _, skipped _ hd' (by simp [zh]) hrest⟩
     ·obtain ⟨rfl, hso, hob, hrest⟩ := hk;rw [if_pos rfl];exact op_free hF hdo (fun _ _ hk => hk) <| zfo hc (nid := base + i) h (by simp) (zdu hargs hso) he hob hd' fun g' a' w' hr hst =>
       zgo hF (nxt := nxt) hc hgs hQ rest (i + 1) (s.app o.dst e) g' a' w' hdr (by omega) (hnapp e) ((hna e).trans hn0) (relapp e g' a' w' hr) (hs.trans hst) hrest
    ·obtain ⟨rfl, hrest⟩ := hk;rw [if_neg (by simp)];exact ⟨fun _ _ => hF.fn _, skipped _ hd' (by simp [zh]) hrest⟩
   ·exact hk.elim




def G.foot (g : G) (b : Nat) : Prop := g.owns b \/ g.ro b
theorem zam.foot_lt {g : G} {obj : Nat -> Option Ob} {w : World} (h : zam g obj w) {b : Nat} (hb : g.foot b) : b < w.heap.size := by
 rcases hb with ⟨id, L, hL, hv, rfl⟩ | hb
 ·exact ((h.live id L hL).2 hv).1
 ·exact h.ro b hb
theorem zam.stay {g : G} {obj : Nat -> Option Ob} {w w' : World} (h : zam g obj w) (hsz : w.heap.size <= w'.heap.size) (hb : ∀ b, g.foot b -> w'.heap[b]? = w.heap[b]?) : zam g obj w' /\ zbs g w g w' := by
 have hlater : zbs g w g w' := ⟨fun b hr => ⟨hr, hb b (.inr hr)⟩, fun _ hx => hx, fun _ _ => .inl rfl⟩
 refine ⟨⟨fun id o ho => ?_, h.gone, fun id L hL => ⟨(h.live id L hL).1, fun hv => ⟨Nat.lt_of_lt_of_le ((h.live id L hL).2 hv).1 hsz, ((h.live id L hL).2 hv).2⟩⟩, h.inj, fun b hr => Nat.lt_of_lt_of_le (h.ro b hr) hsz⟩, hlater⟩;obtain ⟨L, hL, hok⟩ := h.own id o ho;exact ⟨L, hL, hok.later hlater fun hv => hb _ (.inl ⟨id, L, hL, hv, rfl⟩)⟩
theorem Rel.stay {U : Nat -> Prop} {g : G} {get : Nat -> AV} {obj : Nat -> Option Ob} {n : Nat} {a : Act} {w w' : World} (h : Rel U g get obj n a w) (hsz : w.heap.size <= w'.heap.size) (hb : ∀ b, g.foot b -> w'.heap[b]? = w.heap[b]?) : Rel U g get obj n a w' := by
 obtain ⟨h1, h2⟩ := h.heap.stay hsz hb;exact ⟨h.defers, h.size, fun t => zh.later h2 _ _ (h.tmp t), h.used, h1⟩

structure Sep (g1 g2 : G) : Prop where
 own : ∀ b, g1.owns b -> ¬ g2.foot b
 own' : ∀ b, g2.owns b -> ¬ g1.ro b
theorem Sep.symm {g1 g2 : G} (h : Sep g1 g2) : Sep g2 g1 :=
 ⟨fun b h2 h1 => h1.elim (fun ho => h.own b ho (.inl h2)) (h.own' b h2), fun b h1 h2 => h.own b h1 (.inr h2)⟩

structure Rnd (x : Nat) (g : G) (w : World) (g' : G) (w' : World) : Prop where
 size : w.heap.size <= w'.heap.size
 block : ∀ b, b < w.heap.size -> ¬ g.owns b -> b ≠ x -> w'.heap[b]? = w.heap[b]?
 own : ∀ b, g'.owns b -> w.heap.size <= b \/ g.owns b
 ro' : ∀ b, g'.ro b -> g.ro b \/ w.heap.size <= b \/ g.owns b
theorem zan.rnd {g g' : G} {w w' : World} (h : zan g w g' w') (x : Nat) : Rnd x g w g' w' := ⟨h.size, fun b h1 h2 _ => h.block b h1 h2, h.own, h.ro'⟩

theorem Sep.rnd {x : Nat} {g1 g1' g2 : G} {w w' : World} (hs : Sep g1 g2) (h2 : ∀ b, g2.foot b -> b < w.heap.size /\ b ≠ x) (st : Rnd x g1 w g1' w') : (∀ b, g2.foot b -> w'.heap[b]? = w.heap[b]?) /\ Sep g1' g2 := by
 refine ⟨fun b hb => st.block b (h2 b hb).1 (fun ho => hs.own b ho hb) (h2 b hb).2, fun b ho hf => ?_, fun b ho hr => ?_⟩
 ·rcases st.own b ho with h | h
  ·have := (h2 b hf).1; omega
  ·exact hs.own b h hf
 ·have hf := h2 b (.inl ho);rcases st.ro' b hr with h | h | h
  ·exact hs.own' b ho h
  ·omega
  ·exact hs.own b h (.inl ho)

structure JOk (l : Nat) (W0 : World) (J : Nat -> G -> World -> Prop) : Prop where
 lrec : l < W0.heap.size
 size : ∀ k g W, J k g W -> W0.heap.size <= W.heap.size /\ ∀ b, g.foot b -> b < W.heap.size
 stay : ∀ k g W W', J k g W -> W'.os = W.os -> (W'.tape = W.tape /\ (Flag.p \/ W.drawn <= W'.drawn)) -> W'.output = W.output -> W.heap.size <= W'.heap.size -> (∀ b, b < W0.heap.size \/ g.foot b -> W'.heap[b]? = W.heap[b]?) -> J k g W'

def IInv (l : Nat) (W0 : World) (J : Nat -> G -> World -> Prop) (k : Nat) (g1 : G) (w : World) : Prop :=
 ∃ g, J k g w /\ Sep g1 g /\ (∀ b, g1.owns b -> W0.heap.size <= b) /\ ¬ g1.ro l

theorem IInv.step {l : Nat} {W0 : World} {J : Nat -> G -> World -> Prop} (hJ : JOk l W0 J) {k : Nat} {g1 g1' : G} {w w' : World} (h : IInv l W0 J k g1 w) (st : zan g1 w g1' w') : IInv l W0 J k g1' w' := by
 obtain ⟨g, hj, hs, ho, hr⟩ := h;obtain ⟨hsz, hf⟩ := hJ.size k g w hj;have hl := hJ.lrec;refine ⟨g, hJ.stay k g w w' hj st.os st.tape st.output st.size ?_, ⟨?_, ?_⟩, ?_, ?_⟩
 ·rintro b (hb | hb)
  ·exact st.block b (by omega) fun h => by have := ho b h; omega
  ·exact st.block b (hf b hb) fun h => hs.own b h hb
 ·intro b h1 h2;rcases st.own b h1 with h | h
  ·have := hf b h2; omega
  ·exact hs.own b h h2
 ·intro b h1 h2;have := hf b (.inl h1);rcases st.ro' b h2 with h | h | h
  ·exact hs.own' b h1 h
  ·omega
  ·exact hs.own b h (.inl h1)
 ·intro b h1;rcases st.own b h1 with h | h
  ·omega
  ·exact ho b h
 ·intro h1;rcases st.ro' l h1 with h | h | h
  ·exact hr h
  ·omega
  ·have := ho l h; omega

theorem IInv.rnd {l : Nat} {W0 : World} {J : Nat -> G -> World -> Prop} (hJ : JOk l W0 J) {k : Nat} {g1 g g' : G} {w w' : World} (hf1 : ∀ b, g1.foot b -> b < w.heap.size) (hs : Sep g1 g) (ho : ∀ b, g1.owns b -> W0.heap.size <= b) (hr : ¬ g1.ro l) (st : Rnd l g w g' w') (hj' : J (k + 1) g' w') :
  IInv l W0 J (k + 1) g1 w' /\ ∀ b, g1.foot b -> w'.heap[b]? = w.heap[b]? := by
 have hl := hJ.lrec;obtain ⟨h1, h2⟩ := hs.symm.rnd (x := l) (fun b hb => ⟨hf1 b hb, fun e => by
  subst e;rcases hb with hb | hb
  ·have := ho _ hb; omega
  ·exact hr hb⟩) st
 exact ⟨⟨g', hj', h2.symm, ho, hr⟩, h1⟩

def AWi (l : Nat) (W0 : World) (J : Nat -> G -> World -> Prop) (P : Program) (c : Code) (Q : Exit -> Nat × St -> Prop) (s : Nat × St) : Prop :=
 ∀ g1 a w, zcs s.2 g1 a w -> IInv l W0 J s.1 g1 w -> c.wp P (fun e a' w' => ∃ s' g1', zcs s'.2 g1' a' w' /\ IInv l W0 J s'.1 g1' w' /\ Q e s') a w

section
variable {l : Nat} {W0 : World} {J : Nat -> G -> World -> Prop} {P : Program} {Q : Exit -> Nat × St -> Prop} {s : Nat × St}
def seqI (K : Nat × St -> Prop) (Q : Exit -> Nat × St -> Prop) : Exit -> Nat × St -> Prop
 | .normal, s => K s
 | e, s => Q e s
def zqs (id : Nat) (Q : Exit -> Nat × St -> Prop) : Exit -> Nat × St -> Prop
 | .exit id', s => if id' = id then Q .normal s else Q (.exit id') s
 | e, s => Q e s

theorem ztz (hJ : JOk l W0 J) {c : Code} (h : AWp P c (fun e s' => Q e (s.1, s')) s.2) : AWi l W0 J P c Q s :=
 fun g1 a w hr hi => wp_mono (h g1 a w hr) fun e a' w' ⟨s', g', h1, h2, h3⟩ => ⟨(s.1, s'), g', h1, hi.step hJ h2, h3⟩
theorem zlq {x y : Code} (h : AWi l W0 J P x (seqI (fun s' => AWi l W0 J P y Q s') Q) s) : AWi l W0 J P (.seq x y) Q s := by
 intro g a w hr hi;refine wp_seq (wp_mono (h g a w hr hi) fun e a' w' ⟨s', g', h1, h2, h3⟩ => ?_);cases e with
 | normal => exact h3 g' a' w' h1 h2
 | _ => exact ⟨s', g', h1, h2, h3⟩
theorem awi_cond {c : Operand} {x y : Code} {b : Bool} (hc : s.2.eval c = .d (.bool b)) (ht : b = true -> AWi l W0 J P x Q s) (hf : b = false -> AWi l W0 J P y Q s) : AWi l W0 J P (.cond c x y) Q s := by
 intro g a w hr hi;have h1 := zef hr (fun _ => rfl) c;rw [hc] at h1;simp only [zh, zr] at h1;exact wp_cond_split h1 (fun hb => ht hb g a w hr hi) (fun hb => hf hb g a w hr hi)
theorem zgt {id : Nat} {c : Code} (h : AWi l W0 J P c (zqs id Q) s) : AWi l W0 J P (.block id c) Q s := by
 intro g a w hr hi;refine wp_block (wp_mono (h g a w hr hi) fun e a' w' ⟨s', g', h1, h2, h3⟩ => ?_);cases e with
 | exit id' =>
  simp only [zqs] at h3;simp only [Exit.inBlock];split at h3
  ·rename_i he; rw [if_pos he]; exact ⟨s', g', h1, h2, h3⟩
  ·rename_i he; rw [if_neg he]; exact ⟨s', g', h1, h2, h3⟩
 | _ => exact ⟨s', g', h1, h2, h3⟩
theorem awi_weak (hJ : JOk l W0 J) {c : Code} {s' : St} (hw : zeh s.2 s') (h : AWi l W0 J P c Q (s.1, s')) : AWi l W0 J P c Q s := by
 intro g a w hr hi;obtain ⟨g', hr', hs⟩ := hw g a w hr;exact h g' a w hr' (hi.step hJ hs)
theorem awi_loop (hJ : JOk l W0 J) {c : Code} {β : Type} (I : β -> Nat × St) (inv : β -> Prop) (meas : β -> Nat) (b0 : β) (h0 : zeh s.2 (I b0).2) (hk : s.1 = (I b0).1) (hi : inv b0)
  (round : ∀ b, inv b -> AWi l W0 J P c (seqI (fun s' => ∃ b', inv b' /\ meas b' < meas b /\ s'.1 = (I b').1 /\ zeh s'.2 (I b').2) Q) (I b)) : AWi l W0 J P (.loop c) Q s := by
 refine awi_weak hJ h0 ?_;rw [hk];intro g a w hr hiv;refine zpf (fun n a' w' => ∃ b g', inv b /\ meas b = n /\ zcs (I b).2 g' a' w' /\ IInv l W0 J (I b).1 g' w') ?_ (n := meas b0) ⟨b0, g, hi, rfl, hr, hiv⟩;rintro n a1 w1 ⟨b, g1, hb, rfl, hr1, hs1⟩;refine wp_mono (round b hb g1 a1 w1 hr1 hs1) fun e a2 w2 ⟨s2, g2, h1, h2, h3⟩ => ?_;cases e with
 | normal =>
  obtain ⟨b', k1, k2, k4, k3⟩ := h3;obtain ⟨g3, h4, h5⟩ := k3 g2 a2 w2 h1;rw [k4] at h2;exact ⟨meas b', k2, b', g3, k1, rfl, h4, h2.step hJ h5⟩
 | _ => exact ⟨s2, g2, h1, h2, h3⟩
end

section
variable {l : Nat} {W0 : World} {J : Nat -> G -> World -> Prop} {P : Program} {K : Nat × St -> Prop} {Q : Exit -> Nat × St -> Prop} {s : Nat × St} {id i : Nat}
theorem ziy (h : Q .normal s) : AWi l W0 J P .skip Q s := fun g a w hr hi => wp_skip ⟨s, g, hr, hi, h⟩
theorem ziz {id : Nat} (h : Q (.exit id) s) : AWi l W0 J P (.exit id) Q s := fun g a w hr hi => wp_exit ⟨s, g, hr, hi, h⟩
theorem zlr (h : Q .ret s) : AWi l W0 J P .ret Q s := fun g a w hr hi => wp_ret ⟨s, g, hr, hi, h⟩
theorem si_n (h : K s) : seqI K Q .normal s := h
theorem si_r (h : Q .ret s) : seqI K Q .ret s := h
theorem si_x (h : Q (.exit i) s) : seqI K Q (.exit i) s := h
theorem bi_n (h : Q .normal s) : zqs id Q .normal s := h
theorem bi_r (h : Q .ret s) : zqs id Q .ret s := h
theorem bi_x (h : Q .normal s) : zqs id Q (.exit id) s := by simp only [zqs, if_true]; exact h
theorem bi_y (hn : Nat.beq i id = false) (h : Q (.exit i) s) : zqs id Q (.exit i) s := by
 simp only [zqs];rw [if_neg (Nat.ne_of_beq_eq_false hn)]; exact h
end
theorem wv {p q : Prop} (k : q) (e : q -> p := by intro k; (try dsimp only); (repeat (first | refine zlq ?_ | refine zgt ?_ | refine ziy ?_ | refine ziz ?_ | refine zlr ?_ | refine si_n ?_ | refine si_r ?_ | refine si_x ?_ | refine bi_n ?_ | refine bi_r ?_ | refine bi_x ?_ | refine bi_y rfl ?_)); exact k) : p := e k
end Go.Abs

namespace Go.Abs
variable [Flag]
open Go.RowKit

theorem zan.foot {g g' : G} {w w' : World} (h : zan g w g' w') {b : Nat} (hb : b < w.heap.size) (hn : ¬ g.foot b) : ¬ g'.foot b := by
 rintro (h1 | h1)
 ·rcases h.own b h1 with h2 | h2
  ·omega
  ·exact hn (.inl h2)
 ·rcases h.ro' b h1 with h2 | h2 | h2
  ·exact hn (.inr h2)
  ·omega
  ·exact hn (.inl h2)
theorem zan.put {g g' : G} {w w' : World} (h : zan g w g' w') {l : Nat} (o : Obj) (hl : w.heap.size <= l) : zan g w g' (w'.putObj l o) :=
 ⟨h.os, h.tape, h.output, by simpa using h.size, fun b h1 h2 => by rw [World.putObj_heap_other (by omega)]; exact h.block b h1 h2, h.own, h.ro, h.ro'⟩
theorem zan.allocB {g g' : G} {w w' : World} (h : zan g w g' w') (o : Obj) : zan g w g' (w'.alloc o) :=
 ⟨h.os, h.tape, h.output, by have := h.size; simp; omega, fun b h1 h2 => by
  have := h.size;have e : (w'.alloc o).heap[b]? = w'.heap[b]? := by
   show (w'.heap.push o)[b]? = _
   rw [Array.getElem?_push_lt (by omega), Array.getElem?_eq_getElem (by omega)]
  rw [e]; exact h.block b h1 h2, h.own, h.ro, h.ro'⟩
theorem Rnd.step {x : Nat} {g g' g'' : G} {w w' w'' : World} (h : Rnd x g w g' w') (k : zan g' w' g'' w'') : Rnd x g w g'' w'' := by
 have hs := h.size;refine ⟨Nat.le_trans h.size k.size, fun b h1 h2 h3 => ?_, fun b hb => ?_, fun b hb => ?_⟩
 ·rw [k.block b (by omega) fun ho => by
   rcases h.own b ho with h4 | h4
   ·omega
   ·exact h2 h4]
  exact h.block b h1 h2 h3
 ·rcases k.own b hb with h1 | h1
  ·exact .inl (by omega)
  ·exact h.own b h1
 ·rcases k.ro' b hb with h1 | h1 | h1
  ·exact h.ro' b h1
  ·exact .inr (.inl (by omega))
  ·rcases h.own b h1 with h2 | h2
   ·exact .inr (.inl h2)
   ·exact .inr (.inr h2)
theorem Rnd.put {x : Nat} {g g' : G} {w w' : World} (h : Rnd x g w g' w') (o : Obj) : Rnd x g w g' (w'.putObj x o) :=
 ⟨by simpa using h.size, fun b h1 h2 h3 => by rw [World.putObj_heap_other h3]; exact h.block b h1 h2 h3, h.own, h.ro'⟩
theorem Rel.put {U : Nat -> Prop} {g : G} {get : Nat -> AV} {obj : Nat -> Option Ob} {n : Nat} {a : Act} {w : World} (h : Rel U g get obj n a w) {l : Nat} (o : Obj) (hl : ¬ g.foot l) : Rel U g get obj n a (w.putObj l o) :=
 h.stay (by simp) fun b hb => World.putObj_heap_other fun e => hl (e ▸ hb)

def S1 (n t pn id : Nat) (L : Loc) (hp : List (Nat × Option Ob)) (nx : Nat) : St := ⟨n, [(t, .ptr id 0 0), (pn, .pin id L)], hp, nx⟩

theorem ret_done {P : Program} {ty : TypeId -> Option TI} (hc : Ctx P ty) {fn : Func} {ro : Nat -> Prop} {w w' : World} {s' : St} {g' : G} {a' : Act} {r : Res} (h1 : zcs s' g' a' w') (h2 : zan ⟨ro, fun _ => none, fun _ => False⟩ w g' w') :
  (∃ l, zfz ty s' fn.results.toList = some l /\ zmk s' (zhs l) r) -> ∃ v, (results fn a'.tmps).run P w' = .ok v w' /\ ∃ v', Ending.returned v = .returned v' /\ Below w.heap.size w w' /\ zdn ro w.heap.size w' r v' := by
 rintro ⟨l, hl, hok⟩;obtain ⟨v, hv, hrep⟩ := zpr hc h1 hl;refine ⟨v, hv, v, rfl, ⟨h2.os, h2.tape, h2.output, h2.size, fun k hk => h2.block k hk (by rintro ⟨_, _, h, _⟩; cases h)⟩, ?_⟩;have hro' : ∀ b, g'.ro b -> ro b \/ (w.heap.size <= b /\ b < w'.heap.size) := fun b hb => by
  rcases h2.ro' b hb with hh | hh | ⟨_, _, hh, _⟩
  ·exact .inl hh
  ·exact .inr ⟨hh, h1.heap.ro b hb⟩
  ·cases hh
 have hown' : ∀ b, g'.owns b -> w.heap.size <= b /\ b < w'.heap.size := fun b hb => by
  refine ⟨?_, ?_⟩
  ·rcases h2.own b hb with hh | ⟨_, _, hh, _⟩
   ·exact hh
   ·cases hh
  ·obtain ⟨x, L, hx, hvx, rfl⟩ := hb;exact ((h1.heap.live x L hx).2 hvx).1
 cases r with
 | x c => exact (show False from hok).elim
 | skip => exact (show False from hok).elim
 | ub b => exact (show False from hok).elim
 | f d =>
  simp only [zmk] at hok;split at hok
  ·rename_i y hy;obtain ⟨d', p⟩ := y;obtain ⟨rfl, hp⟩ := hok;simp only [zdn];exact zr.mono (fun b hb => ⟨hown' b hb, rfl⟩) d' v (zpn h1.heap _ _ _ _ hy hp hrep)
  ·exact hok.elim
 | p d =>
  obtain ⟨p, b, hs, hp⟩ := resOk_p hok;obtain ⟨k1, _⟩ := zno h1.heap _ _ _ _ _ hs hp hrep;simp only [zdn];exact zr.mono (fun b hb => ⟨hb.elim (hro' b) fun ho => .inr (hown' b ho), rfl⟩) d v k1
 | o e m rows =>
  simp only [zdn, OwnRes];rcases resOk_o hok with ⟨hx, rfl, hm⟩ | ⟨id, len, o, R, hx, hob, rfl, rfl, hR, rfl, hlen⟩
  ·rw [hx] at hrep;simp only [zh] at hrep;exact ⟨hm, .inl ⟨rfl, none, hrep⟩⟩
  ·rw [hx] at hrep;obtain ⟨L, hL, hok⟩ := h1.heap.own id o hob;refine ⟨by rw [<- hok.m]; exact hok.pos, ?_⟩;simp only [zh] at hrep;rcases hrep.2 L hL with ⟨_, _, rfl, hv'⟩ | ⟨hvirt, hle, hv'⟩
   ·exact .inl ⟨by simp, hv'⟩
   ·obtain ⟨cur, c1, c2, c3, c5⟩ := hok.cells hvirt;have hlenR : (R.take len).length = len := by simp; omega
    refine .inr ⟨L.blk, L.cap, cur, (hown' _ ⟨id, L, hL, hvirt.1, rfl⟩).1, by rw [hv', hlenR]; simp, c1, by rw [hlenR]; omega, c3, by rw [c2, hok.m], fun i row hi => ?_⟩;rw [List.getElem?_take] at hi;split at hi
    ·obtain ⟨arow, harow, had⟩ := zgs hR i row hi;obtain ⟨d1, d2⟩ := c5 i arow harow;obtain ⟨us, hul, hur, huc⟩ := hok.row hvirt harow;have hds := zj.allD had hur;refine ⟨by rw [<- hds.length, hul, hok.m], fun j d hj => ?_⟩;obtain ⟨u, hu, hru⟩ := hds.get j d hj;obtain ⟨hcell, hone⟩ := huc j u hu;have hcu : cur[i * o.m + j]? = some u := by
      rw [<- hok.m];rw [c1.cell] at hcell;simpa using hcell
     refine ⟨u, hcu, hone, zr.mono (fun b hb => ⟨?_, rfl⟩) d u hru⟩;rcases hro' b hb with hh | hh
     ·exact .inl hh
     ·exact .inr ⟨hh.1, hh.2, fun e' => ((h1.heap.live id L hL).2 hvirt.1).2 (e' ▸ hb)⟩
    ·cases hi

def _root_.Go.Act.bare (a : Act) : Act := { a with defers := [] }
theorem op_defers {F : Fence} {n : Nat} (hF : Free F n) {P : Program} {o : Oper} {a : Act} {ds : List Deferred} {w : World} {K K' : Act -> World -> Prop} {Q' : Exit -> Act -> World -> Prop} (hd : ∀ c, o.op ≠ .defer c)
  (hK : ∀ a w, K a w -> a.defers = [] /\ K' { a with defers := ds } w) (h : o.wp P a w K (fun _ _ _ => False)) : o.wpIn F n P { a with defers := ds } w K' Q' := by
 refine ⟨fun _ _ => hF.fn _, ?_⟩;have hs : o.semAt F.round (Act.eval { a with defers := ds }) = execOp a.eval o := by
  have he : Act.eval { a with defers := ds } = a.eval := by funext x; cases x <;> rfl
  rw [he]; exact Oper.semAt_eq _ _ _ hd
 rw [hs];have hput : ∀ v, Act.put { a with defers := ds } o.dst v = { a.put o.dst v with defers := ds } := fun v => by cases o.dst <;> rfl
 unfold Oper.wp at h;generalize (execOp a.eval o).run P w = r at *;cases r with
 | ok x w' =>
  cases x <;> simp only [Oper.upon, Oper.uponIn] at h ⊢
  case value v => rw [hput]; exact (hK _ _ h).2
  case skip => rw [hput]; exact (hK _ _ h).2
  case defer d =>
   have h2 := (hK _ _ h).1;cases ho : o.dst <;> simp [Act.put, ho] at h2
  case enter f args =>
   refine ⟨fun hh => absurd hh (by rw [hF.depth]; exact Bool.false_ne_true), (hF.calls h).mono fun e w'' he => ?_⟩;cases e with
   | returned v => simp only at he ⊢; rw [hput]; exact (hK _ _ he).2
   | panicked ch => exact he.elim
   | outgrown => obtain ⟨_, _, hh⟩ := he; exact hh.elim
  case row row args =>
   refine ⟨fun hh => absurd hh (by rw [hF.depth]; exact Bool.false_ne_true), (hF.rows h).mono fun v w'' he => ?_⟩;rw [hput]; exact (hK _ _ he).2
 | halt x w' => cases x <;> simp only [Oper.upon, Oper.uponIn] at h ⊢ <;> exact h.elim

theorem zjy {F : Fence} {n : Nat} (hF : Free F n) {ds : List Deferred} {P : Program} {ty : TypeId -> Option TI} (hc : Ctx P ty) {orc : List (Nat × Res)} {gs : List (Option Tmp)} {ops : Array Oper} (hgs : ∀ j : Nat, gs[j]? = (ops[j]?).map fun o : Oper => o.dst) {base nxt : Nat} {Q : Exit -> Act -> World -> Prop} {K : St -> Prop} {g0 : G} {w0 : World}
  {l2 : List Oper} {en n0 : Nat} (hQ : ∀ s g a w, s.nxt = nxt -> s.n = n0 -> Rel (· < base + en) g s.get s.obj s.n a w -> zan g0 w0 g w -> K s -> wpListIn F n P ops Q l2 { a with defers := ds } w) :
  ∀ (l : List Oper) (i : Nat) (s : St) (g : G) (a : Act) (w : World), zdx l = true -> i + l.length = en -> s.nxt = nxt -> s.n = n0 -> Rel (· < base + i) g s.get s.obj s.n a w -> zan g0 w0 g w -> wpT ty P orc gs base i l s K -> wpListIn F n P ops Q (l ++ l2) { a with defers := ds } w
 | [], i, s, g, a, w, _, hle, hnx, hn0, h, hs, hk => hQ s g a w hnx hn0 (by simp at hle; rw [<- hle]; exact h) hs hk
 | o :: rest, i, s, g, a, w, hdf, hle, hnx, hn0, h, hs, hk => by
  simp only [List.length_cons] at hle;have hputd : ∀ v, Act.put { a with defers := ds } o.dst v = { a.put o.dst v with defers := ds } := fun v => by cases o.dst <;> rfl
  have hdo := zpy hdf (o := o) (by simp);have hdr : zdx rest = true := by simp only [zdx, List.all_cons, Bool.and_eq_true] at hdf; exact hdf.2
  have hargs : zj g w (o.op.operands.toList.map s.eval) (o.op.operands.toList.map a.eval) := by
   refine zj.of_get (by simp) fun j av hj => ?_;rw [List.getElem?_map] at hj ⊢;cases hx : o.op.operands.toList[j]? with
   | none => rw [hx] at hj; cases hj
   | some x => rw [hx] at hj; cases hj; exact ⟨a.eval x, rfl, zef h (fun _ => rfl) x⟩
  have relapp : ∀ (e : Eff) (g' : G) (a' : Act) (w' : World), Rel (fun k => k < base + i \/ k = base + i) g' (zgu s.get o.dst e.val) (zcu s.obj e.wr) s.n a' w' -> Rel (· < base + (i + 1)) g' (s.app o.dst e).get (s.app o.dst e).obj (s.app o.dst e).n a' w' := by
   intro e g' a' w' hr;have hn : (s.app o.dst e).n = s.n := by unfold St.app St.put; cases o.dst <;> rfl
   rw [hn];exact ⟨hr.defers, hr.size, fun t => by rw [zos]; exact hr.tmp t, fun id hu => by
    have := hr.used id hu
    show id < base + (i + 1)
    rcases this with hh | hh <;> omega, by
    have : (s.app o.dst e).obj = zcu s.obj e.wr := funext (zor s o.dst e);rw [this]; exact hr.heap⟩
  have hnapp : ∀ e, (s.app o.dst e).nxt = nxt := fun e => by rw [<- hnx]; unfold St.app St.put; cases o.dst <;> rfl
  have hna : ∀ e, (s.app o.dst e).n = s.n := fun e => by unfold St.app St.put; cases o.dst <;> rfl
  have hnput : ∀ v, (s.put o.dst v).nxt = nxt := fun v => by rw [<- hnx]; unfold St.put; cases o.dst <;> rfl
  have hnn : ∀ v, (s.put o.dst v).n = s.n := fun v => by unfold St.put; cases o.dst <;> rfl
  have relput : ∀ (v : AV) (g' : G) (a' : Act) (w' : World) (U : Nat -> Prop), (∀ k, U k -> k < base + (i + 1)) -> Rel U g' (zgu s.get o.dst v) s.obj s.n a' w' -> Rel (· < base + (i + 1)) g' (s.put o.dst v).get (s.put o.dst v).obj (s.put o.dst v).n a' w' := by
   intro v g' a' w' U hU hr;rw [hnn];have := hr.congr (get' := (s.put o.dst v).get) (obj' := (s.put o.dst v).obj) (fun t => St.get_put s o.dst v t) (fun id => zlh s o.dst v id);exact ⟨this.defers, this.size, this.tmp, fun k hk => hU k (this.used k hk), this.heap⟩
  have skipped : ∀ v, (∀ d, o.dst = some d -> d < s.n) -> zh g w v undef -> wpT ty P orc gs base (i + 1) rest (s.put o.dst v) K -> wpListIn F n P ops Q (rest ++ l2) { a.put o.dst undef with defers := ds } w := by
   intro v hd hv hrest;have hr := zcf (U' := (· < base + i)) (dst := o.dst) (v := v) (u := undef) h h.heap ⟨fun b hb => ⟨hb, rfl⟩, fun _ hx => hx, fun _ _ => .inl rfl⟩ (fun k hk => h.used k hk) hv hd;exact zjy hF (nxt := nxt) hc hgs hQ rest (i + 1) _ g _ w hdr (by omega) (hnput v) ((hnn v).trans hn0) (relput v g _ w _ (fun k hk => by omega) hr) hs hrest
  simp only [List.cons_append, wpListIn];unfold wpT at hk;split at hk
  ·rename_i hg;have hw : Region.wanted o (yielded ops a.tmps) = true := by simp [Region.wanted, hg]
   rw [if_pos hw];unfold doOp at hk;split at hk
   ·rename_i e he;obtain ⟨hob, hd, hrest⟩ := hk;exact op_defers hF hdo (fun _ _ hk => hk) <| zfo hc (K := fun a' w' => a'.defers = [] /\ wpListIn F n P ops Q (rest ++ l2) { a' with defers := ds } w') (Q := fun _ _ _ => False) (nid := base + i) h (by simp) hargs he hob (fun d hd' => by rw [hd'] at hd; exact hd) fun g' a' w' hr hst =>
     ⟨hr.defers, zjy hF (nxt := nxt) hc hgs hQ rest (i + 1) (s.app o.dst e) g' a' w' hdr (by omega) (hnapp e) ((hna e).trans hn0) (relapp e g' a' w' hr) (hs.trans hst) hrest⟩
   ·exact hk.elim
  ·rename_i j want hg;split at hk
   ·rename_i x hgv;have hw := zjo (a := a) hgs h.tmp hg hgv;rw [hw];obtain ⟨hd, hk⟩ := hk;have hd' : ∀ d, o.dst = some d -> d < s.n := fun d hd' => by rw [hd'] at hd; exact hd
    split at hk
    ·rename_i e he;split at hk
     ·rename_i hwr;obtain ⟨hexec, hrest⟩ := hk;cases x with
      | true =>
       rw [if_pos rfl];obtain ⟨hso, hob⟩ := hexec rfl;refine op_defers hF hdo (fun _ _ hk => hk) <| zfo hc (K := fun a' w' => a'.defers = [] /\ wpListIn F n P ops Q (rest ++ l2) { a' with defers := ds } w') (Q := fun _ _ _ => False) (nid := base + i) h (by simp) (zdu hargs hso) he hob hd' fun g' a' w' hr hst => ?_
       refine ⟨hr.defers, ?_⟩;rw [hwr] at hr;exact zjy hF (nxt := nxt) hc hgs hQ rest (i + 1) _ g' a' w' hdr (by omega) (hnput _) ((hnn _).trans hn0) (relput _ g' a' w' _ (fun k hk => by rcases hk with hh | hh <;> omega) hr.opt) (hs.trans hst) hrest
      | false =>
       rw [if_neg (by simp)];exact ⟨fun _ _ => hF.fn _, by rw [hputd]; exact skipped _ hd' (by simp [zh]) hrest⟩
     ·obtain ⟨rfl, hso, hob, hrest⟩ := hk;rw [if_pos rfl];exact op_defers hF hdo (fun _ _ hk => hk) <| zfo hc (K := fun a' w' => a'.defers = [] /\ wpListIn F n P ops Q (rest ++ l2) { a' with defers := ds } w') (Q := fun _ _ _ => False) (nid := base + i) h (by simp) (zdu hargs hso) he hob hd' fun g' a' w' hr hst =>
       ⟨hr.defers, zjy hF (nxt := nxt) hc hgs hQ rest (i + 1) (s.app o.dst e) g' a' w' hdr (by omega) (hnapp e) ((hna e).trans hn0) (relapp e g' a' w' hr) (hs.trans hst) hrest⟩
    ·obtain ⟨rfl, hrest⟩ := hk;rw [if_neg (by simp)];exact ⟨fun _ _ => hF.fn _, by rw [hputd]; exact skipped _ hd' (by simp [zh]) hrest⟩
   ·exact hk.elim




def Mk (w0 : World) (b : Bool) (a : Act) (g : G) (w : World) : Prop :=
 (b = false /\ a.defers = []) \/ (b = true /\ ∃ D, a.defers = [{ target := .collected D, args := #[] }] /\ w0.heap.size <= D /\ D < w.heap.size /\ w.heap[D]? = some (.deferred (some [])) /\ ¬ g.foot D)
theorem Mk.step {w0 : World} {b : Bool} {a a' : Act} {g g' : G} {w w' : World} (h : Mk w0 b a g w) (st : zan g w g' w') (hd : a'.defers = a.defers) : Mk w0 b a' g' w' := by
 rcases h with ⟨h1, h2⟩ | ⟨h1, D, h2, h3, h4, h5, h6⟩
 ·exact .inl ⟨h1, hd.trans h2⟩
 ·exact .inr ⟨h1, D, hd.trans h2, h3, Nat.lt_of_lt_of_le h4 st.size, (st.block D h4 fun h => h6 (.inl h)).trans h5, st.foot h4 h6⟩

section
variable {P : Program} {g0 : G} {w0 : World} {K : Bool × St -> Prop} {Q : Exit -> Bool × St -> Prop} {s : Bool × St} {id i : Nat}
theorem bare_eq {a : Act} (h : a.defers = []) : a.bare = a := by cases a; simp at h; subst h; rfl

end

end Go.Abs

namespace Go.Abs
variable [Flag]
open Go.RowKit

def JRound2 (m l : Nat) (P : Program) (J : Nat -> G -> World -> Prop) (xs : List (D × D)) : Prop :=
 ∀ (k : Nat) (g : G) (W : World) (x y : D) (v u : Value), xs[k]? = some (x, y) -> J k g W -> zr (fun _ => False) W x v -> zr (fun _ => False) W y u ->
  YieldAt Fence.wide m P l #[v, u] W fun e W' => e = .returned (.bool true) /\ ∃ g', J (k + 1) g' W' /\ Rnd l g W g' W'

theorem awi_yield2 {l : Nat} {W0 : World} {J : Nat -> G -> World -> Prop} {P : Program} {ty : TypeId -> Option TI} (hc : Ctx P ty) (hJ : JOk l W0 J) {m : Nat} {xs : List (D × D)} (hR : JRound2 m l P J xs) {id : Nat} {ls pre post : List Oper} {o : Oper} (hl : ls = pre ++ o :: post) (hg : o.guard = none) {cl : Call} {fo x y : Operand} (ho : o.op = .call cl) (hcal : cl.callee = .value fo) (hargs : cl.args = #[x, y]) (d : Tmp) (hdst : o.dst = some d) (hd : zdx ls = true) {s : Nat × St} {dx dy : D} (hx : xs[s.1]? = some (dx, dy)) (hfree : dx.free = true) (hfree2 : dy.free = true) {Q : Exit -> Nat × St -> Prop}
  (h : ∀ K : St -> Prop, (∀ s', Q .normal (s.1 + 1, s') -> K s') -> wpT ty P [] (ls.map (·.dst)) s.2.nxt 0 pre { s.2 with nxt := s.2.nxt + ls.length } fun s1 => s1.eval fo = .d (.fn (.yield l) []) /\ s1.eval x = .d dx /\ s1.eval y = .d dy /\ d < s1.n /\ wpT ty P [] (ls.map (·.dst)) s.2.nxt (pre.length + 1) post (s1.put (some d) (.d (.bool true))) K) :
  AWi l W0 J P (.region id ls.toArray false) Q s := by
 intro g1 a w hr hi;rw [<- wpIn_wide (n := m + 1)];refine wpIn_region_lit ?_;have hgs : ∀ j : Nat, (ls.map (·.dst))[j]? = (ls.toArray[j]?).map fun o : Oper => o.dst := by intro j; simp
 have hlen : ls.length = pre.length + 1 + post.length := by rw [hl]; simp; omega
 have hd1 : zdx pre = true := by rw [hl] at hd; simp only [zdx, List.all_append, Bool.and_eq_true] at hd; exact hd.1
 have hd2 : zdx post = true := by rw [hl] at hd; simp only [zdx, List.all_append, List.all_cons, Bool.and_eq_true] at hd; exact hd.2.2
 have h0 := h (fun s' => Q .normal (s.1 + 1, s')) (fun _ hq => hq);have key := zgo (free_wide (m + 1)) (P := P) hc (orc := []) (gs := ls.map (·.dst)) (ops := ls.toArray) hgs (base := s.2.nxt) (nxt := s.2.nxt + ls.length)
  (Q := fun e a' w' => ∃ s' g1', zcs s'.2 g1' a' w' /\ IInv l W0 J s'.1 g1' w' /\ Q e s') (g0 := g1) (w0 := w) (l2 := o :: post) (en := pre.length) (n0 := s.2.n)
  (K := fun s1 => s1.eval fo = .d (.fn (.yield l) []) /\ s1.eval x = .d dx /\ s1.eval y = .d dy /\ d < s1.n /\ wpT ty P [] (ls.map (·.dst)) s.2.nxt (pre.length + 1) post (s1.put (some d) (.d (.bool true))) fun s' => Q .normal (s.1 + 1, s')) ?_ pre 0 { s.2 with nxt := s.2.nxt + ls.length } g1 a w hd1 (by simp) rfl rfl ⟨hr.defers, hr.size, hr.tmp, fun id hu => by have := hr.used id hu; simpa using this, hr.heap⟩ (zan.refl g1 w) h0
 ·rw [<- hl] at key; exact key
 ·intro s1 g2 a1 w1 hnx hn0 hrel hst hk;obtain ⟨e1, e2, e2', e3, hk⟩ := hk;have hi1 := hi.step hJ hst;obtain ⟨g, hj, hs, how, hro⟩ := hi1;have hfo := zef hrel (s := s1) (fun _ => rfl) fo;rw [e1] at hfo;simp only [zh, zr] at hfo;obtain ⟨vs, hfv, hvs⟩ := hfo;have hvs0 : vs = [] := by
   cases vs with
   | nil => rfl
   | cons v vs => simp [zq] at hvs
  subst hvs0;have hxv := zef hrel (s := s1) (fun _ => rfl) x;rw [e2] at hxv;simp only [zh] at hxv;have hyv := zef hrel (s := s1) (fun _ => rfl) y;rw [e2'] at hyv;simp only [zh] at hyv;obtain ⟨fn, tmps, assign, body, hy, hround⟩ := hR s.1 g w1 dx dy (a1.eval x) (a1.eval y) hx hj (zr.anywhere _ _ hfree hxv) (zr.anywhere _ _ hfree2 hyv);simp only [wpListIn];have hw : Region.wanted o (yielded ls.toArray a1.tmps) = true := by simp [Region.wanted, hg]
  rw [if_pos hw];refine ⟨fun _ _ => trivial, ?_⟩;have hrun : (o.semAt Fence.wide.round a1.eval).run P w1 = .ok (.round l fn tmps assign body) w1 := by
   have hsm : o.semAt Fence.wide.round a1.eval = execOp a1.eval o := Oper.semAt_eq _ _ _ (fun c hc => by rw [ho] at hc; cases hc);rw [hsm];unfold execOp;simp only [ho, resolve, hcal, Deferred.ofValue, hfv, Sem.run_bind, Sem.run_pure, Result.andThen_ok, invoke, hargs];simpa using hy
  rw [hrun, Oper.uponIn_round];refine ⟨fun hh => absurd hh (by simp [Fence.wide]), ?_⟩;refine RoundIn.mono (R := fun e W' => e = .returned (.bool true) /\ ∃ g', J (s.1 + 1) g' W' /\ Rnd l g w1 g' W') hround ?_;rintro e w2 ⟨rfl, g', hj', hrnd⟩;have hf1 : ∀ b, g2.foot b -> b < w1.heap.size := fun b hb => hrel.heap.foot_lt hb;obtain ⟨hi2, hfix⟩ := IInv.rnd hJ hf1 hs how hro hrnd hj';have hrel2 := hrel.stay hrnd.size hfix;have hput := zcf (U' := (· < s.2.nxt + (pre.length + 1))) (dst := some d) (v := .d (.bool true)) (u := .bool true) hrel2 hrel2.heap ⟨fun b hb => ⟨hb, rfl⟩, fun _ hx => hx, fun _ _ => .inl rfl⟩ (fun k hk => by have := hrel2.used k hk; show k < _; omega) (by simp [zh, zr]) (fun d' hd' => by cases hd'; exact e3);have hput2 := hput.congr (get' := (s1.put (some d) (.d (.bool true))).get) (obj' := (s1.put (some d) (.d (.bool true))).obj) (fun t => St.get_put s1 (some d) _ t) (fun id => zlh s1 (some d) _ id);have fin := zgo (free_wide (m + 1)) (P := P) hc (orc := []) (gs := ls.map (·.dst)) (ops := ls.toArray) hgs (base := s.2.nxt) (nxt := s.2.nxt + ls.length)
   (Q := fun e a' w' => ∃ s' g1', zcs s'.2 g1' a' w' /\ IInv l W0 J s'.1 g1' w' /\ Q e s') (g0 := g2) (w0 := w2) (l2 := []) (en := pre.length + 1 + post.length) (n0 := s.2.n)
   (K := fun s' => Q .normal (s.1 + 1, s')) (fun s3 g3 a3 w3 hnx3 hn3 hrel3 hst3 hk3 => ⟨(s.1 + 1, s3), g3, ⟨hrel3.defers, hrel3.size, hrel3.tmp, fun id hu => by have := hrel3.used id hu; show id < s3.nxt; omega, hrel3.heap⟩, hi2.step hJ hst3, hk3⟩)
   post (pre.length + 1) (s1.put (some d) (.d (.bool true))) g2 (a1.put (some d) (.bool true)) w2 hd2 rfl hnx hn0 hput2 (zan.refl g2 w2) hk
  rw [List.append_nil] at fin;rw [hdst];exact fin

def IterOk2 (P : Program) (f : FuncId) (caps : List D) (xs : List (D × D)) : Prop :=
 zjg P f /\ ∀ (m l : Nat) (W0 : World) (J : Nat -> G -> World -> Prop) (g0 : G) (ro : Nat -> Prop) (vs : List Value), JOk l W0 J -> JRound2 m l P J xs -> J 0 g0 W0 -> zq ro W0 caps vs -> (∀ b, ro b -> b < W0.heap.size /\ b ≠ l /\ ¬ g0.owns b) ->
  Calls P f (.func (.yield l) #[] #[] :: vs).toArray W0 fun e W' => (∃ v, e = .returned v) /\ ∃ g', J xs.length g' W'

theorem iter2_of_awi {P : Program} {f : FuncId} {fn : Func} {c : Code} {caps : List D} {xs : List (D × D)} (hf : P.funcs[f]? = some fn) (hb : fn.body = some c) (hname : (fn.name == "runtime.NumGoroutine") = false) (hn : caps.length + 1 <= fn.ntmps) (hres : fn.results = #[])
  (h : ∀ (m l : Nat) (W0 : World) (J : Nat -> G -> World -> Prop), JOk l W0 J -> JRound2 m l P J xs -> AWi l W0 J P c (fun e s' => (e = .normal \/ e = .ret) /\ s'.1 = xs.length) (0, start fn.ntmps (.fn (.yield l) [] :: caps))) : IterOk2 P f caps xs := by
 refine ⟨⟨fn, hf, hname, by rw [hb]; rfl⟩, fun m l W0 J g0 ro vs hJ hR hj0 hd hro => ?_⟩;have hd2 : zq ro W0 (.fn (.yield l) [] :: caps) (.func (.yield l) #[] #[] :: vs) := by
  simp only [zq, zr];exact ⟨_, vs, rfl, ⟨[], rfl, rfl⟩, hd⟩
 have hst := zrb (fun b hb => (hro b hb).1) hd2 (n := fn.ntmps) (by simpa using hn);refine calls_of_wp hf hb (wp_mono (h m l W0 J hJ hR _ _ W0 hst ⟨g0, hj0, ⟨?_, ?_⟩, ?_, ?_⟩) fun e a' w' ⟨s', g', h1, ⟨g, hj, _⟩, h3, h4⟩ => ?_)
 ·rintro b ⟨_, _, hh, _⟩; cases hh
 ·intro b ho hr; exact (hro b hr).2.2 ho
 ·rintro b ⟨_, _, hh, _⟩; cases hh
 ·intro hr; exact (hro l hr).2.1 rfl
 ·have hj' : J xs.length g w' := by rw [<- h4]; exact hj
  have fin : a'.defers = [] /\ ∃ v, (results fn a'.tmps).run P w' = .ok v w' /\ (∃ v', Ending.returned v = .returned v') /\ ∃ g', J xs.length g' w' := ⟨h1.defers, _, results_none hres _ _ _, ⟨_, rfl⟩, g, hj'⟩
  rcases h3 with rfl | rfl
  ·exact fin
  ·exact fin

def Keeps (n : Nat) (tm : List (Nat × AV)) (obj : Nat -> Option Ob) : Prop :=
 ∀ x, match find tm x with
  | none => True
  | some .any => True
  | some (.d _) => True
  | some (.pin id L) => n <= x
  | some (.ptr id i j) => ∃ pn L, find tm pn = some (.pin id L) /\ (obj id).isSome = true
  | _ => False
theorem keep_tmps {n nx0 nx : Nat} {tm : List (Nat × AV)} {hp0 hp' : List (Nat × Option Ob)} {g0 g' : G} {tmps tmps' : Array Value} {w0 W : World} (hk : Keeps n tm (St.obj ⟨n, tm, hp0, nx0⟩))
  (h0 : zcs ⟨n, tm, hp0, nx0⟩ g0 ⟨tmps, []⟩ w0) (h : zcs ⟨n, tm, hp', nx⟩ g' ⟨tmps', []⟩ W) (st : zan g0 w0 g' W) : zcs ⟨n, tm, hp', nx⟩ g' ⟨tmps, []⟩ W := by
 refine ⟨rfl, h0.size, fun x => ?_, h.used, h.heap⟩;have k := hk x;have a := h0.tmp x;have b := h.tmp x;simp only [St.get] at a b ⊢;cases hx : find tm x with
 | none => simp [zh]
 | some v =>
  rw [hx] at k a b;cases v <;> simp only [Option.getD_some] at a b ⊢ <;> simp only at k
  case any => simp [zh]
  case d y =>
   simp only [zh] at a ⊢;refine zr.mono (fun c hc => ⟨st.ro c hc, st.block c (h0.heap.ro c hc) fun ho => ?_⟩) y _ a;obtain ⟨id, L, hL, hv, rfl⟩ := ho;exact ((h0.heap.live id L hL).2 hv).2 hc
  case pin id L => simp only [zh] at b ⊢; exact b
  case ptr id i j =>
   obtain ⟨pn, L, hpn, hob⟩ := k;have p0 := h0.tmp pn;have p1 := h.tmp pn;simp only [St.get, hpn, Option.getD_some, zh] at p0 p1;simp only [zh] at a ⊢;refine ⟨⟨p1.1, a.1.2⟩, fun M hM => ?_⟩;have hML := p1.2 M hM;subst hML;obtain ⟨o, ho⟩ := Option.isSome_iff_exists.1 hob;obtain ⟨L0, hL0, _⟩ := h0.heap.own id o ho;have := p0.2 L0 hL0;subst this;exact a.2 L0 hL0

def zow (Lf : Nat -> Loc) (pins : List (Nat × Nat)) : List (Nat × AV) := pins.map fun q => (q.1, .pin q.2 (Lf q.2))
theorem pinsT_rel {s : St} {g : G} {a : Act} {w : World} (hr : zcs s g a w) (Lf : Nat -> Loc) (hL : ∀ id L, g.loc id = some L -> L = Lf id) : ∀ (pins : List (Nat × Nat)), (∀ q ∈ pins, (s.obj q.2).isSome = true) -> zcs { s with tm := zow Lf pins ++ s.tm } g a w
 | [], _ => hr
 | q :: pins, h => by
  have ih := pinsT_rel hr Lf hL pins fun q hq => h q (by simp [hq]);refine ⟨ih.defers, ih.size, fun x => ?_, ih.used, ih.heap⟩;by_cases e : q.1 = x
  ·subst e;obtain ⟨o, ho⟩ := Option.isSome_iff_exists.1 (h q (by simp));obtain ⟨L, hL1, _⟩ := hr.heap.own q.2 o ho;have hg : St.get { s with tm := zow Lf (q :: pins) ++ s.tm } q.1 = .pin q.2 (Lf q.2) := by simp [St.get, zow, find]
   rw [hg];simp only [zh];exact ⟨(hr.heap.live q.2 L hL1).1, fun M hM => hL _ M hM⟩
  ·have hg : St.get { s with tm := zow Lf (q :: pins) ++ s.tm } x = St.get { s with tm := zow Lf pins ++ s.tm } x := by simp [St.get, zow, find, e]
   rw [hg];exact ih.tmp x

theorem range_sound2 {m : Nat} {P : Program} {tmps : Array Value} {df : List Deferred} {w : World} {s : St} {g0 : G} (hr : zcs s g0 ⟨tmps, []⟩ w) {go : Operand} {f : FuncId} {caps : List D} {xs : List (D × D)} (hgv : s.eval go = .d (.fn (.func f) caps)) (hit : IterOk2 P f caps xs)
  {p1 p2 nx : Nat} (hp1 : p1 < s.n) (hp2 : p2 < s.n) (pins : List (Nat × Nat)) (hpins : ∀ q ∈ pins, (s.obj q.2).isSome = true) (tm : (Nat -> Loc) -> List (Nat × AV)) (I : Nat -> List (Nat × Option Ob))
  (hkeep : ∀ Lf, Keeps s.n (tm Lf) (St.obj ⟨s.n, tm Lf, I 0, nx⟩))
  (hstart : ∀ Lf, zeh { s with tm := zow Lf pins ++ s.tm } ⟨s.n, tm Lf, I 0, nx⟩) {assign body : Code}
  (hbody : ∀ Lf k x y, xs[k]? = some (x, y) -> AWr m P assign (fun e s1 => e = .normal /\ AWr m P body (fun e s2 => e = .normal /\ zeh s2 ⟨s.n, tm Lf, I (k + 1), nx⟩) s1) ⟨s.n, (p2, .d y) :: (p1, .d x) :: tm Lf, I k, nx⟩)
  {Q : Exit -> Act -> World -> Prop}
  (hdone : ∀ g' W D Lf, zcs ⟨s.n, tm Lf, I xs.length, nx⟩ g' ⟨tmps, []⟩ W -> zan g0 w g' W -> w.heap.size <= D -> W.heap[D]? = some (.deferred (some [])) -> ¬ g'.foot D -> Q .normal ⟨tmps, { target := .collected D, args := #[] } :: df⟩ W) :
  (Code.rangeFunc go #[p1, p2] assign body).wpIn Fence.wide (m + 2) P Q ⟨tmps, df⟩ w := by
 have hval := zef hr (s := s) (fun _ => rfl) go;rw [hgv] at hval;simp only [zh, zr] at hval;obtain ⟨vs, hgo, hcaps⟩ := hval;have hgo : Act.eval ⟨tmps, df⟩ go = .func (.func f) #[] vs.toArray := by rw [<- hgo]; cases go <;> rfl
 obtain ⟨Lf, hLf⟩ : ∃ Lf : Nat -> Loc, ∀ id L, g0.loc id = some L -> L = Lf id := ⟨fun id => (g0.loc id).getD ⟨0, 0, 0, false, false⟩, fun id L h => by simp [h]⟩
 have hr1 := pinsT_rel hr Lf hLf pins hpins;obtain ⟨g1, hS0, hst0⟩ := hstart Lf g0 _ w hr1;have hstart := True.intro;obtain ⟨fnf, hfn, hname, hbodyf⟩ := hit.1;have eg : ∀ args w, (callFunc f args).run P w = .ok (.enter f args) w := fun args w => by
  simp only [callFunc, Sem.run_bind, run_program, Result.andThen_ok, hfn, hname, hbodyf, Bool.false_eq_true, if_false, Sem.run_pure]
 refine wpIn_rangeFunc ?_;intro fn hfn';rw [Fence.wide_round];obtain ⟨rec, hrec⟩ : ∃ rec : LoopState -> Option Code -> Loop, rec = fun st pe => { state := st, pending := pe, fn, tmps := tmps, params := #[p1, p2], assign, body, defers := w.heap.size } := ⟨_, rfl⟩
 obtain ⟨W1, hW1⟩ : ∃ W1, (w.alloc (.deferred (some []))).alloc (.loop (rec .ready none)) = W1 := ⟨_, rfl⟩
 have hsz1 : W1.heap.size = w.heap.size + 2 := by rw [<- hW1]; simp
 have hL1 : W1.heap[w.heap.size + 1]? = some (.loop (rec .ready none)) := by
  rw [<- hW1]; have := World.alloc_heap_new (w.alloc (.deferred (some []))) (.loop (rec .ready none)); rwa [World.size_alloc] at this
 have hK1 : W1.heap[w.heap.size]? = some (.deferred (some [])) := by
  rw [<- hW1]
  show ((w.alloc (.deferred (some []))).heap.push _)[w.heap.size]? = _
  rw [Array.getElem?_push_lt (by simp), <- Array.getElem?_eq_getElem (by simp)];exact World.alloc_heap_new w _
 have hst1 : zan g1 w g1 W1 := by rw [<- hW1]; exact ((zan.refl g1 w).allocB _).allocB _
 have hlow : ∀ b, b < w.heap.size -> W1.heap[b]? = w.heap[b]? := fun b hb => by
  have h := (zan.refl ⟨fun _ => False, fun _ => none, fun _ => False⟩ w).allocB (.deferred (some []));have h2 := (h.allocB (.loop (rec .ready none))).block b hb (by rintro ⟨_, _, hh, _⟩; cases hh);rw [hW1] at h2; exact h2
 refine ⟨w.heap.size + 1, [{ target := .collected w.heap.size, args := #[] }], W1, { target := .fn (.func f) vs.toArray, args := #[.func (.yield (w.heap.size + 1)) #[] #[]] }, W1, f,
  #[.func (.yield (w.heap.size + 1)) #[] #[]] ++ vs.toArray, W1, ?_, ?_, fun _ _ => trivial, ?_, fun h => absurd h (by simp [Fence.wide]), ?_⟩
 ·rw [<- hW1, hrec]; exact run_enterLoop_outer _ _ _ _ _
 ·simp only [resolve, hgo];simp [go_sem]
 ·simp [invoke, go_sem, eg]
 ·let J : Nat -> G -> World -> Prop := fun k g W => zcs ⟨s.n, tm Lf, I k, nx⟩ g ⟨tmps, []⟩ W /\ zan g1 w g W /\ W.heap[w.heap.size + 1]? = some (.loop (rec .ready none)) /\ W.heap[w.heap.size]? = some (.deferred (some [])) /\ ¬ g.foot (w.heap.size + 1) /\ ¬ g.foot w.heap.size
  have hfoot0 : ∀ b, g1.foot b -> b < w.heap.size := fun b hb => hS0.heap.foot_lt hb;have hJ0 : J 0 g1 W1 := ⟨hS0.stay (by omega) fun b hb => hlow b (hfoot0 b hb), hst1, hL1, hK1, fun h => by have := hfoot0 _ h; omega, fun h => by have := hfoot0 _ h; omega⟩
  have hJ : JOk (w.heap.size + 1) W1 J := by
   refine ⟨by omega, fun k g W ⟨h1, h2, h3, h4, h5, h6⟩ => ⟨?_, fun b hb => h1.heap.foot_lt hb⟩, fun k g W W' ⟨h1, h2, h3, h4, h5, h6⟩ k1 k2 k3 k4 k5 => ⟨h1.stay k4 fun b hb => k5 b (.inr hb), ?_, (k5 _ (.inl (by omega))).trans h3, (k5 _ (.inl (by omega))).trans h4, h5, h6⟩⟩
   ·have := (Array.getElem?_eq_some_iff.1 h3).1; omega
   ·exact ⟨k1.trans h2.os, ⟨k2.1.trans h2.tape.1, le_or h2.tape.2 k2.2⟩, k3.trans h2.output, Nat.le_trans h2.size k4, fun b b1 b2 => (k5 b (.inl (by omega))).trans (h2.block b b1 b2), h2.own, h2.ro, h2.ro'⟩
  have hR : JRound2 m (w.heap.size + 1) P J xs := by
   rintro k g W x y v u hx ⟨hrel, hst, hl, hk, hfl, hfk⟩ hxv hyu;have hlt : w.heap.size + 1 < W.heap.size := (Array.getElem?_eq_some_iff.1 hl).1;have hy := run_yield (P := P) (args := #[v, u]) hl (by rw [hrec]; rfl);rw [hrec] at hy;refine ⟨fn, _, assign, body, hy, roundIn_of_wpIn trivial ?_⟩;have hput := zcf (U' := (· < nx)) (dst := some p1) (v := .d x) (u := v) hrel hrel.heap ⟨fun b hb => ⟨hb, rfl⟩, fun _ hx => hx, fun _ _ => .inl rfl⟩ (fun k hk => hrel.used k hk) (by simp only [zh]; exact zr.mono (fun b hb => hb.elim) x v hxv) (fun d hd => by cases hd; exact hp1);have hput2 := zcf (U' := (· < nx)) (dst := some p2) (v := .d y) (u := u) hput hput.heap ⟨fun b hb => ⟨hb, rfl⟩, fun _ hx => hx, fun _ _ => .inl rfl⟩ (fun k hk => hput.used k hk) (by simp only [zh]; exact zr.mono (fun b hb => hb.elim) y u hyu) (fun d hd => by cases hd; exact hp2);have hstart2 : zcs ⟨s.n, (p2, .d y) :: (p1, .d x) :: tm Lf, I k, nx⟩ g { tmps := (tmps.setIfInBounds p1 v).setIfInBounds p2 u, defers := [] } W := by
    have e : Act.put (Act.put ⟨tmps, []⟩ (some p1) v) (some p2) u = { tmps := (tmps.setIfInBounds p1 v).setIfInBounds p2 u, defers := [] } := by simp [Act.put]
    rw [e] at hput2;exact hput2.congr (fun x' => by
     simp only [zgu, St.get, find, Option.some.injEq];by_cases e2 : p2 = x'
     ·simp [e2]
     ·by_cases e1 : p1 = x'
      ·simp [e1, e2]
      ·simp [e1, e2]) (fun _ => rfl)
   refine wpIn_mono (hbody Lf k x y hx _ g _ W (by simpa using hstart2)) ?_;rintro e a1 w1 ⟨s1, g2, r1, st1, rfl, hb⟩;have hl1 : w1.heap[w.heap.size + 1]? = some (.loop (rec .ready none)) := (st1.block _ hlt fun h => hfl (.inl h)).trans hl;have hk1 : w1.heap[w.heap.size]? = some (.deferred (some [])) := (st1.block _ (by omega) fun h => hfk (.inl h)).trans hk;have hfl1 := st1.foot hlt hfl;have hfk1 := st1.foot (b := w.heap.size) (by omega) hfk;refine ⟨_, run_beginRound hl1 (by rw [hrec]), ?_⟩;have hsz1' : w.heap.size + 1 < w1.heap.size := (Array.getElem?_eq_some_iff.1 hl1).1;have hl2 : (w1.putObj (w.heap.size + 1) (.loop { rec .ready none with state := .busy })).heap[w.heap.size + 1]? = some (.loop { rec .ready none with state := .busy }) := World.putObj_heap_same hsz1';have hk2 : (w1.putObj (w.heap.size + 1) (.loop { rec .ready none with state := .busy })).heap[w.heap.size]? = some (.deferred (some [])) := (World.putObj_heap_other (by omega)).trans hk1;have r1' : zcs s1 g2 a1 (w1.putObj (w.heap.size + 1) (.loop { rec .ready none with state := .busy })) := r1.put _ hfl1;have stA : zan g1 w g2 (w1.putObj (w.heap.size + 1) (.loop { rec .ready none with state := .busy })) := (hst.trans st1).put _ (by omega);have rnA : Rnd (w.heap.size + 1) g W g2 (w1.putObj (w.heap.size + 1) (.loop { rec .ready none with state := .busy })) := (st1.rnd _).put _;generalize hw2 : w1.putObj (w.heap.size + 1) (.loop { rec .ready none with state := .busy }) = w2 at *;have hsz2 : w.heap.size + 1 < w2.heap.size := (Array.getElem?_eq_some_iff.1 hl2).1;refine wpIn_mono (hb _ g2 a1 w2 r1') ?_;rintro e a2 w3 ⟨s2, g3, r2, st2, rfl, hweak⟩;obtain ⟨g4, r3, st3⟩ := hweak g3 a2 w3 r2;have hl3 : w3.heap[w.heap.size + 1]? = some (.loop { rec .ready none with state := .busy }) := (st2.block _ hsz2 fun h => hfl1 (.inl h)).trans hl2;have hk3 : w3.heap[w.heap.size]? = some (.deferred (some [])) := (st2.block _ (by omega) fun h => hfk1 (.inl h)).trans hk2;have hsz3 : w.heap.size + 1 < w3.heap.size := (Array.getElem?_eq_some_iff.1 hl3).1;have hfl4 := st3.foot hsz3 (st2.foot hsz2 hfl1);have hfk4 := st3.foot (b := w.heap.size) (by omega) (st2.foot (b := w.heap.size) (by omega) hfk1);have hend := run_endRound (P := P) none hl3;rw [hrec] at hend;have a2d : a2 = ⟨a2.tmps, []⟩ := by have := r3.defers; cases a2; simp at this; subst this; rfl
   rw [a2d] at r3;refine ⟨_, _, hend, rfl, g4, ⟨?_, ?_, ?_, ?_, hfl4, hfk4⟩, ?_⟩
   ·exact keep_tmps (hkeep Lf) hS0 (r3.put _ hfl4) ((stA.trans (st2.trans st3)).put _ (by omega))
   ·exact (stA.trans (st2.trans st3)).put _ (by omega)
   ·rw [World.putObj_heap_same hsz3, hrec]; rfl
   ·rw [World.putObj_heap_other (by omega)]; exact hk3
   ·exact (rnA.step (st2.trans st3)).put _
  have hcaps1 : zq g1.ro W1 caps vs := zq.mono (fun b hb => ⟨hst0.ro b hb, by
   exact hlow b (hr.heap.ro b hb)⟩) caps vs hcaps
  have hcall := hit.2 m (w.heap.size + 1) W1 J g1 g1.ro vs hJ hR hJ0 hcaps1 (fun b hb => ⟨by have := hfoot0 b (.inr hb); omega, by have := hfoot0 b (.inr hb); omega, fun ⟨x, M, hx, hvx, hbx⟩ => by
   subst hbx; exact ((hS0.heap.live x M hx).2 hvx).2 hb⟩)
  have hargs : (Value.func (.yield (w.heap.size + 1)) #[] #[] :: vs).toArray = #[.func (.yield (w.heap.size + 1)) #[] #[]] ++ vs.toArray := by simp
  rw [hargs] at hcall;refine (callsIn_wide.2 hcall).mono ?_;rintro e W2 ⟨⟨v, rfl⟩, g', h1, h2, h3, h4, h5, h6⟩;refine ⟨none, _, by have := run_endLoop (P := P) h3 (by rw [hrec]; simp); rw [hrec] at this; exact this, ?_⟩;refine hdone g' _ w.heap.size Lf (h1.put _ h5) ((hst0.trans h2).put _ (by omega)) (Nat.le_refl _) ?_ h6;rw [World.putObj_heap_other (by omega)]; exact h4

def Mks (w0 : World) (a : Act) (g : G) (w : World) : Prop :=
 ∃ Ds : List Nat, a.defers = Ds.map (fun D => ({ target := .collected D, args := #[] } : Deferred)) /\ Ds.Nodup /\ ∀ D ∈ Ds, w0.heap.size <= D /\ D < w.heap.size /\ w.heap[D]? = some (.deferred (some [])) /\ ¬ g.foot D
theorem Mks.step {w0 : World} {a a' : Act} {g g' : G} {w w' : World} (h : Mks w0 a g w) (st : zan g w g' w') (hd : a'.defers = a.defers) : Mks w0 a' g' w' := by
 obtain ⟨Ds, h1, h2, h3⟩ := h;refine ⟨Ds, hd.trans h1, h2, fun D hD => ?_⟩;obtain ⟨k1, k2, k3, k4⟩ := h3 D hD;exact ⟨k1, Nat.lt_of_lt_of_le k2 st.size, (st.block D k2 fun h => k4 (.inl h)).trans k3, st.foot k2 k4⟩

def AWn (P : Program) (g0 : G) (w0 : World) (c : Code) (Q : Exit -> St -> Prop) (s : St) : Prop :=
 ∀ g a w, zcs s g a.bare w -> zan g0 w0 g w -> Mks w0 a g w -> c.wpIn Fence.wide 2 P (fun e a' w' => ∃ s' g', zcs s' g' a'.bare w' /\ zan g0 w0 g' w' /\ Mks w0 a' g' w' /\ Q e s') a w

section
variable {P : Program} {g0 : G} {w0 : World} {K : St -> Prop} {Q : Exit -> St -> Prop} {s : St} {id i : Nat}
theorem awn_seq {x y : Code} (h : AWn P g0 w0 x (seqQ (fun s' => AWn P g0 w0 y Q s') Q) s) : AWn P g0 w0 (.seq x y) Q s := by
 intro g a w hr hs hm;refine wpIn_seq (wpIn_mono (h g a w hr hs hm) fun e a' w' ⟨s', g', h1, h2, h3, h4⟩ => ?_);cases e with
 | normal => exact h4 g' a' w' h1 h2 h3
 | _ => exact ⟨s', g', h1, h2, h3, h4⟩
theorem zwj {c : Operand} {x y : Code} {b : Bool} (hc : s.eval c = .d (.bool b)) (ht : b = true -> AWn P g0 w0 x Q s) (hf : b = false -> AWn P g0 w0 y Q s) : AWn P g0 w0 (.cond c x y) Q s := by
 intro g a w hr hs hm;have h1 := zef hr (s := s) (fun _ => rfl) c;rw [hc] at h1;simp only [zh, zr] at h1;have h2 : a.eval c = .bool b := by rw [<- h1]; cases c <;> rfl
 exact wpIn_cond_split h2 (fun hb => ht hb g a w hr hs hm) (fun hb => hf hb g a w hr hs hm)
theorem awn_block {c : Code} (h : AWn P g0 w0 c (zfk id Q) s) : AWn P g0 w0 (.block id c) Q s := by
 intro g a w hr hs hm;refine wpIn_block (wpIn_mono (h g a w hr hs hm) fun e a' w' ⟨s', g', h1, h2, h3, h4⟩ => ?_);cases e with
 | exit id' =>
  simp only [zfk] at h4;simp only [Exit.inBlock];split at h4
  ·rename_i he; rw [if_pos he]; exact ⟨s', g', h1, h2, h3, h4⟩
  ·rename_i he; rw [if_neg he]; exact ⟨s', g', h1, h2, h3, h4⟩
 | _ => exact ⟨s', g', h1, h2, h3, h4⟩
theorem awn_skip (h : Q .normal s) : AWn P g0 w0 .skip Q s := fun g a w hr hs hm => wpIn_skip ⟨s, g, hr, hs, hm, h⟩
theorem awn_exit (h : Q (.exit id) s) : AWn P g0 w0 (.exit id) Q s := fun g a w hr hs hm => wpIn_exit ⟨s, g, hr, hs, hm, h⟩
theorem awn_ret (h : Q .ret s) : AWn P g0 w0 .ret Q s := fun g a w hr hs hm => wpIn_ret ⟨s, g, hr, hs, hm, h⟩
theorem awn_weak {c : Code} {s' : St} (hw : zeh s s') (h : AWn P g0 w0 c Q s') : AWn P g0 w0 c Q s := by
 intro g a w hr hs hm;obtain ⟨g', hr', hst⟩ := hw g a.bare w hr;exact h g' a w hr' (hs.trans hst) (hm.step hst rfl)
theorem awn_loop {c : Code} {β : Type} (I : β -> St) (inv : β -> Prop) (meas : β -> Nat) (b0 : β) (h0 : zeh s (I b0)) (hi : inv b0)
  (round : ∀ b, inv b -> AWn P g0 w0 c (seqQ (fun s' => ∃ b', inv b' /\ meas b' < meas b /\ zeh s' (I b')) Q) (I b)) : AWn P g0 w0 (.loop c) Q s := by
 refine awn_weak h0 ?_;intro g a w hr hs hm;refine wpIn_loop_ghost (fun n a' w' => ∃ b g', inv b /\ meas b = n /\ zcs (I b) g' a'.bare w' /\ zan g0 w0 g' w' /\ Mks w0 a' g' w') (meas b0) ⟨b0, g, hi, rfl, hr, hs, hm⟩ ?_;rintro n a1 w1 ⟨b, g1, hb, rfl, hr1, hs1, hm1⟩;refine wpIn_mono (round b hb g1 a1 w1 hr1 hs1 hm1) fun e a2 w2 ⟨s2, g2, h1, h2, h3, h4⟩ => ?_;cases e with
 | normal =>
  obtain ⟨b', k1, k2, k3⟩ := h4;obtain ⟨g3, h5, h6⟩ := k3 g2 a2.bare w2 h1;exact ⟨meas b', k2, b', g3, k1, rfl, h5, h2.trans h6, h3.step h6 rfl⟩
 | _ => exact ⟨s2, g2, h1, h2, h3, h4⟩
theorem zbd {ty : TypeId -> Option TI} (hc : Ctx P ty) (orc : List (Nat × Res)) {l : List Oper} (hd : zdx l = true)
  (h : ∀ K : St -> Prop, (∀ s', Q .normal s' -> K s') -> wpT ty P orc (l.map (·.dst)) s.nxt 0 l { s with nxt := s.nxt + l.length } K) : AWn P g0 w0 (.region id l.toArray false) Q s := by
 intro g a w hr hs hm;refine wpIn_region_lit ?_;have ha : a = { a.bare with defers := a.defers } := rfl;have key := zjy (free_wide 2) (ds := a.defers) (P := P) hc (orc := orc) (gs := l.map (·.dst)) (ops := l.toArray) (by intro j; simp) (base := s.nxt) (nxt := s.nxt + l.length)
  (Q := fun e a' w' => ∃ s' g', zcs s' g' a'.bare w' /\ zan g0 w0 g' w' /\ Mks w0 a' g' w' /\ Q e s') (K := fun s' => Q .normal s') (g0 := g) (w0 := w) (l2 := []) (en := l.length) (n0 := s.n)
  (fun s' g' a' w' hnx hn hrel hst hk => ⟨s', g', by
   have hb : Go.Act.bare { a' with defers := a.defers } = a' := bare_eq (a := a') hrel.defers;rw [hb];exact ⟨hrel.defers, hrel.size, hrel.tmp, fun id hu => by have := hrel.used id hu; show id < s'.nxt; omega, hrel.heap⟩, hs.trans hst, hm.step hst rfl, hk⟩)
  l 0 { s with nxt := s.nxt + l.length } g a.bare w hd (by simp) rfl rfl ⟨hr.defers, hr.size, hr.tmp, fun id hu => by have := hr.used id hu; simpa using this, hr.heap⟩ (zan.refl g w) (h _ fun _ hq => hq)
 rw [List.append_nil] at key;rw [ha];exact key

theorem awn_range {go : Operand} {f : FuncId} {caps : List D} {xs : List (D × D)} (hgv : s.eval go = .d (.fn (.func f) caps)) (hit : IterOk2 P f caps xs)
  {p1 p2 : Nat} (hp1 : p1 < s.n) (hp2 : p2 < s.n) (nx : Nat) (pins : List (Nat × Nat)) (hpins : ∀ q ∈ pins, (s.obj q.2).isSome = true) (tm : (Nat -> Loc) -> List (Nat × AV)) (I : Nat -> List (Nat × Option Ob))
  (hkeep : ∀ Lf, Keeps s.n (tm Lf) (St.obj ⟨s.n, tm Lf, I 0, nx⟩))
  (hstart : ∀ Lf, zeh { s with tm := zow Lf pins ++ s.tm } ⟨s.n, tm Lf, I 0, nx⟩) {assign body : Code}
  (hbody : ∀ Lf k x y, xs[k]? = some (x, y) -> AWr 0 P assign (fun e s1 => e = .normal /\ AWr 0 P body (fun e s2 => e = .normal /\ zeh s2 ⟨s.n, tm Lf, I (k + 1), nx⟩) s1) ⟨s.n, (p2, .d y) :: (p1, .d x) :: tm Lf, I k, nx⟩)
  (hq : ∀ Lf, Q .normal ⟨s.n, tm Lf, I xs.length, nx⟩) : AWn P g0 w0 (.rangeFunc go #[p1, p2] assign body) Q s := by
 intro g a w hr hs hm;obtain ⟨tmps, df⟩ := a;refine range_sound2 (m := 0) hr hgv hit hp1 hp2 pins hpins tm I hkeep hstart hbody fun g' W D Lf h1 h2 h3 h4 h5 => ⟨⟨s.n, tm Lf, I xs.length, nx⟩, g', h1, hs.trans h2, ?_, hq Lf⟩
 obtain ⟨Ds, m1, m2, m3⟩ := hm.step h2 (a' := ⟨tmps, df⟩) rfl;obtain ⟨Ds', m1', m2', m3'⟩ := hm;have e : Ds = Ds' := by
  have : Ds.map (fun D => ({ target := .collected D, args := #[] } : Deferred)) = Ds'.map (fun D => ({ target := .collected D, args := #[] } : Deferred)) := m1.symm.trans m1';exact List.map_inj_right (fun x y hxy => by injection hxy with hxy; injection hxy) |>.1 this
 subst e;refine ⟨D :: Ds, by simp only [List.map_cons]; rw [<- m1], List.nodup_cons.2 ⟨fun hD => ?_, m2⟩, fun D' hD' => ?_⟩
 ·have := (m3' D hD).2.1; omega
 ·rcases List.mem_cons.1 hD' with rfl | hD'
  ·exact ⟨Nat.le_trans hs.size h3, (Array.getElem?_eq_some_iff.1 h4).1, h4, h5⟩
  ·exact m3 D' hD'
theorem zty (id : Nat) (rows : List (List D)) {c : Code} {o : Ob} (hob : s.obj id = some o) (hR : zdc o.rows = some rows) (h : ∀ K : St -> Prop, (∀ s', AWn P g0 w0 c Q s' -> K s') -> K (s.fz id rows)) : AWn P g0 w0 c Q s :=
 awn_weak (zpg id rows hob hR) (h _ fun _ h => h)
end

theorem pc_of_awn {P : Program} {ty : TypeId -> Option TI} (hc : Ctx P ty) {f : FuncId} {fn : Func} {c : Code} {ds : List D} {r : Res} (hf : P.funcs[f]? = some fn) (hb : fn.body = some c) (hname : (fn.name == "runtime.NumGoroutine") = false) (hn : ds.length <= fn.ntmps)
  (h : ∀ g0 w0, AWn P g0 w0 c (retQ ty fn.results.toList r) (start fn.ntmps ds)) : PC P f ds r := by
 refine ⟨⟨fn, hf, hname, by rw [hb]; rfl⟩, fun ro w vs hro hd => ?_⟩;refine callsIn_wide.1 (callsIn_of_wp_marks (n := 2) hf hb trivial (wpIn_mono (h ⟨ro, fun _ => none, fun _ => False⟩ w _ _ w (zrb hro hd hn) (zan.refl _ w) ⟨[], rfl, List.nodup_nil, fun _ h => by cases h⟩) fun e a' w' ⟨s', g', h1, h2, h3, h4⟩ => ?_));have fin : (∃ l, zfz ty s' fn.results.toList = some l /\ zmk s' (zhs l) r) -> LeavesInM Fence.wide 2 P fn a'.tmps (fun e w' => ∃ v, e = .returned v /\ Below w.heap.size w w' /\ zdn ro w.heap.size w' r v) a'.defers .returning w' := by
  intro hl;obtain ⟨Ds, m1, m2, m3⟩ := h3;rw [m1];have key : ∀ (Ds : List Nat) (w' : World), zcs s' g' a'.bare w' -> zan ⟨ro, fun _ => none, fun _ => False⟩ w g' w' -> Ds.Nodup -> (∀ D ∈ Ds, w.heap.size <= D /\ D < w'.heap.size /\ w'.heap[D]? = some (.deferred (some [])) /\ ¬ g'.foot D) ->
    LeavesInM Fence.wide 2 P fn a'.tmps (fun e w' => ∃ v, e = .returned v /\ Below w.heap.size w w' /\ zdn ro w.heap.size w' r v) (Ds.map (fun D => ({ target := .collected D, args := #[] } : Deferred))) .returning w' := by
   intro Ds;induction Ds with
   | nil =>
    intro w' r1 r2 _ _;obtain ⟨v, hv, v', he, hb, hrep⟩ := ret_done hc r1 r2 hl;cases he;exact ⟨v, hv, v, rfl, hb, hrep⟩
   | cons D Ds ih =>
    intro w' r1 r2 hnd hm;obtain ⟨k1, k2, k3, k4⟩ := hm D (by simp);obtain ⟨n1, n2⟩ := List.nodup_cons.1 hnd;refine ⟨by simp, .inl ⟨D, _, rfl, run_takeDeferred k3, ih _ (Rel.put r1 (.deferred none) k4) (r2.put (.deferred none) k1) n2 fun E hE => ?_⟩⟩;obtain ⟨q1, q2, q3, q4⟩ := hm E (by simp [hE]);have hne : E ≠ D := fun e => n1 (e ▸ hE);exact ⟨q1, by simpa using q2, (World.putObj_heap_other hne).trans q3, q4⟩
  exact key Ds w' h1 h2 m2 m3
 cases e with
 | normal => exact fin (zrg h4)
 | ret => exact fin (zrg h4)
 | _ => exact h4.elim
section
variable {P : Program} {g0 : G} {w0 : World} {K : St -> Prop} {Q : Exit -> St -> Prop} {s : St} {id i : Nat} {x y c : Code} {Y : Prop}
instance navn_seq [h : Nav (AWn P g0 w0 x (seqQ (fun s' => AWn P g0 w0 y Q s') Q) s) Y] : Nav (AWn P g0 w0 (.seq x y) Q s) Y := ⟨fun k => awn_seq (h.imp k)⟩
instance navn_block [h : Nav (AWn P g0 w0 c (zfk id Q) s) Y] : Nav (AWn P g0 w0 (.block id c) Q s) Y := ⟨fun k => awn_block (h.imp k)⟩
instance navn_skip [h : Nav (Q .normal s) Y] : Nav (AWn P g0 w0 .skip Q s) Y := ⟨fun k => awn_skip (h.imp k)⟩
instance navn_exit [h : Nav (Q (.exit id) s) Y] : Nav (AWn P g0 w0 (.exit id) Q s) Y := ⟨fun k => awn_exit (h.imp k)⟩
instance navn_ret [h : Nav (Q .ret s) Y] : Nav (AWn P g0 w0 .ret Q s) Y := ⟨fun k => awn_ret (h.imp k)⟩
end
end Go.Abs

namespace Go.Proofs.YtdddknniooimmaaGreat
open Go.Abs
instance flag0 : Flag := ⟨False⟩
def tyTab : List (Nat × TI) := [
 (2, ⟨.int .i64, 1, 8, [.d (.int .i64 0)], 0⟩),
 (3, ⟨.int .i64, 1, 8, [.d (.int .i64 0)], 0⟩),
 (4, ⟨.bool, 1, 1, [.d (.bool false)], 0⟩),
 (5, ⟨.int .u8, 1, 1, [.d (.int .u8 0)], 0⟩),
 (7, ⟨.struct [(0, 1, false), (1, 1, false), (2, 1, false), (3, 1, false)], 4, 24, [.d (.int .i64 0), .d (.int .i64 0), .d (.bool false), .d (.int .u8 0)], 0⟩),
 (9, ⟨.str, 1, 16, [.d (.str ⟨#[]⟩)], 0⟩),
 (12, ⟨.int .u64, 1, 8, [.d (.int .u64 0)], 0⟩),
 (13, ⟨.struct [(0, 1, false), (1, 1, false)], 2, 24, [.d (.str ⟨#[]⟩), .d (.int .u64 0)], 0⟩),
 (15, ⟨.one, 1, 8, [.d .np], 0⟩),
 (16, ⟨.one, 1, 8, [.d .np], 0⟩),
 (17, ⟨.one, 1, 8, [.d .np], 0⟩),
 (18, ⟨.struct [(0, 1, false)], 1, 8, [.d .np], 0⟩),
 (21, ⟨.int .i32, 1, 4, [.d (.int .i32 0)], 0⟩),
 (22, ⟨.slice 65, 1, 24, [.nl], 0⟩),
 (23, ⟨.struct [(0, 1, false)], 1, 24, [.nl], 0⟩),
 (24, ⟨.struct [(0, 1, false)], 1, 24, [.nl], 0⟩),
 (27, ⟨.slice 24, 1, 24, [.nl], 0⟩),
 (31, ⟨.int .i64, 1, 8, [.d (.int .i64 0)], 0⟩),
 (37, ⟨.slice 94, 1, 24, [.nl], 0⟩),
 (48, ⟨.slice 55, 1, 24, [.nl], 0⟩),
 (53, ⟨.slice 58, 1, 24, [.nl], 0⟩),
 (54, ⟨.struct [(0, 1, false)], 1, 24, [.nl], 0⟩),
 (55, ⟨.struct [(0, 1, false)], 1, 24, [.nl], 0⟩),
 (57, ⟨.struct [(0, 1, false), (1, 1, false)], 2, 16, [.d (.int .i64 0), .d (.int .i64 0)], 1⟩),
 (58, ⟨.struct [(0, 1, false), (1, 1, false)], 2, 16, [.d (.int .i64 0), .d (.int .i64 0)], 1⟩),
 (63, ⟨.slice 85, 1, 24, [.nl], 0⟩),
 (64, ⟨.struct [(0, 1, false), (1, 1, false)], 2, 32, [.d (.int .i64 0), .nl], 0⟩),
 (65, ⟨.struct [(0, 1, false), (1, 1, false)], 2, 32, [.d (.int .i64 0), .nl], 0⟩),
 (67, ⟨.struct [(0, 1, false), (1, 1, false)], 2, 16, [.d (.int .i64 0), .d (.int .i64 0)], 1⟩),
 (73, ⟨.slice 75, 1, 24, [.nl], 0⟩),
 (75, ⟨.slice 67, 1, 24, [.nl], 0⟩),
 (82, ⟨.one, 1, 8, [.any], 0⟩),
 (84, ⟨.struct [(0, 1, false), (1, 1, false)], 2, 16, [.d (.int .i64 0), .d (.int .i64 0)], 1⟩),
 (85, ⟨.struct [(0, 1, false), (1, 1, false)], 2, 16, [.d (.int .i64 0), .d (.int .i64 0)], 1⟩),
 (87, ⟨.map 3 63, 1, 8, [.any], 0⟩),
 (88, ⟨.struct [(0, 1, false), (1, 1, false)], 2, 16, [.any, .any], 0⟩),
 (89, ⟨.struct [(0, 1, false), (1, 1, false)], 2, 16, [.any, .any], 0⟩),
 (93, ⟨.struct [(0, 1, false), (1, 1, false), (2, 1, false)], 3, 40, [.d (.int .i64 0), .d (.bool false), .nl], 0⟩),
 (94, ⟨.struct [(0, 1, false), (1, 1, false), (2, 1, false)], 3, 40, [.d (.int .i64 0), .d (.bool false), .nl], 0⟩),
 (97, ⟨.slice 94, 1, 24, [.nl], 0⟩),
 (111, ⟨.map 67 4, 1, 8, [.any], 0⟩),
 (113, ⟨.slice 4, 1, 24, [.nl], 0⟩),
 (117, ⟨.map 58 121, 1, 8, [.any], 0⟩),
 (118, ⟨.map 58 121, 1, 8, [.any], 0⟩),
 (121, ⟨.slice 178, 1, 24, [.nl], 0⟩),
 (123, ⟨.slice 127, 1, 24, [.nl], 0⟩),
 (126, ⟨.struct [(0, 2, true), (2, 2, true)], 4, 32, [.d (.int .i64 0), .d (.int .i64 0), .d (.int .i64 0), .d (.int .i64 0)], 0⟩),
 (127, ⟨.struct [(0, 2, true), (2, 2, true)], 4, 32, [.d (.int .i64 0), .d (.int .i64 0), .d (.int .i64 0), .d (.int .i64 0)], 0⟩),
 (131, ⟨.slice 136, 1, 24, [.nl], 0⟩),
 (134, ⟨.slice 3, 1, 24, [.nl], 0⟩),
 (135, ⟨.struct [(0, 1, false), (1, 1, false), (2, 1, false), (3, 1, false)], 4, 32, [.d (.int .i64 0), .d (.int .i64 0), .d (.int .i64 0), .d (.int .i64 0)], 1⟩),
 (136, ⟨.struct [(0, 1, false), (1, 1, false), (2, 1, false), (3, 1, false)], 4, 32, [.d (.int .i64 0), .d (.int .i64 0), .d (.int .i64 0), .d (.int .i64 0)], 1⟩),
 (146, ⟨.slice 193, 1, 24, [.nl], 0⟩),
 (151, ⟨.map 67 3, 1, 8, [.any], 0⟩),
 (158, ⟨.one, 1, 8, [.d .np], 0⟩),
 (159, ⟨.one, 1, 8, [.d .np], 0⟩),
 (168, ⟨.one, 1, 8, [.d .np], 0⟩),
 (169, ⟨.one, 1, 8, [.d .np], 0⟩),
 (174, ⟨.int .u64, 1, 8, [.d (.int .u64 0)], 0⟩),
 (178, ⟨.int .i64, 1, 8, [.d (.int .i64 0)], 0⟩),
 (183, ⟨.arr 3 178, 3, 24, [.d (.int .i64 0), .d (.int .i64 0), .d (.int .i64 0)], 1⟩),
 (192, ⟨.struct [(0, 2, true), (2, 2, true), (4, 1, false)], 5, 40, [.d (.int .i64 0), .d (.int .i64 0), .d (.int .i64 0), .d (.int .i64 0), .d (.int .i64 0)], 0⟩),
 (193, ⟨.struct [(0, 2, true), (2, 2, true), (4, 1, false)], 5, 40, [.d (.int .i64 0), .d (.int .i64 0), .d (.int .i64 0), .d (.int .i64 0), .d (.int .i64 0)], 0⟩),
 (198, ⟨.slice 200, 1, 24, [.nl], 0⟩),
 (199, ⟨.struct [(0, 1, false), (1, 1, false)], 2, 16, [.d (.int .i64 0), .d (.int .i64 0)], 1⟩),
 (200, ⟨.struct [(0, 1, false), (1, 1, false)], 2, 16, [.d (.int .i64 0), .d (.int .i64 0)], 1⟩),
 (206, ⟨.one, 1, 8, [.d .np], 0⟩),
 (207, ⟨.struct [(0, 1, false), (1, 1, false)], 2, 32, [.nl, .d (.int .i64 0)], 0⟩),
 (208, ⟨.struct [(0, 1, false), (1, 1, false)], 2, 32, [.nl, .d (.int .i64 0)], 0⟩),
 (216, ⟨.arr 2 24, 2, 48, [.nl, .nl], 0⟩),
 (221, ⟨.int .i64, 1, 8, [.d (.int .i64 0)], 0⟩),
 (228, ⟨.int .u32, 1, 4, [.d (.int .u32 0)], 0⟩),
 (230, ⟨.int .u64, 1, 8, [.d (.int .u64 0)], 0⟩),
 (256, ⟨.int .u64, 1, 8, [.d (.int .u64 0)], 0⟩),
 (260, ⟨.one, 1, 8, [.d .np], 0⟩),
 (284, ⟨.one, 1, 8, [.d .np], 0⟩),
 (307, ⟨.struct [(0, 1, false), (1, 1, false), (2, 1, false), (3, 1, false)], 4, 40, [.d .np, .d .np, .d .np, .d (.str ⟨#[]⟩)], 0⟩),
 (314, ⟨.one, 1, 8, [.any], 0⟩),
 (315, ⟨.one, 1, 8, [.d .np], 0⟩),
 (318, ⟨.struct [(0, 1, false), (1, 1, false), (2, 1, false), (3, 1, false), (4, 1, false), (5, 1, false), (6, 1, false), (7, 1, false), (8, 1, false), (9, 1, false), (10, 1, false)], 11, 48, [.d (.int .u64 0), .d (.int .u64 0), .d (.int .u32 0), .d (.int .u8 0), .d (.int .u8 0), .d (.int .u8 0), .d (.int .u8 0), .any, .d .np, .d (.int .i32 0), .d (.int .i32 0)], 0⟩),
 (320, ⟨.one, 1, 8, [.d .np], 0⟩)]

attribute [push_cast] wpT wpD confs zlz ids zhf doOp eff fixU frzE zfv zvv effPick pickA zwa effBox zvz zim zlo zkt effBin effUn zok zvx aggList zen zem zvw zoj zln zjq zhw zna ziu zop zgn lenA zvy ziv zjt effX zfj rn rnL rnR dn dnL dnR zey zkz zev swp gone zmd zsb frT XC.ti zbz zqf two odd even cond_true cond_false sf_move ss_move sf_assign ss_assign sf_pick ss_pick sf_alloc ss_alloc sf_box ss_box sf_build ss_build sf_buildSlice ss_buildSlice sf_load ss_load sf_store ss_store sf_nilCheck ss_nilCheck sf_binOp ss_binOp sf_unOp ss_unOp sf_convert ss_convert sf_makeFunc ss_makeFunc sf_makeSlice ss_makeSlice sf_slice ss_slice sf_fieldAddr ss_fieldAddr sf_field ss_field sf_indexAddr ss_indexAddr sf_index ss_index sf_extract ss_extract sf_lookup ss_lookup sf_mapUpdate ss_mapUpdate sf_makeInterface ss_makeInterface sf_makeMap ss_makeMap sf_len sb_move sb_assign sb_pick sb_alloc sb_box sb_build sb_buildSlice sb_load sb_store sb_nilCheck sb_binOp sb_unOp sb_convert sb_makeFunc sb_makeSlice sb_slice sb_fieldAddr sb_field sb_indexAddr sb_index sb_extract sb_lookup sb_mapUpdate sb_makeInterface sb_makeMap sb_call sf_append sf_delete zoi znb zny zhi zih zcg zso zua sf_min sf_max sf_fun ss_call orcIds zpl zqx zuo obs zkg rnL_map dnL_map rnR_dr dnR_dr dnR_app rnR_app wrap_0 wrap_1 wrap_2 wrap_n1 zho zmg zjb Res.free D.free D.frees D.freess zhr zpm zeo zdo zcz zug TI.isAgg mkAgg allD zvs putCells zoy rep eqD cav zav find zdd St.get St.obj St.put St.app St.eval St.guard zct optOb zbg sg_move so_move sg_assign so_assign sg_alloc so_alloc sg_box so_box sg_build so_build sg_buildSlice so_buildSlice sg_load so_load sg_store so_store sg_nilCheck so_nilCheck sg_binOp so_binOp sg_unOp so_unOp sg_convert so_convert sg_makeFunc so_makeFunc sg_makeSlice so_makeSlice sg_slice so_slice sg_fieldAddr so_fieldAddr sg_field so_field sg_indexAddr so_indexAddr sg_index so_index sg_extract so_extract sg_call so_call sg_lookup so_lookup sg_mapUpdate so_mapUpdate sg_makeInterface so_makeInterface sg_makeMap so_makeMap sg_pick so_pick isNil notA allD_map allS allS_map mkAgg_map upR_dr rowsD_dr zrt dr_nil dr_cons dr_append dr_at dr_take dr_drop dr_set upR_app upR_set rowsD_app zdc take_map_len Op.operands Call.operands Abs.start zjx nbf seqQ zfk retQ zfz zhs zmk tyTab po_binOp po_index po_slice po_convert po_call po_lookup po_load po_store effExt

theorem cx : Ctx Tryz.prog (find tyTab) := ctx_of_table tyTab (by kernel_rfl)
theorem mixed : Tryz.prog.follows .mixedOrders = true := by kernel_rfl

structure ze where
 x : Int
 y : Int
 deriving DecidableEq

abbrev ze.row (c : ze) : List D := [.int .i64 c.x, .int .i64 c.y]
abbrev zai (l : List ze) : D := .sl (l.map ze.row)

structure zm where
 role : Int
 closed : Bool
 cells : List ze
 deriving DecidableEq

abbrev zm.row (t : zm) : List D := [.int .i64 t.role, .bool t.closed, zai t.cells]
abbrev zah (l : List zm) : D := .sl (l.map zm.row)
theorem ze.row_len (o : ze) : o.row.length = 2 := rfl
theorem zm.row_len (o : zm) : o.row.length = 3 := rfl

structure Run where
 a : Int
 b : Int
 deriving DecidableEq
abbrev Run.row (r : Run) : List D := [.int .i64 r.a, .int .i64 r.b]
abbrev zn (l : List Run) : D := .sl (l.map Run.row)
theorem Run.row_len (o : Run) : o.row.length = 2 := rfl

structure Row where
 y : Int
 runs : List Run
 deriving DecidableEq
abbrev Row.row (r : Row) : List D := [.int .i64 r.y, zn r.runs]
abbrev zu (l : List Row) : D := .sl (l.map Row.row)
theorem Row.row_len (o : Row) : o.row.length = 2 := rfl

abbrev zt (l : List Row) : List D := [zu l]

def onG (c : ze) : Bool := decide (-4096 <= c.x) && decide (c.x < 4096) && decide (-4096 <= c.y) && decide (c.y < 4096)
theorem zje {c : ze} (h : onG c = true) : -4096 <= c.x /\ c.x < 4096 /\ -4096 <= c.y /\ c.y < 4096 := by
 simp [onG] at h; omega

theorem zbq {f : Nat -> Bool} {k : Nat} : (List.range (k + 1)).all f = ((List.range k).all f && f k) := by
 simp [List.range_succ]

theorem zal {f : Nat -> Bool} {k n : Nat} (hk : k < n) (h : f k = false) : (List.range n).all f = false := by
 rw [Bool.eq_false_iff];intro ha;have := List.all_eq_true.1 ha k (by simpa using hk);rw [h] at this;cases this
theorem zcb {f : Nat -> Bool} {k n : Nat} (h : (List.range n).all f = true) (hk : k < n) : f k = true :=
 List.all_eq_true.1 h k (by simpa using hk)

theorem zuf {α : Type} {l r : List α} {k : Nat} {x y : α} (h : l.take k = r.take k) (hx : l[k]? = some x) (hy : r[k]? = some y) (e : x = y) : l.take (k + 1) = r.take (k + 1) := by
 rw [List.take_add_one, List.take_add_one, h, hx, hy, e]

theorem zak {α : Type} {l : List α} {k : Nat} (h : k < l.length) : ∃ x, l[k]? = some x := ⟨l[k], List.getElem?_eq_getElem h⟩

theorem zgd {α : Type} {l : List α} {k : Nat} {x : α} (h : l[k]? = some x) : l.drop k = x :: l.drop (k + 1) := by
 have hlt := (List.getElem?_eq_some_iff.1 h).1;rw [List.drop_eq_getElem_cons hlt];have := List.getElem?_eq_getElem hlt;rw [h] at this;cases this; rfl
theorem zbm {α : Type} {l : List α} {k : Nat} {x : α} (h : l[k]? = some x) : l.take (k + 1) = l.take k ++ [x] := by
 rw [List.take_add_one, h]; rfl

def zwf (a b : ze) : Int := max (a.x - b.x) (b.x - a.x) + max (a.y - b.y) (b.y - a.y)
def nbT (a b : ze) : Bool := zwf a b == 1
theorem sq_one {x y : Int} (hx : -8192 <= x /\ x <= 8192) (hy : -8192 <= y /\ y <= 8192) : (x * x + y * y = 1) ↔ max x (-x) + max y (-y) = 1 := by
 have hx2 : 0 <= x * x := by
  rcases Int.le_total 0 x with h | h
  ·exact Int.mul_nonneg h h
  ·exact Int.mul_nonneg_of_nonpos_of_nonpos h h
 have hy2 : 0 <= y * y := by
  rcases Int.le_total 0 y with h | h
  ·exact Int.mul_nonneg h h
  ·exact Int.mul_nonneg_of_nonpos_of_nonpos h h
 have big : ∀ z : Int, 2 <= max z (-z) -> 4 <= z * z := by
  intro z hz;rcases Int.le_total 0 z with h | h
  ·have := Int.mul_le_mul (show (2 : Int) <= z by omega) (show (2 : Int) <= z by omega) (by omega) (by omega); omega
  ·have := Int.mul_le_mul (show (2 : Int) <= -z by omega) (show (2 : Int) <= -z by omega) (by omega) (by omega);rw [Int.neg_mul_neg] at this; omega
 have small : ∀ z : Int, max z (-z) <= 1 -> z * z = max z (-z) := by
  intro z hz;have : z = 0 \/ z = 1 \/ z = -1 := by omega
  rcases this with rfl | rfl | rfl <;> decide
 by_cases h1 : 2 <= max x (-x)
 ·have := big x h1; constructor <;> intro <;> omega
 ·by_cases h2 : 2 <= max y (-y)
  ·have := big y h2; constructor <;> intro <;> omega
  ·rw [small x (by omega), small y (by omega)]

theorem sq_bd {z : Int} (h : -8192 <= z /\ z <= 8192) : 0 <= z * z /\ z * z <= 67108864 := by
 rcases Int.le_total 0 z with h0 | h0
 ·exact ⟨Int.mul_nonneg h0 h0, by have := Int.mul_le_mul h.2 h.2 h0 (by omega); omega⟩
 ·have h1 := Int.mul_le_mul (show -z <= 8192 by omega) (show -z <= 8192 by omega) (by omega) (by omega);rw [Int.neg_mul_neg] at h1;exact ⟨Int.mul_nonneg_of_nonpos_of_nonpos h0 h0, by omega⟩
theorem wraps {a b : ze} (ha : onG a = true) (hb : onG b = true) : IntKind.i64.wrap (a.x - b.x) = a.x - b.x /\ IntKind.i64.wrap (a.y - b.y) = a.y - b.y /\ IntKind.i64.wrap (b.x - a.x) = b.x - a.x /\ IntKind.i64.wrap (b.y - a.y) = b.y - a.y /\
  -8192 <= a.x - b.x /\ a.x - b.x <= 8192 /\ -8192 <= a.y - b.y /\ a.y - b.y <= 8192 := by
 have := zje ha; have := zje hb;exact ⟨wrap_i64 (by omega) (by omega), wrap_i64 (by omega) (by omega), wrap_i64 (by omega) (by omega), wrap_i64 (by omega) (by omega), by omega, by omega, by omega, by omega⟩

theorem zuy {a b : ze} (ha : onG a = true) (hb : onG b = true) : PC Tryz.prog 136 [.agg a.row, .agg b.row] (.p (.bool (nbT a b))) := by
 obtain ⟨w1, w2, w3, w4, b1, b2, b3, b4⟩ := wraps ha hb;have hd : zwf a b = max (a.x - b.x) (-(a.x - b.x)) + max (a.y - b.y) (-(a.y - b.y)) := by unfold zwf; omega
 have s1 := sq_bd (z := a.x - b.x) (by omega);have s2 := sq_bd (z := a.y - b.y) (by omega);have s3 := sq_one (x := a.x - b.x) (y := a.y - b.y) (by omega) (by omega);simp only [nbT, hd];have e3 : (max (a.x - b.x) (-(a.x - b.x)) + max (a.y - b.y) (-(a.y - b.y)) == 1) = ((a.x - b.x) * (a.x - b.x) + (a.y - b.y) * (a.y - b.y) == 1) := by
  rw [Bool.eq_iff_iff]; simp [s3]
 rw [e3];clear e3 s3 hd;generalize hn1 : a.x - b.x = n1 at *;generalize hn2 : a.y - b.y = n2 at *;have w6 := wI (n1 * n1);have w7 := wI (n2 * n2);have w8 := wI (n1 * n1 + n2 * n2);refine pw cx Tryz.func136 Tryz.ntmps136 ?_;refine rg cx ?_;refine rd cx mixed [] (fun K hK => by simp [push_cast, hn1, hn2, w1, w2]; (repeat refine ob ?_); exact hK) ?_;refine rx cx [] (fun K hK => by simp [push_cast, w6, w7, w8]; (repeat refine ob ?_); exact hK) ?_;simp [push_cast]

theorem onGridT_ok (c : ze) : PC Tryz.prog 135 [.agg c.row] (.p (.bool (onG c))) := by
 refine pw cx Tryz.func135 Tryz.ntmps135 ?_;refine rg cx ?_;refine rg cx ?_;simp [push_cast, onG]
def okAt (l : List ze) (i : Nat) : Bool := match l[i]?, l[i - 1]? with
 | some c, some p => onG c && (i == 0 || nbT p c)
 | _, _ => false
def zhy (t : zm) : Bool := decide (1 <= t.role) && decide (t.role <= 7) && decide (1 <= t.cells.length) && decide (t.cells.length <= 65536)
def zma (t : zm) : Bool := !t.closed || (t.cells.length : Int) == 1 || (match t.cells[t.cells.length - 1]?, t.cells[0]? with | some a, some b => nbT a b | _, _ => false)
def zap (t : zm) : Bool := zhy t && (List.range t.cells.length).all (okAt t.cells) && zma t

theorem zri {l : List ze} {i : Nat} {c p : ze} (h : l[i]? = some c) (hp : l[i - 1]? = some p) : okAt l i = (onG c && (i == 0 || nbT p c)) := by
 simp only [okAt, h, hp]

theorem zkk {l : List ze} {k i : Nat} {c : ze} (h : (List.range k).all (okAt l) = true) (hi : i < k) (hc : l[i]? = some c) : onG c = true := by
 have := List.all_eq_true.1 h i (by simpa using hi);unfold okAt at this;rw [hc] at this;split at this
 ·rename_i c' p h1 h2;cases h1;simp at this;exact this.1
 ·cases this

set_option maxHeartbeats 1000000 in
theorem tvalid_ok (t : zm) (hl : t.cells.length <= 65536) : PC Tryz.prog 82 [.agg t.row] (.p (.bool (zap t))) := by
 refine pw cx Tryz.func82 Tryz.ntmps82 ?_;refine rx cx [] (fun K hK => by simp [push_cast, zm.row, zai]; (repeat refine ob ?_); exact hK) ?_;refine rx cx [] (fun K hK => by simp [push_cast, zm.row]; (repeat refine ob ?_); exact hK) ?_;refine rx cx [] (fun K hK => by simp [push_cast, zm.row]; (repeat refine ob ?_); exact hK) ?_;refine zd (by simp [push_cast] <;> exact rfl) (fun hb => ?_) (fun hb => ?_) <;> (refine Nav.imp ?_)
 ·refine rg cx ?_;simp [push_cast];simp at hb;have : zhy t = false := by simp [zhy]; omega
  simp [zap, this]
 ·have hr : zhy t = true := by simp at hb; simp [zhy]; omega
  have hne : 1 <= t.cells.length := by simp at hb; omega
  refine rx cx [] (fun K hK => by simp [push_cast, zm.row]; (repeat refine ob ?_); exact hK) ?_;refine zz (β := Nat) (fun k => ⟨72, [(1, .ptr 0 0 0), (3, .d (.int .i64 t.cells.length)), (26, .d (zai t.cells)), (27, .d (.int .i64 t.cells.length)), (28, .d (.int .i64 k))], [(0, some ⟨94, 3, [t.row.map .d]⟩)], 1⟩) (fun k => k <= t.cells.length /\ (List.range k).all (okAt t.cells) = true) (fun k => t.cells.length - k) 0 ?_ ⟨Nat.zero_le _, rfl⟩ ?_
  ·refine wq [(0, some 0)] (by simp [upT, upH, upR, upL, up, push_cast, zm.row])
  ·intro k ⟨hk, hall⟩;refine Nav.imp ?_;refine rg cx ?_;refine awp_cd (decide ((k : Int) < t.cells.length)) (fun hb => ?_) fun hb => ?_
   ·have hlt : k < t.cells.length := by simpa using hb
    obtain ⟨c, hx⟩ : ∃ c, t.cells[k]? = some c := ⟨t.cells[k], List.getElem?_eq_getElem hlt⟩
    obtain ⟨p, hp⟩ : ∃ p, t.cells[k - 1]? = some p := ⟨t.cells[k - 1], List.getElem?_eq_getElem (by omega)⟩
    have c1 := onGridT_ok c;have e0 := wI ((k : Int) + 1);have hok := zri hx hp;refine rx cx [] (fun K hK => by simp [push_cast, hx]; (repeat refine ob ?_); exact hK) ?_;by_cases hc : onG c = true
    ·rw [hc] at c1 hok;by_cases hk0 : k = 0
     ·subst hk0;refine rd cx mixed [(1, .p (.bool true)), (11, .skip), (12, .skip)] (fun K hK => by simp [push_cast, c1]; (repeat refine ob ?_); exact hK) ?_;refine zd (by simp [push_cast] <;> exact rfl) (fun hb => ?_) (fun hb => ?_) <;> (refine Nav.imp ?_)
      ·simp at hb
      ·refine rx cx [] (fun K hK => by simp [push_cast, e0]; (repeat refine ob ?_); exact hK) ?_;refine ⟨1, ⟨hlt, by rw [zbq, hall, hok]; rfl⟩, by omega, ?_⟩;refine wq [(0, some 0)] (by simp [upT, upH, upR, upL, up, push_cast, zm.row])
     ·have e1 := wI ((k : Int) - 1);have e2 : ((k : Int) - 1).toNat = k - 1 := by omega
      have c2 := zuy (zkk hall (show k - 1 < k by omega) hp) hc;have hk1 : (0 : Int) < k := by omega
      have hk2 : (0 : Int) <= k - 1 := by omega
      have hok' : okAt t.cells k = nbT p c := by rw [hok]; simp [hk0]
      generalize hn : nbT p c = nb at c2 hok';refine rd cx mixed [(1, .p (.bool true)), (14, .p (.bool nb))] (fun K hK => by simp [push_cast, c1, c2, hk1, e1, e2, hp, hk2, zm.row]; (repeat refine ob ?_); exact hK) ?_;have hk3 : 0 < k := by omega
      refine awp_cn (!nb) (by simp [push_cast, hk3]) (fun hb => ?_) fun hb => ?_
      ·simp at hb;refine rg cx ?_;simp [push_cast];simp only [zap, Bool.and_eq_false_iff];exact .inl (.inr (zal hlt (by rw [hok', hb])))
      ·simp at hb;refine rx cx [] (fun K hK => by simp [push_cast, e0]; (repeat refine ob ?_); exact hK) ?_;refine ⟨k + 1, ⟨hlt, by rw [zbq, hall, hok', hb]; rfl⟩, by omega, ?_⟩;refine wq [(0, some 0)] (by simp [upT, upH, upR, upL, up, push_cast, zm.row])
    ·simp at hc;rw [hc] at c1 hok;refine rd cx mixed [(1, .p (.bool false)), (11, .skip), (12, .skip)] (fun K hK => by simp [push_cast, c1]; (repeat refine ob ?_); exact hK) ?_;refine awp_cd true (fun hb => ?_) fun hb => ?_
     ·refine rg cx ?_;simp [push_cast];simp only [zap, Bool.and_eq_false_iff];exact .inl (.inr (zal hlt (by rw [hok]; rfl)))
     ·simp at hb
   ·have hge : k = t.cells.length := by simp at hb; omega
    subst hge;obtain ⟨a, ha⟩ : ∃ c, t.cells[0]? = some c := ⟨t.cells[0], List.getElem?_eq_getElem (by omega)⟩
    obtain ⟨b, hb'⟩ : ∃ c, t.cells[t.cells.length - 1]? = some c := ⟨t.cells[t.cells.length - 1], List.getElem?_eq_getElem (by omega)⟩
    have e1 := wI ((t.cells.length : Int) - 1);have e2 : ((t.cells.length : Int) - 1).toNat = t.cells.length - 1 := by omega
    have hk2 : (0 : Int) <= (t.cells.length : Int) - 1 := by omega
    have c2 := zuy (zkk hall (by omega) hb') (zkk hall (by omega) ha);have hcl : zma t = (!t.closed || (t.cells.length : Int) == 1 || nbT b a) := by simp only [zma, ha, hb']
    have hv : zap t = zma t := by simp only [zap, hr, hall, Bool.true_and]
    rw [hv, hcl];generalize nbT b a = nb at c2;refine rd cx mixed [(18, .p (.bool nb))] (fun K hK => by simp [push_cast, c2, e1, e2, ha, hb', hk2, zm.row]; (repeat refine ob ?_); exact hK) ?_;simp [push_cast]

def okB (x : Int) : Bool := decide (-4096 <= x) && decide (x < 4096)
def zmu (r : Run) : Bool := decide (-1048576 <= r.a) && decide (r.a <= 1048576) && decide (-1048576 <= r.b) && decide (r.b <= 1048576)
def rvAt (l : List Run) (i : Nat) : Bool := match l[i]?, l[i - 1]? with
 | some r, some p => decide (r.a < r.b) && zmu r && (i == 0 || decide (p.b < r.a))
 | _, _ => false
def zar (l : List Run) : Bool := (List.range l.length).all (rvAt l)
def fnAt (l : List Run) (i : Nat) : Bool := match l[i]?, l[i - 1]? with
 | some r, some p => decide (-4096 <= r.a) && decide (r.a < r.b) && decide (r.b <= 4096) && (i == 0 || decide (p.b < r.a))
 | _, _ => false
def zel (l : List Run) : Bool := (List.range l.length).all (fnAt l) && decide (0 < l.length)
def zmi (l : List Row) (i : Nat) : Bool := match l[i]?, l[i - 1]? with
 | some r, some p => okB r.y && (i == 0 || decide (p.y < r.y)) && zel r.runs
 | _, _ => false
def zo (l : List Row) : Bool := (List.range l.length).all (zmi l)

theorem zgr {l : List Run} {i : Nat} {r p : Run} (h : l[i]? = some r) (hp : l[i - 1]? = some p) : rvAt l i = (decide (r.a < r.b) && zmu r && (i == 0 || decide (p.b < r.a))) := by simp only [rvAt, h, hp]
theorem zie {l : List Run} {i : Nat} {r p : Run} (h : l[i]? = some r) (hp : l[i - 1]? = some p) : fnAt l i = (decide (-4096 <= r.a) && decide (r.a < r.b) && decide (r.b <= 4096) && (i == 0 || decide (p.b < r.a))) := by simp only [fnAt, h, hp]
theorem zfe {l : List Row} {i : Nat} {r p : Row} (h : l[i]? = some r) (hp : l[i - 1]? = some p) : zmi l i = (okB r.y && (i == 0 || decide (p.y < r.y)) && zel r.runs) := by simp only [zmi, h, hp]

theorem zqk {r : Run} (h : zmu r = true) : -1048576 <= r.a /\ r.a <= 1048576 /\ -1048576 <= r.b /\ r.b <= 1048576 := by
 simp [zmu] at h; omega

theorem zkd {l : List Run} (h : zar l = true) : ∀ (j i : Nat) (r p : Run), i <= j -> l[i]? = some p -> l[j]? = some r -> p.a <= r.a /\ p.b <= r.b
 | 0, i, r, p, hij, hp, hr => by
  have : i = 0 := by omega
  subst this;rw [hp] at hr; cases hr; exact ⟨Int.le_refl _, Int.le_refl _⟩
 | j + 1, i, r, p, hij, hp, hr => by
  by_cases e : i = j + 1
  ·subst e; rw [hp] at hr; cases hr; exact ⟨Int.le_refl _, Int.le_refl _⟩
  ·have hj := (List.getElem?_eq_some_iff.1 hr).1;obtain ⟨q, hq⟩ : ∃ q, l[j]? = some q := zak (by omega);have ih := zkd h j i q p (by omega) hp hq;have h1 := zcb h hj;have h2 := zcb h (show j < l.length by omega);obtain ⟨q', hq'⟩ : ∃ q, l[j - 1]? = some q := zak (by omega);rw [zgr hr (by simpa using hq)] at h1;rw [zgr hq hq'] at h2;simp at h1 h2;omega
theorem zer {l : List Run} (h : zar l = true) {i : Nat} {r : Run} (hr : l[i]? = some r) : r.a < r.b /\ zmu r = true := by
 have hi := (List.getElem?_eq_some_iff.1 hr).1;obtain ⟨p, hp⟩ : ∃ q, l[i - 1]? = some q := zak (by omega);have h1 := zcb h hi;rw [zgr hr hp] at h1;simp at h1;exact ⟨h1.1.1, h1.1.2⟩

theorem zhg {l : List Run} (h : zel l = true) : zar l = true := by
 simp only [zel, Bool.and_eq_true] at h;apply List.all_eq_true.2
 intro i hi;have hi : i < l.length := by simpa using hi
 obtain ⟨r, hr⟩ := zak hi;obtain ⟨p, hp⟩ : ∃ q, l[i - 1]? = some q := zak (by omega);have h1 := zcb h.1 hi;rw [zie hr hp] at h1;rw [zgr hr hp];simp [zmu] at h1 ⊢;refine ⟨⟨by omega, by omega⟩, h1.2⟩

theorem fine_iff {l : List Run} {f z : Run} (hf : l[0]? = some f) (hz : l[l.length - 1]? = some z) : zel l = (zar l && okB f.a && okB (z.b - 1)) := by
 have hl := (List.getElem?_eq_some_iff.1 hf).1;apply Bool.eq_iff_iff.2
 constructor
 ·intro h;have h0 := zhg h;simp only [zel, Bool.and_eq_true] at h;have h1 := zcb h.1 hl;have h2 := zcb h.1 (show l.length - 1 < l.length by omega);obtain ⟨p, hp⟩ : ∃ q, l[l.length - 1 - 1]? = some q := zak (by omega);rw [zie hf (by simpa using hf)] at h1;rw [zie hz hp] at h2;simp [okB] at h1 h2 ⊢;exact ⟨⟨h0, by omega⟩, by omega⟩
 ·intro h;simp only [Bool.and_eq_true] at h;obtain ⟨⟨h0, h1⟩, h2⟩ := h;simp [okB] at h1 h2;simp only [zel, Bool.and_eq_true];refine ⟨List.all_eq_true.2 fun i hi => ?_, by simpa using hl⟩;have hi : i < l.length := by simpa using hi
  obtain ⟨r, hr⟩ := zak hi;obtain ⟨p, hp⟩ : ∃ q, l[i - 1]? = some q := zak (by omega);have a1 := zkd h0 i 0 r f (Nat.zero_le _) hf hr;have a2 := zkd h0 (l.length - 1) i z r (by omega) hr hz;have a3 := zer h0 hr;have a4 := zcb h0 hi;rw [zgr hr hp] at a4;rw [zie hr hp];simp at a4 ⊢;exact ⟨⟨⟨by omega, a3.1⟩, by omega⟩, a4.2⟩

theorem ok_ok (x : Int) : PC Tryz.prog 106 [.int .i64 x] (.p (.bool (okB x))) := by
 refine pw cx Tryz.func106 Tryz.ntmps106 ?_;refine rg cx ?_;refine rg cx ?_;simp [push_cast, okB]

theorem fits_ok (r : Run) : PC Tryz.prog 167 [.agg r.row] (.p (.bool (zmu r))) := by
 refine pw cx Tryz.func167 Tryz.ntmps167 ?_;refine rg cx ?_;refine rg cx ?_;simp [push_cast, zmu, Bool.and_assoc]

theorem rvalid_big (l : List Run) (hl : l.length <= 9223372036854775807) : PC Tryz.prog 118 [zn l] (.p (.bool (zar l))) := by
 refine pw cx Tryz.func118 Tryz.ntmps118 ?_;refine rg cx ?_;refine rg cx ?_;refine zz (β := Nat) (fun k => ⟨38, [(0, .d (zn l)), (5, .d (zn l)), (6, .d (.int .i64 l.length)), (7, .d (.int .i64 k))], [], 1⟩) (fun k => k <= l.length /\ (List.range k).all (rvAt l) = true) (fun k => l.length - k) 0 ?_ ⟨Nat.zero_le _, rfl⟩ ?_
 ·refine wk []
 ·intro k ⟨hk, hall⟩;refine Nav.imp ?_;refine rg cx ?_;refine awp_cd (decide ((k : Int) < l.length)) (fun hb => ?_) fun hb => ?_
  ·have hlt : k < l.length := by simpa using hb
   obtain ⟨r, hr⟩ := zak hlt;obtain ⟨p, hp⟩ : ∃ p, l[k - 1]? = some p := zak (by omega);have e0 := wI ((k : Int) + 1);have hat := zgr hr hp;have c1 := fits_ok r;obtain ⟨ra, rb⟩ := r;refine rx cx [] (fun K hK => by simp [push_cast, hr, Run.row]; (repeat refine ob ?_); exact hK) ?_;by_cases h1 : ra < rb
   ·have h1' : ¬ (rb <= ra) := by omega
    generalize hv : zmu ⟨ra, rb⟩ = v at c1;rw [hv] at hat;cases v with
    | true =>
     by_cases hk0 : k = 0
     ·subst hk0;refine rd cx mixed [(7, .p (.bool true))] (fun K hK => by simp [push_cast, h1', c1, hr, Run.row]; (repeat refine ob ?_); exact hK) ?_;refine awp_cd false (fun hb => ?_) fun hb => ?_
      ·simp at hb
      ·refine rx cx [] (fun K hK => by simp [push_cast, e0]; (repeat refine ob ?_); exact hK) ?_;refine ⟨1, ⟨hlt, by rw [zbq, hall, hat]; simp [h1]⟩, by omega, ?_⟩;refine wk []
     ·have e1 := wI ((k : Int) - 1);have e2 : ((k : Int) - 1).toNat = k - 1 := by omega
      have hk1 : (0 : Int) < k := by omega
      have hk2 : (0 : Int) <= k - 1 := by omega
      have hk3 : 0 < k := by omega
      obtain ⟨pa, pb⟩ := p;refine rd cx mixed [(7, .p (.bool true))] (fun K hK => by simp [push_cast, h1', c1, hk1, hk3, hk2, e1, e2, hp, Run.row]; (repeat refine ob ?_); exact hK) ?_;refine awp_cn (decide (ra <= pb)) (by simp [push_cast, hk3]) (fun hb => ?_) fun hb => ?_
      ·have h3 : ¬ pb < ra := by simpa using hb
       refine rg cx ?_;simp [push_cast];refine zal hlt ?_;rw [hat]; simp [h1, hk0, h3]
      ·have h3 : pb < ra := by simpa using hb
       refine rx cx [] (fun K hK => by simp [push_cast, e0]; (repeat refine ob ?_); exact hK) ?_;refine ⟨k + 1, ⟨hlt, by rw [zbq, hall, hat]; simp [h1, h3]⟩, by omega, ?_⟩;refine wk []
    | false =>
     by_cases hk0 : k = 0
     ·subst hk0;refine rd cx mixed [(7, .p (.bool false))] (fun K hK => by simp [push_cast, h1', c1, hr, Run.row]; (repeat refine ob ?_); exact hK) ?_;refine awp_cd true (fun hb => ?_) fun hb => ?_
      ·refine rg cx ?_;simp [push_cast];refine zal hlt ?_;rw [hat]; simp
      ·simp at hb
     ·have e1 := wI ((k : Int) - 1);have e2 : ((k : Int) - 1).toNat = k - 1 := by omega
      obtain ⟨pa, pb⟩ := p;refine rd cx mixed [(7, .p (.bool false))] (fun K hK => by simp [push_cast, h1', c1, e1, e2, hp, Run.row]; (repeat refine ob ?_); exact hK) ?_;refine awp_cd true (fun hb => ?_) fun hb => ?_
      ·refine rg cx ?_;simp [push_cast];refine zal hlt ?_;rw [hat]; simp
      ·simp at hb
   ·have h1' : rb <= ra := by omega
    have e1 := wI ((k : Int) - 1);by_cases hk0 : k = 0
    ·subst hk0;refine rd cx mixed [(7, .skip)] (fun K hK => by simp [push_cast, h1', hr, Run.row]; (repeat refine ob ?_); exact hK) ?_;refine awp_cd true (fun hb => ?_) fun hb => ?_
     ·refine rg cx ?_;simp [push_cast];refine zal hlt ?_;rw [hat]; simp [h1]
     ·simp at hb
    ·have e2 : ((k : Int) - 1).toNat = k - 1 := by omega
     obtain ⟨pa, pb⟩ := p;refine rd cx mixed [(7, .skip)] (fun K hK => by simp [push_cast, h1', e1, e2, hp, Run.row]; (repeat refine ob ?_); exact hK) ?_;refine awp_cd true (fun hb => ?_) fun hb => ?_
     ·refine rg cx ?_;simp [push_cast];refine zal hlt ?_;rw [hat]; simp [h1]
     ·simp at hb
  ·have hge : k = l.length := by simp at hb; omega
   subst hge;refine rg cx ?_;simp [push_cast];exact hall
theorem zre (l : List Run) (hl : l.length <= 1000000) : PC Tryz.prog 118 [zn l] (.p (.bool (zar l))) := rvalid_big l (by omega)
end Go.Proofs.YtdddknniooimmaaGreat
