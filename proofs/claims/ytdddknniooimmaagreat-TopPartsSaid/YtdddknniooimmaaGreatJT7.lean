/-
  Texts of this seat put together: X9, B1, AbsR, AbsV, Z1, AbsW, AbsU, Z2.
-/
import Derived.Test.YtdddknniooimmaaGreatJT6
import Derived.Test.YtdddknniooimmaaGreatJT3
import Derived.Test.YtdddknniooimmaaGreatJT5
import Derived.OrdersIn
import Derived.TacticsIn
import Derived.RangeFuncNested
import Derived.RangeFuncLeaves
set_option linter.unusedVariables false
set_option linter.unusedSimpArgs false
set_option maxRecDepth 100000
set_option linter.unusedSectionVars false
namespace Go.Proofs.YtdddknniooimmaaGreat
open Go.Abs

section
variable {a b : List Row} (ha : zo a = true) (hb : zo b = true) (c : zf)
include ha hb
theorem opU_iff : c ∈ zl (opR fU a b) ↔ c ∈ zl a \/ c ∈ zl b := by
 have h := (zst (f := fU) rfl ha hb).2 c;have e : ∀ x y, fU x y = (x || y) := fun _ _ => rfl;rw [e] at h;rw [<- decide_eq_true_iff (p := c ∈ zl (opR fU a b)), h];simp
theorem opI_iff : c ∈ zl (opR fI a b) ↔ c ∈ zl a /\ c ∈ zl b := by
 have h := (zst (f := fI) rfl ha hb).2 c;have e : ∀ x y, fI x y = (x && y) := fun _ _ => rfl;rw [e] at h;rw [<- decide_eq_true_iff (p := c ∈ zl (opR fI a b)), h];simp
end
theorem valid_empty {R : List Row} (hv : zo R = true) (h : ∀ c, c ∉ zl R) : R = [] := region_uniq hv rfl fun c => ⟨fun hc => absurd hc (h c), fun hc => by simp [zl] at hc⟩
end Go.Proofs.YtdddknniooimmaaGreat

namespace Go.Proofs.YtdddknniooimmaaGreat
open Go.Abs

theorem one_valid {c : zf} (h : onG c = true) : zo [⟨c.y, [⟨c.x, c.x + 1⟩]⟩] = true /\ ∀ d, d ∈ zl [⟨c.y, [⟨c.x, c.x + 1⟩]⟩] ↔ d = c := by
 obtain ⟨x, y⟩ := c;have hg := onG_bd h;simp only at hg;constructor
 ·simp [zo, zmc, okB, zfm, fnAt, List.range_succ];omega
 ·rintro ⟨a, b⟩;rw [zdk];simp;omega
theorem set_region : ∀ {l : List zf}, (∀ c ∈ l, onG c = true) -> ∃ R, zo R = true /\ ∀ c, c ∈ zl R ↔ c ∈ l
 | [], _ => ⟨[], rfl, fun c => by simp [zl]⟩
 | c :: l, h => by
  obtain ⟨R, h1, h2⟩ := set_region (l := l) fun d hd => h d (by simp [hd]);obtain ⟨h3, h4⟩ := one_valid (h c (by simp));refine ⟨opR fU [⟨c.y, [⟨c.x, c.x + 1⟩]⟩] R, (zst rfl h3 h1).1, fun d => ?_⟩;rw [opU_iff h3 h1, h4, h2, List.mem_cons]
theorem of_set {l : List zf} (hn : l.Nodup) (hon : ∀ c ∈ l, onG c = true) : zo (ofR l) = true /\ (∀ c, c ∈ zl (ofR l) ↔ c ∈ l) /\ (zl (ofR l)).length = l.length := by
 obtain ⟨R, h1, h2⟩ := set_region hon;have hp : l.Perm (zl R) := (List.perm_ext_iff_of_nodup hn (zpc (zhv h1))).2 fun c => (h2 c).symm;have e : ofR l = R := by
  unfold ofR;rw [if_pos (List.all_eq_true.2 hon), sortY_cells h1 hp, zsd h1]
 rw [e];exact ⟨h1, h2, hp.length_eq.symm⟩
def xc (c : zf) : zf := ⟨c.y, c.x⟩
end Go.Proofs.YtdddknniooimmaaGreat

namespace Go.Abs
variable [Flag]
open Go.RowKit

theorem calls_round {l n : Nat} {P : Program} {f : FuncId} {args : Array Value} {w : World} {R : Ending -> World -> Prop} (h : Calls P f args w R) : CallsIn (Fence.wide.inRound l) n P f args w R :=
 CallsIn.inRound l (callsIn_wide.2 h)
theorem rows_round {l n : Nat} {P : Program} {row : String} {args : Array Value} {w : World} {R : Value -> World -> Prop} (h : Rows P row args w R) : RowsIn (Fence.wide.inRound l) n P row args w R := by
 intro c cs _;obtain ⟨v, w', h1, h2⟩ := h c cs;exact ⟨v, w', h1, stepsIn_wide.2 h2⟩
structure Free (F : Fence) (n : Nat) : Prop where
 fn : ∀ f, F.fn f
 depth : F.depth.isSome = false
 calls : ∀ {P : Program} {f : FuncId} {args : Array Value} {w : World} {R : Ending -> World -> Prop}, Calls P f args w R -> CallsIn F (n - 1) P f args w R
 rows : ∀ {P : Program} {row : String} {args : Array Value} {w : World} {R : Value -> World -> Prop}, Rows P row args w R -> RowsIn F (n - 1) P row args w R
theorem free_wide (n : Nat) : Free Fence.wide n := ⟨fun _ => trivial, rfl, fun h => callsIn_wide.2 h, fun h => fun c cs _ => by
 obtain ⟨v, w', h1, h2⟩ := h c cs;exact ⟨v, w', h1, stepsIn_wide.2 h2⟩⟩
theorem op_free {F : Fence} {n : Nat} (hF : Free F n) {P : Program} {o : Oper} {a : Act} {w : World} {K K' : Act -> World -> Prop} {Q : Exit -> Act -> World -> Prop} (hd : ∀ c, o.op ≠ .defer c) (hK : ∀ a w, K a w -> K' a w) (h : o.wp P a w K Q) : o.wpIn F n P a w K' Q := by
 refine ⟨fun _ _ => hF.fn _, ?_⟩;have hs : o.semAt F.round a.eval = execOp a.eval o := Oper.semAt_eq _ _ _ hd;rw [hs];have h := Oper.wp_mono hK h;unfold Oper.wp at h;generalize (execOp a.eval o).run P w = r at *;cases r with
 | ok x w' =>
  cases x <;> simp only [Oper.upon, Oper.uponIn] at h ⊢ <;> first
   | exact h
   | exact ⟨fun hh => absurd hh (by rw [hF.depth]; exact Bool.false_ne_true), (hF.calls h).mono fun e w'' he => by cases e <;> exact he⟩
   | exact ⟨fun hh => absurd hh (by rw [hF.depth]; exact Bool.false_ne_true), hF.rows h⟩
   | exact False.elim h
 | halt x w' => cases x <;> simp only [Oper.upon, Oper.uponIn] at h ⊢ <;> first | exact h | exact h.elim

theorem op_round {l n : Nat} {P : Program} {o : Oper} {a : Act} {w : World} {K K' : Act -> World -> Prop} {Q : Exit -> Act -> World -> Prop} (hd : ∀ c, o.op ≠ .defer c) (hK : ∀ a w, K a w -> K' a w) (h : o.wp P a w K Q) : o.wpIn (Fence.wide.inRound l) n P a w K' Q := by
 refine ⟨fun _ _ => trivial, ?_⟩;rw [Oper.semAt_eq _ _ _ hd];have h := Oper.wp_mono hK h;unfold Oper.wp at h;generalize (execOp a.eval o).run P w = r at *;cases r with
 | ok x w' =>
  cases x <;> simp only [Oper.upon, Oper.uponIn] at h ⊢ <;> first
   | exact h
   | exact ⟨fun hh => absurd hh (by simp [Fence.wide]), (calls_round h).mono fun e w'' he => by cases e <;> exact he⟩
   | exact ⟨fun hh => absurd hh (by simp [Fence.wide]), rows_round h⟩
   | exact False.elim h
 | halt x w' => cases x <;> simp only [Oper.upon, Oper.uponIn] at h ⊢ <;> first | exact h | exact h.elim

def zea (l : List Oper) : Bool := l.all fun o => match o.op with | .defer _ => false | _ => true
theorem zrk {l : List Oper} (h : zea l = true) {o : Oper} (ho : o ∈ l) : ∀ c, o.op ≠ .defer c := fun c hc => by
 have := List.all_eq_true.1 h o ho;rw [hc] at this;cases this

theorem zoo {l n : Nat} {P : Program} {ops : Array Oper} {Q : Exit -> Act -> World -> Prop} (hQ : ¬ LetsOut Q) : ∀ (ls : List Oper) (a : Act) (w : World), zea ls = true -> wpList P ops Q ls a w -> wpListIn (Fence.wide.inRound l) n P ops Q ls a w
 | [], a, w, _, h => h
 | o :: rest, a, w, hd, h => by
  have hd' : zea rest = true := by simp only [zea, List.all_cons, Bool.and_eq_true] at hd; exact hd.2
  simp only [wpList, wpListIn] at h ⊢;split
  ·rename_i hw;rw [if_pos hw] at h;rcases h with h | h
   ·exact op_round (zrk hd (by simp)) (fun a w hk => zoo hQ rest a w hd' hk) h
   ·exact absurd h.2 hQ
  ·rename_i hw;rw [if_neg hw] at h;exact ⟨fun _ _ => trivial, zoo hQ rest _ w hd' h⟩

def AWr (n : Nat) (P : Program) (c : Code) (Q : Exit -> St -> Prop) (s : St) : Prop :=
 ∀ (l : Nat) g a w, zcn s g a w -> c.wpIn (Fence.wide.inRound l) n P (fun e a' w' => ∃ s' g', zcn s' g' a' w' /\ zam g w g' w' /\ Q e s') a w

theorem awr_block {n id : Nat} {P : Program} {c : Code} {Q : St -> Prop} {s : St} (h : AWr n P c (fun e s => e = .normal /\ Q s) s) : AWr n P (.block id c) (fun e s => e = .normal /\ Q s) s := by
 intro l g a w hr;refine wpIn_block (wpIn_mono (h l g a w hr) fun e a' w' ⟨s', g', h1, h2, h3, h4⟩ => ?_);subst h3;exact ⟨s', g', h1, h2, rfl, h4⟩

theorem awr_region {n : Nat} {P : Program} {ty : TypeId -> Option TI} (hc : Ctx P ty) (orc : List (Nat × Res)) {id : Nat} {l : List Oper} {Q : Exit -> St -> Prop} {s : St} (hQ : ∀ s', ¬ Q .outgrown s') (hd : zea l = true)
  (h : ∀ K : St -> Prop, (∀ s', Q .normal s' -> K s') -> wpT ty P orc (l.map (·.dst)) s.nxt 0 l { s with nxt := s.nxt + l.length } K) : AWr n P (.region id l.toArray false) Q s := by
 intro r g a w hr;have hw := zfo (P := P) hc (orc := orc) (gs := l.map (·.dst)) (ops := l.toArray) (by intro j; simp) (base := s.nxt) (nxt := s.nxt + l.length)
  (Q := fun e a' w' => ∃ s' g', zcn s' g' a' w' /\ zam g w g' w' /\ Q e s') (K := fun s' => Q .normal s') (g0 := g) (w0 := w)
  (fun s' g' a' w' h1 h2 h3 => ⟨s', g', h1, h2, h3⟩) l 0 { s with nxt := s.nxt + l.length } g a w (by simp) rfl ⟨hr.defers, hr.size, hr.tmp, fun id hu => by have := hr.used id hu; simpa using this, hr.heap⟩ (zam.refl g w) (h _ fun _ hq => hq)
 exact wpIn_region_lit (zoo (fun hx => by obtain ⟨_, _, s', _, _, _, hq⟩ := hx; exact hQ s' hq) l a w hd hw)

theorem zhc {F : Fence} {n : Nat} (hF : Free F n) {P : Program} {ty : TypeId -> Option TI} (hc : Ctx P ty) {orc : List (Nat × Res)} {gs : List (Option Tmp)} {ops : Array Oper} (hgs : ∀ j : Nat, gs[j]? = (ops[j]?).map fun o : Oper => o.dst) {base nxt : Nat} {Q : Exit -> Act -> World -> Prop} {K : St -> Prop} {g0 : G} {w0 : World}
  {l2 : List Oper} {en n0 : Nat} (hQ : ∀ s g a w, s.nxt = nxt -> s.n = n0 -> Rel (· < base + en) g s.get s.obj s.n a w -> zam g0 w0 g w -> K s -> wpListIn F n P ops Q l2 a w) :
  ∀ (l : List Oper) (i : Nat) (s : St) (g : G) (a : Act) (w : World), zea l = true -> i + l.length = en -> s.nxt = nxt -> s.n = n0 -> Rel (· < base + i) g s.get s.obj s.n a w -> zam g0 w0 g w -> wpT ty P orc gs base i l s K -> wpListIn F n P ops Q (l ++ l2) a w
 | [], i, s, g, a, w, _, hle, hnx, hn0, h, hs, hk => hQ s g a w hnx hn0 (by simp at hle; rw [<- hle]; exact h) hs hk
 | o :: rest, i, s, g, a, w, hdf, hle, hnx, hn0, h, hs, hk => by
  simp only [List.length_cons] at hle;have hdo := zrk hdf (o := o) (by simp);have hdr : zea rest = true := by simp only [zea, List.all_cons, Bool.and_eq_true] at hdf; exact hdf.2
  have hargs : zk g w (o.op.operands.toList.map s.eval) (o.op.operands.toList.map a.eval) := by
   refine zk.of_get (by simp) fun j av hj => ?_;rw [List.getElem?_map] at hj ⊢;cases hx : o.op.operands.toList[j]? with
   | none => rw [hx] at hj; cases hj
   | some x => rw [hx] at hj; cases hj; exact ⟨a.eval x, rfl, zec h (fun _ => rfl) x⟩
  have relapp : ∀ (e : Eff) (g' : G) (a' : Act) (w' : World), Rel (fun k => k < base + i \/ k = base + i) g' (zhj s.get o.dst e.val) (zcm s.obj e.wr) s.n a' w' -> Rel (· < base + (i + 1)) g' (s.app o.dst e).get (s.app o.dst e).obj (s.app o.dst e).n a' w' := by
   intro e g' a' w' hr;have hn : (s.app o.dst e).n = s.n := by unfold St.app St.put; cases o.dst <;> rfl
   rw [hn];exact ⟨hr.defers, hr.size, fun t => by rw [zku]; exact hr.tmp t, fun id hu => by
    have := hr.used id hu
    show id < base + (i + 1)
    rcases this with hh | hh <;> omega, by
    have : (s.app o.dst e).obj = zcm s.obj e.wr := funext (zkt s o.dst e);rw [this]; exact hr.heap⟩
  have hnapp : ∀ e, (s.app o.dst e).nxt = nxt := fun e => by rw [<- hnx]; unfold St.app St.put; cases o.dst <;> rfl
  have hna : ∀ e, (s.app o.dst e).n = s.n := fun e => by unfold St.app St.put; cases o.dst <;> rfl
  have hnput : ∀ v, (s.put o.dst v).nxt = nxt := fun v => by rw [<- hnx]; unfold St.put; cases o.dst <;> rfl
  have hnn : ∀ v, (s.put o.dst v).n = s.n := fun v => by unfold St.put; cases o.dst <;> rfl
  have relput : ∀ (v : AV) (g' : G) (a' : Act) (w' : World) (U : Nat -> Prop), (∀ k, U k -> k < base + (i + 1)) -> Rel U g' (zhj s.get o.dst v) s.obj s.n a' w' -> Rel (· < base + (i + 1)) g' (s.put o.dst v).get (s.put o.dst v).obj (s.put o.dst v).n a' w' := by
   intro v g' a' w' U hU hr;rw [hnn];have := hr.congr (get' := (s.put o.dst v).get) (obj' := (s.put o.dst v).obj) (fun t => St.get_put s o.dst v t) (fun id => zme s o.dst v id);exact ⟨this.defers, this.size, this.tmp, fun k hk => hU k (this.used k hk), this.heap⟩
  have skipped : ∀ v, (∀ d, o.dst = some d -> d < s.n) -> zi g w v undef -> wpT ty P orc gs base (i + 1) rest (s.put o.dst v) K -> wpListIn F n P ops Q (rest ++ l2) (a.put o.dst undef) w := by
   intro v hd hv hrest;have hr := zcb (U' := (· < base + i)) (dst := o.dst) (v := v) (u := undef) h h.heap ⟨fun b hb => ⟨hb, rfl⟩, fun _ hx => hx, fun _ _ => .inl rfl⟩ (fun k hk => h.used k hk) hv hd;exact zhc hF (nxt := nxt) hc hgs hQ rest (i + 1) _ g _ w hdr (by omega) (hnput v) ((hnn v).trans hn0) (relput v g _ w _ (fun k hk => by omega) hr) hs hrest
  simp only [List.cons_append, wpListIn];unfold wpT at hk;split at hk
  ·rename_i hg;have hw : Region.wanted o (yielded ops a.tmps) = true := by simp [Region.wanted, hg]
   rw [if_pos hw];unfold doOp at hk;split at hk
   ·rename_i e he;obtain ⟨hob, hd, hrest⟩ := hk;exact op_free hF hdo (fun _ _ hk => hk) <| zge hc (nid := base + i) h (by simp) hargs he hob (fun d hd' => by rw [hd'] at hd; exact hd) fun g' a' w' hr hst =>
     zhc hF (nxt := nxt) hc hgs hQ rest (i + 1) (s.app o.dst e) g' a' w' hdr (by omega) (hnapp e) ((hna e).trans hn0) (relapp e g' a' w' hr) (hs.trans hst) hrest
   ·exact hk.elim
  ·rename_i j want hg;split at hk
   ·rename_i x hgv;have hw := zkn (a := a) hgs h.tmp hg hgv;rw [hw];obtain ⟨hd, hk⟩ := hk;have hd' : ∀ d, o.dst = some d -> d < s.n := fun d hd' => by rw [hd'] at hd; exact hd
    split at hk
    ·rename_i e he;split at hk
     ·rename_i hwr;obtain ⟨hexec, hrest⟩ := hk;cases x with
      | true =>
       rw [if_pos rfl];obtain ⟨hso, hob⟩ := hexec rfl;refine op_free hF hdo (fun _ _ hk => hk) <| zge hc (nid := base + i) h (by simp) (zdy hargs hso) he hob hd' fun g' a' w' hr hst => ?_
       rw [hwr] at hr;exact zhc hF (nxt := nxt) hc hgs hQ rest (i + 1) _ g' a' w' hdr (by omega) (hnput _) ((hnn _).trans hn0) (relput _ g' a' w' _ (fun k hk => by rcases hk with hh | hh <;> omega) hr.opt) (hs.trans hst) hrest
      | false =>
       rw [if_neg (by simp)];exact ⟨fun _ _ => hF.fn _, skipped _ hd' (by simp [zi]) hrest⟩
     ·obtain ⟨rfl, hso, hob, hrest⟩ := hk;rw [if_pos rfl];exact op_free hF hdo (fun _ _ hk => hk) <| zge hc (nid := base + i) h (by simp) (zdy hargs hso) he hob hd' fun g' a' w' hr hst =>
       zhc hF (nxt := nxt) hc hgs hQ rest (i + 1) (s.app o.dst e) g' a' w' hdr (by omega) (hnapp e) ((hna e).trans hn0) (relapp e g' a' w' hr) (hs.trans hst) hrest
    ·obtain ⟨rfl, hrest⟩ := hk;rw [if_neg (by simp)];exact ⟨fun _ _ => hF.fn _, skipped _ hd' (by simp [zi]) hrest⟩
   ·exact hk.elim




def G.foot (g : G) (b : Nat) : Prop := g.owns b \/ g.ro b
theorem zah.foot_lt {g : G} {obj : Nat -> Option Ob} {w : World} (h : zah g obj w) {b : Nat} (hb : g.foot b) : b < w.heap.size := by
 rcases hb with ⟨id, L, hL, hv, rfl⟩ | hb
 ·exact ((h.live id L hL).2 hv).1
 ·exact h.ro b hb
theorem zah.stay {g : G} {obj : Nat -> Option Ob} {w w' : World} (h : zah g obj w) (hsz : w.heap.size <= w'.heap.size) (hb : ∀ b, g.foot b -> w'.heap[b]? = w.heap[b]?) : zah g obj w' /\ zbt g w g w' := by
 have hlater : zbt g w g w' := ⟨fun b hr => ⟨hr, hb b (.inr hr)⟩, fun _ hx => hx, fun _ _ => .inl rfl⟩
 refine ⟨⟨fun id o ho => ?_, h.gone, fun id L hL => ⟨(h.live id L hL).1, fun hv => ⟨Nat.lt_of_lt_of_le ((h.live id L hL).2 hv).1 hsz, ((h.live id L hL).2 hv).2⟩⟩, h.inj, fun b hr => Nat.lt_of_lt_of_le (h.ro b hr) hsz⟩, hlater⟩;obtain ⟨L, hL, hok⟩ := h.own id o ho;exact ⟨L, hL, hok.later hlater fun hv => hb _ (.inl ⟨id, L, hL, hv, rfl⟩)⟩
theorem Rel.stay {U : Nat -> Prop} {g : G} {get : Nat -> AV} {obj : Nat -> Option Ob} {n : Nat} {a : Act} {w w' : World} (h : Rel U g get obj n a w) (hsz : w.heap.size <= w'.heap.size) (hb : ∀ b, g.foot b -> w'.heap[b]? = w.heap[b]?) : Rel U g get obj n a w' := by
 obtain ⟨h1, h2⟩ := h.heap.stay hsz hb;exact ⟨h.defers, h.size, fun t => zi.later h2 _ _ (h.tmp t), h.used, h1⟩

structure Sep (g1 g2 : G) : Prop where
 own : ∀ b, g1.owns b -> ¬ g2.foot b
 own' : ∀ b, g2.owns b -> ¬ g1.ro b
theorem Sep.symm {g1 g2 : G} (h : Sep g1 g2) : Sep g2 g1 :=
 ⟨fun b h2 h1 => h1.elim (fun ho => h.own b ho (.inl h2)) (h.own' b h2), fun b h1 h2 => h.own b h1 (.inr h2)⟩

structure Rnd (x : Nat) (g : G) (w : World) (g' : G) (w' : World) : Prop where
 size : w.heap.size <= w'.heap.size
 block : ∀ b, b < w.heap.size -> ¬ g.owns b -> b ≠ x -> w'.heap[b]? = w.heap[b]?
 own : ∀ b, g'.owns b -> w.heap.size <= b \/ g.owns b
 ro' : ∀ b, g'.ro b -> g.ro b \/ w.heap.size <= b \/ g.owns b
theorem zam.rnd {g g' : G} {w w' : World} (h : zam g w g' w') (x : Nat) : Rnd x g w g' w' := ⟨h.size, fun b h1 h2 _ => h.block b h1 h2, h.own, h.ro'⟩

theorem Sep.rnd {x : Nat} {g1 g1' g2 : G} {w w' : World} (hs : Sep g1 g2) (h2 : ∀ b, g2.foot b -> b < w.heap.size /\ b ≠ x) (st : Rnd x g1 w g1' w') : (∀ b, g2.foot b -> w'.heap[b]? = w.heap[b]?) /\ Sep g1' g2 := by
 refine ⟨fun b hb => st.block b (h2 b hb).1 (fun ho => hs.own b ho hb) (h2 b hb).2, fun b ho hf => ?_, fun b ho hr => ?_⟩
 ·rcases st.own b ho with h | h
  ·have := (h2 b hf).1; omega
  ·exact hs.own b h hf
 ·have hf := h2 b (.inl ho);rcases st.ro' b hr with h | h | h
  ·exact hs.own' b ho h
  ·omega
  ·exact hs.own b h (.inl ho)

structure JOk (l : Nat) (W0 : World) (J : Nat -> G -> World -> Prop) : Prop where
 lrec : l < W0.heap.size
 size : ∀ k g W, J k g W -> W0.heap.size <= W.heap.size /\ ∀ b, g.foot b -> b < W.heap.size
 stay : ∀ k g W W', J k g W -> W'.os = W.os -> (W'.tape = W.tape /\ (Flag.p \/ W.drawn <= W'.drawn)) -> W'.output = W.output -> W.heap.size <= W'.heap.size -> (∀ b, b < W0.heap.size \/ g.foot b -> W'.heap[b]? = W.heap[b]?) -> J k g W'

def IInv (l : Nat) (W0 : World) (J : Nat -> G -> World -> Prop) (k : Nat) (g1 : G) (w : World) : Prop :=
 ∃ g, J k g w /\ Sep g1 g /\ (∀ b, g1.owns b -> W0.heap.size <= b) /\ ¬ g1.ro l

theorem IInv.step {l : Nat} {W0 : World} {J : Nat -> G -> World -> Prop} (hJ : JOk l W0 J) {k : Nat} {g1 g1' : G} {w w' : World} (h : IInv l W0 J k g1 w) (st : zam g1 w g1' w') : IInv l W0 J k g1' w' := by
 obtain ⟨g, hj, hs, ho, hr⟩ := h;obtain ⟨hsz, hf⟩ := hJ.size k g w hj;have hl := hJ.lrec;refine ⟨g, hJ.stay k g w w' hj st.os st.tape st.output st.size ?_, ⟨?_, ?_⟩, ?_, ?_⟩
 ·rintro b (hb | hb)
  ·exact st.block b (by omega) fun h => by have := ho b h; omega
  ·exact st.block b (hf b hb) fun h => hs.own b h hb
 ·intro b h1 h2;rcases st.own b h1 with h | h
  ·have := hf b h2; omega
  ·exact hs.own b h h2
 ·intro b h1 h2;have := hf b (.inl h1);rcases st.ro' b h2 with h | h | h
  ·exact hs.own' b h1 h
  ·omega
  ·exact hs.own b h (.inl h1)
 ·intro b h1;rcases st.own b h1 with h | h
  ·omega
  ·exact ho b h
 ·intro h1;rcases st.ro' l h1 with h | h | h
  ·exact hr h
  ·omega
  ·have := ho l h; omega

theorem IInv.rnd {l : Nat} {W0 : World} {J : Nat -> G -> World -> Prop} (hJ : JOk l W0 J) {k : Nat} {g1 g g' : G} {w w' : World} (hf1 : ∀ b, g1.foot b -> b < w.heap.size) (hs : Sep g1 g) (ho : ∀ b, g1.owns b -> W0.heap.size <= b) (hr : ¬ g1.ro l) (st : Rnd l g w g' w') (hj' : J (k + 1) g' w') :
  IInv l W0 J (k + 1) g1 w' /\ ∀ b, g1.foot b -> w'.heap[b]? = w.heap[b]? := by
 have hl := hJ.lrec;obtain ⟨h1, h2⟩ := hs.symm.rnd (x := l) (fun b hb => ⟨hf1 b hb, fun e => by
  subst e;rcases hb with hb | hb
  ·have := ho _ hb; omega
  ·exact hr hb⟩) st
 exact ⟨⟨g', hj', h2.symm, ho, hr⟩, h1⟩

def AWi (l : Nat) (W0 : World) (J : Nat -> G -> World -> Prop) (P : Program) (c : Code) (Q : Exit -> Nat × St -> Prop) (s : Nat × St) : Prop :=
 ∀ g1 a w, zcn s.2 g1 a w -> IInv l W0 J s.1 g1 w -> c.wp P (fun e a' w' => ∃ s' g1', zcn s'.2 g1' a' w' /\ IInv l W0 J s'.1 g1' w' /\ Q e s') a w

section
variable {l : Nat} {W0 : World} {J : Nat -> G -> World -> Prop} {P : Program} {Q : Exit -> Nat × St -> Prop} {s : Nat × St}
def seqI (K : Nat × St -> Prop) (Q : Exit -> Nat × St -> Prop) : Exit -> Nat × St -> Prop
 | .normal, s => K s
 | e, s => Q e s
def zsf (id : Nat) (Q : Exit -> Nat × St -> Prop) : Exit -> Nat × St -> Prop
 | .exit id', s => if id' = id then Q .normal s else Q (.exit id') s
 | e, s => Q e s

theorem zdr (hJ : JOk l W0 J) {c : Code} (h : AWp P c (fun e s' => Q e (s.1, s')) s.2) : AWi l W0 J P c Q s :=
 fun g1 a w hr hi => wp_mono (h g1 a w hr) fun e a' w' ⟨s', g', h1, h2, h3⟩ => ⟨(s.1, s'), g', h1, hi.step hJ h2, h3⟩
theorem zdd {x y : Code} (h : AWi l W0 J P x (seqI (fun s' => AWi l W0 J P y Q s') Q) s) : AWi l W0 J P (.seq x y) Q s := by
 intro g a w hr hi;refine wp_seq (wp_mono (h g a w hr hi) fun e a' w' ⟨s', g', h1, h2, h3⟩ => ?_);cases e with
 | normal => exact h3 g' a' w' h1 h2
 | _ => exact ⟨s', g', h1, h2, h3⟩
theorem zwv {c : Operand} {x y : Code} {b : Bool} (hc : s.2.eval c = .d (.bool b)) (ht : b = true -> AWi l W0 J P x Q s) (hf : b = false -> AWi l W0 J P y Q s) : AWi l W0 J P (.cond c x y) Q s := by
 intro g a w hr hi;have h1 := zec hr (fun _ => rfl) c;rw [hc] at h1;simp only [zi, zv] at h1;exact wp_cond_split h1 (fun hb => ht hb g a w hr hi) (fun hb => hf hb g a w hr hi)
theorem zbr {id : Nat} {c : Code} (h : AWi l W0 J P c (zsf id Q) s) : AWi l W0 J P (.block id c) Q s := by
 intro g a w hr hi;refine wp_block (wp_mono (h g a w hr hi) fun e a' w' ⟨s', g', h1, h2, h3⟩ => ?_);cases e with
 | exit id' =>
  simp only [zsf] at h3;simp only [Exit.inBlock];split at h3
  ·rename_i he; rw [if_pos he]; exact ⟨s', g', h1, h2, h3⟩
  ·rename_i he; rw [if_neg he]; exact ⟨s', g', h1, h2, h3⟩
 | _ => exact ⟨s', g', h1, h2, h3⟩
theorem awi_weak (hJ : JOk l W0 J) {c : Code} {s' : St} (hw : zei s.2 s') (h : AWi l W0 J P c Q (s.1, s')) : AWi l W0 J P c Q s := by
 intro g a w hr hi;obtain ⟨g', hr', hs⟩ := hw g a w hr;exact h g' a w hr' (hi.step hJ hs)
theorem awi_loop (hJ : JOk l W0 J) {c : Code} {β : Type} (I : β -> Nat × St) (inv : β -> Prop) (meas : β -> Nat) (b0 : β) (h0 : zei s.2 (I b0).2) (hk : s.1 = (I b0).1) (hi : inv b0)
  (round : ∀ b, inv b -> AWi l W0 J P c (seqI (fun s' => ∃ b', inv b' /\ meas b' < meas b /\ s'.1 = (I b').1 /\ zei s'.2 (I b').2) Q) (I b)) : AWi l W0 J P (.loop c) Q s := by
 refine awi_weak hJ h0 ?_;rw [hk];intro g a w hr hiv;refine zqp (fun n a' w' => ∃ b g', inv b /\ meas b = n /\ zcn (I b).2 g' a' w' /\ IInv l W0 J (I b).1 g' w') ?_ (n := meas b0) ⟨b0, g, hi, rfl, hr, hiv⟩;rintro n a1 w1 ⟨b, g1, hb, rfl, hr1, hs1⟩;refine wp_mono (round b hb g1 a1 w1 hr1 hs1) fun e a2 w2 ⟨s2, g2, h1, h2, h3⟩ => ?_;cases e with
 | normal =>
  obtain ⟨b', k1, k2, k4, k3⟩ := h3;obtain ⟨g3, h4, h5⟩ := k3 g2 a2 w2 h1;rw [k4] at h2;exact ⟨meas b', k2, b', g3, k1, rfl, h4, h2.step hJ h5⟩
 | _ => exact ⟨s2, g2, h1, h2, h3⟩
end

def JRound (m l : Nat) (P : Program) (J : Nat -> G -> World -> Prop) (xs : List D) : Prop :=
 ∀ (k : Nat) (g : G) (W : World) (x : D) (v : Value), xs[k]? = some x -> J k g W -> zv (fun _ => False) W x v ->
  YieldAt Fence.wide m P l #[v] W fun e W' => e = .returned (.bool true) /\ ∃ g', J (k + 1) g' W' /\ Rnd l g W g' W'

theorem awi_yield {l : Nat} {W0 : World} {J : Nat -> G -> World -> Prop} {P : Program} {ty : TypeId -> Option TI} (hc : Ctx P ty) (hJ : JOk l W0 J) {m : Nat} {xs : List D} (hR : JRound m l P J xs) {id : Nat} {ls pre post : List Oper} {o : Oper} (hl : ls = pre ++ o :: post) (hg : o.guard = none) {cl : Call} {fo x : Operand} (ho : o.op = .call cl) (hcal : cl.callee = .value fo) (hargs : cl.args = #[x]) (d : Tmp) (hdst : o.dst = some d) (hd : zea ls = true) {s : Nat × St} {dx : D} (hx : xs[s.1]? = some dx) (hfree : dx.free = true) {Q : Exit -> Nat × St -> Prop}
  (h : ∀ K : St -> Prop, (∀ s', Q .normal (s.1 + 1, s') -> K s') -> wpT ty P [] (ls.map (·.dst)) s.2.nxt 0 pre { s.2 with nxt := s.2.nxt + ls.length } fun s1 => s1.eval fo = .d (.fn (.yield l) []) /\ s1.eval x = .d dx /\ d < s1.n /\ wpT ty P [] (ls.map (·.dst)) s.2.nxt (pre.length + 1) post (s1.put (some d) (.d (.bool true))) K) :
  AWi l W0 J P (.region id ls.toArray false) Q s := by
 intro g1 a w hr hi;rw [<- wpIn_wide (n := m + 1)];refine wpIn_region_lit ?_;have hgs : ∀ j : Nat, (ls.map (·.dst))[j]? = (ls.toArray[j]?).map fun o : Oper => o.dst := by intro j; simp
 have hlen : ls.length = pre.length + 1 + post.length := by rw [hl]; simp; omega
 have hd1 : zea pre = true := by rw [hl] at hd; simp only [zea, List.all_append, Bool.and_eq_true] at hd; exact hd.1
 have hd2 : zea post = true := by rw [hl] at hd; simp only [zea, List.all_append, List.all_cons, Bool.and_eq_true] at hd; exact hd.2.2
 have h0 := h (fun s' => Q .normal (s.1 + 1, s')) (fun _ hq => hq);have key := zhc (free_wide (m + 1)) (P := P) hc (orc := []) (gs := ls.map (·.dst)) (ops := ls.toArray) hgs (base := s.2.nxt) (nxt := s.2.nxt + ls.length)
  (Q := fun e a' w' => ∃ s' g1', zcn s'.2 g1' a' w' /\ IInv l W0 J s'.1 g1' w' /\ Q e s') (g0 := g1) (w0 := w) (l2 := o :: post) (en := pre.length) (n0 := s.2.n)
  (K := fun s1 => s1.eval fo = .d (.fn (.yield l) []) /\ s1.eval x = .d dx /\ d < s1.n /\ wpT ty P [] (ls.map (·.dst)) s.2.nxt (pre.length + 1) post (s1.put (some d) (.d (.bool true))) fun s' => Q .normal (s.1 + 1, s')) ?_ pre 0 { s.2 with nxt := s.2.nxt + ls.length } g1 a w hd1 (by simp) rfl rfl ⟨hr.defers, hr.size, hr.tmp, fun id hu => by have := hr.used id hu; simpa using this, hr.heap⟩ (zam.refl g1 w) h0
 ·rw [<- hl] at key; exact key
 ·intro s1 g2 a1 w1 hnx hn0 hrel hst hk;obtain ⟨e1, e2, e3, hk⟩ := hk;have hi1 := hi.step hJ hst;obtain ⟨g, hj, hs, how, hro⟩ := hi1;have hfo := zec hrel (s := s1) (fun _ => rfl) fo;rw [e1] at hfo;simp only [zi, zv] at hfo;obtain ⟨vs, hfv, hvs⟩ := hfo;have hvs0 : vs = [] := by
   cases vs with
   | nil => rfl
   | cons v vs => simp [zt] at hvs
  subst hvs0;have hxv := zec hrel (s := s1) (fun _ => rfl) x;rw [e2] at hxv;simp only [zi] at hxv;obtain ⟨fn, tmps, assign, body, hy, hround⟩ := hR s.1 g w1 dx (a1.eval x) hx hj (zv.anywhere _ _ hfree hxv);simp only [wpListIn];have hw : Region.wanted o (yielded ls.toArray a1.tmps) = true := by simp [Region.wanted, hg]
  rw [if_pos hw];refine ⟨fun _ _ => trivial, ?_⟩;have hrun : (o.semAt Fence.wide.round a1.eval).run P w1 = .ok (.round l fn tmps assign body) w1 := by
   have hsm : o.semAt Fence.wide.round a1.eval = execOp a1.eval o := Oper.semAt_eq _ _ _ (fun c hc => by rw [ho] at hc; cases hc);rw [hsm];unfold execOp;simp only [ho, resolve, hcal, Deferred.ofValue, hfv, Sem.run_bind, Sem.run_pure, Result.andThen_ok, invoke, hargs];simpa using hy
  rw [hrun, Oper.uponIn_round];refine ⟨fun hh => absurd hh (by simp [Fence.wide]), ?_⟩;refine RoundIn.mono (R := fun e W' => e = .returned (.bool true) /\ ∃ g', J (s.1 + 1) g' W' /\ Rnd l g w1 g' W') hround ?_;rintro e w2 ⟨rfl, g', hj', hrnd⟩;have hf1 : ∀ b, g2.foot b -> b < w1.heap.size := fun b hb => hrel.heap.foot_lt hb;obtain ⟨hi2, hfix⟩ := IInv.rnd hJ hf1 hs how hro hrnd hj';have hrel2 := hrel.stay hrnd.size hfix;have hput := zcb (U' := (· < s.2.nxt + (pre.length + 1))) (dst := some d) (v := .d (.bool true)) (u := .bool true) hrel2 hrel2.heap ⟨fun b hb => ⟨hb, rfl⟩, fun _ hx => hx, fun _ _ => .inl rfl⟩ (fun k hk => by have := hrel2.used k hk; show k < _; omega) (by simp [zi, zv]) (fun d' hd' => by cases hd'; exact e3);have hput2 := hput.congr (get' := (s1.put (some d) (.d (.bool true))).get) (obj' := (s1.put (some d) (.d (.bool true))).obj) (fun t => St.get_put s1 (some d) _ t) (fun id => zme s1 (some d) _ id);have fin := zhc (free_wide (m + 1)) (P := P) hc (orc := []) (gs := ls.map (·.dst)) (ops := ls.toArray) hgs (base := s.2.nxt) (nxt := s.2.nxt + ls.length)
   (Q := fun e a' w' => ∃ s' g1', zcn s'.2 g1' a' w' /\ IInv l W0 J s'.1 g1' w' /\ Q e s') (g0 := g2) (w0 := w2) (l2 := []) (en := pre.length + 1 + post.length) (n0 := s.2.n)
   (K := fun s' => Q .normal (s.1 + 1, s')) (fun s3 g3 a3 w3 hnx3 hn3 hrel3 hst3 hk3 => ⟨(s.1 + 1, s3), g3, ⟨hrel3.defers, hrel3.size, hrel3.tmp, fun id hu => by have := hrel3.used id hu; show id < s3.nxt; omega, hrel3.heap⟩, hi2.step hJ hst3, hk3⟩)
   post (pre.length + 1) (s1.put (some d) (.d (.bool true))) g2 (a1.put (some d) (.bool true)) w2 hd2 rfl hnx hn0 hput2 (zam.refl g2 w2) hk
  rw [List.append_nil] at fin;rw [hdst];exact fin

def IterOk (P : Program) (f : FuncId) (caps xs : List D) : Prop :=
 zha P f /\ ∀ (m l : Nat) (W0 : World) (J : Nat -> G -> World -> Prop) (g0 : G) (ro : Nat -> Prop) (vs : List Value), JOk l W0 J -> JRound m l P J xs -> J 0 g0 W0 -> zt ro W0 caps vs -> (∀ b, ro b -> b < W0.heap.size /\ b ≠ l /\ ¬ g0.owns b) ->
  Calls P f (.func (.yield l) #[] #[] :: vs).toArray W0 fun e W' => (∃ v, e = .returned v) /\ ∃ g', J xs.length g' W'

theorem iter_of_awi {P : Program} {f : FuncId} {fn : Func} {c : Code} {caps xs : List D} (hf : P.funcs[f]? = some fn) (hb : fn.body = some c) (hname : (fn.name == "runtime.NumGoroutine") = false) (hn : caps.length + 1 <= fn.ntmps) (hres : fn.results = #[])
  (h : ∀ (m l : Nat) (W0 : World) (J : Nat -> G -> World -> Prop), JOk l W0 J -> JRound m l P J xs -> AWi l W0 J P c (fun e s' => (e = .normal \/ e = .ret) /\ s'.1 = xs.length) (0, start fn.ntmps (.fn (.yield l) [] :: caps))) : IterOk P f caps xs := by
 refine ⟨⟨fn, hf, hname, by rw [hb]; rfl⟩, fun m l W0 J g0 ro vs hJ hR hj0 hd hro => ?_⟩;have hd2 : zt ro W0 (.fn (.yield l) [] :: caps) (.func (.yield l) #[] #[] :: vs) := by
  simp only [zt, zv];exact ⟨_, vs, rfl, ⟨[], rfl, rfl⟩, hd⟩
 have hst := start_rel (fun b hb => (hro b hb).1) hd2 (n := fn.ntmps) (by simpa using hn);refine calls_of_wp hf hb (wp_mono (h m l W0 J hJ hR _ _ W0 hst ⟨g0, hj0, ⟨?_, ?_⟩, ?_, ?_⟩) fun e a' w' ⟨s', g', h1, ⟨g, hj, _⟩, h3, h4⟩ => ?_)
 ·rintro b ⟨_, _, hh, _⟩; cases hh
 ·intro b ho hr; exact (hro b hr).2.2 ho
 ·rintro b ⟨_, _, hh, _⟩; cases hh
 ·intro hr; exact (hro l hr).2.1 rfl
 ·have hj' : J xs.length g w' := by rw [<- h4]; exact hj
  have fin : a'.defers = [] /\ ∃ v, (results fn a'.tmps).run P w' = .ok v w' /\ (∃ v', Ending.returned v = .returned v') /\ ∃ g', J xs.length g' w' := ⟨h1.defers, _, results_none hres _ _ _, ⟨_, rfl⟩, g, hj'⟩
  rcases h3 with rfl | rfl
  ·exact fin
  ·exact fin

section
variable {l : Nat} {W0 : World} {J : Nat -> G -> World -> Prop} {P : Program} {K : Nat × St -> Prop} {Q : Exit -> Nat × St -> Prop} {s : Nat × St} {id i : Nat}
theorem zch (h : Q .normal s) : AWi l W0 J P .skip Q s := fun g a w hr hi => wp_skip ⟨s, g, hr, hi, h⟩
theorem zci {id : Nat} (h : Q (.exit id) s) : AWi l W0 J P (.exit id) Q s := fun g a w hr hi => wp_exit ⟨s, g, hr, hi, h⟩
theorem zde (h : Q .ret s) : AWi l W0 J P .ret Q s := fun g a w hr hi => wp_ret ⟨s, g, hr, hi, h⟩
theorem znd (h : K s) : seqI K Q .normal s := h
theorem znc (h : Q .ret s) : seqI K Q .ret s := h
theorem znb (h : Q (.exit i) s) : seqI K Q (.exit i) s := h
theorem zoh (h : Q .normal s) : zsf id Q .normal s := h
theorem zog (h : Q .ret s) : zsf id Q .ret s := h
theorem zof (h : Q .normal s) : zsf id Q (.exit id) s := by simp only [zsf, if_true]; exact h
theorem zoe (hn : Nat.beq i id = false) (h : Q (.exit i) s) : zsf id Q (.exit i) s := by
 simp only [zsf];rw [if_neg (Nat.ne_of_beq_eq_false hn)]; exact h
end
theorem wv {p q : Prop} (k : q) (e : q -> p := by intro k; (try dsimp only); (repeat (first | refine zdd ?_ | refine zbr ?_ | refine zch ?_ | refine zci ?_ | refine zde ?_ | refine znd ?_ | refine znc ?_ | refine znb ?_ | refine zoh ?_ | refine zog ?_ | refine zof ?_ | refine zoe rfl ?_)); exact k) : p := e k
end Go.Abs

namespace Go.Proofs.YtdddknniooimmaaGreat
open Go.Abs

theorem all_ok (R : List Row) : PC Tryz.prog 113 [.agg (zp R)] (.p (.fn (.func 165) [.rp (zp R)])) := by
 refine pw cx Tryz.func113 Tryz.ntmps113 ?_;refine rg cx ?_;refine rg cx ?_;simp [push_cast, zrh]
theorem cells_at {R : List Row} {i j q : Nat} {w : Row} {r : Run} (hw : R[i]? = some w) (hr : w.runs[j]? = some r) (hq : q < (r.b - r.a).toNat) :
  (zl R)[(zfu R i).length + ((zjv w j).length + q)]? = some ⟨r.a + q, w.y⟩ := by
 have h1 : zl R = zfu R i ++ zcg w ++ (R.drop (i + 1)).flatMap zcg := flat_split zcg hw;have h2 : zcg w = zjv w j ++ zco w.y r ++ (w.runs.drop (j + 1)).flatMap (zco w.y) := flat_split (zco w.y) hr;have hl := zgd w.y r;rw [h1, List.append_assoc, List.getElem?_append_right (by omega), Nat.add_sub_cancel_left, h2];rw [List.append_assoc, List.append_assoc, List.getElem?_append_right (by omega), Nat.add_sub_cancel_left, List.getElem?_append_left (by omega)];simp [zco, hq]
def zkm (R : List Row) : List D := (zl R).map fun c => .agg c.row

set_option maxHeartbeats 4000000 in
theorem iter_ok (R : List Row) (hsm : zbw R) (hv : zo R = true) : IterOk Tryz.prog 165 [.rp (zp R)] (zkm R) := by
 have hRl := hsm.1;have hlen : (zkm R).length = (zl R).length := by simp [zkm]
 rw [<- rowsTo_all] at hlen;refine iter_of_awi (fn := Tryz.f165) (c := _) Tryz.func165 rfl rfl (lB rfl) rfl fun m l W0 J hJ hR => ?_;rw [Tryz.ntmps165]; (repeat (first | refine zdd ?_ | refine zbr ?_ | refine zch ?_ | refine zci ?_ | refine zde ?_ | refine znd ?_ | refine znc ?_ | refine znb ?_ | refine zoh ?_ | refine zog ?_ | refine zof ?_ | refine zoe rfl ?_));rw [hlen];clear hlen;refine zdr hJ (zd cx [] fun K hK => ?_);simp [push_cast]
 repeat refine ob ?_
 refine hK _ ?_; clear hK K; refine wv ?_;refine awi_loop hJ (β := Nat) (fun i => ((zfu R i).length, ⟨39, [(0, .d (.fn (.yield l) [])), (9, .d (zz R)), (10, .d (.int .i64 R.length)), (11, .d (.int .i64 i))], [], 0⟩)) (fun i => i <= R.length) (fun i => R.length - i) 0 ?_ (by simp [zfu]) (Nat.zero_le _) ?_
 ·refine wk []
 ·intro i hi
  replace hi : i <= R.length := hi
  (repeat (first | refine zdd ?_ | refine zbr ?_ | refine zch ?_ | refine zci ?_ | refine zde ?_ | refine znd ?_ | refine znc ?_ | refine znb ?_ | refine zoh ?_ | refine zog ?_ | refine zof ?_ | refine zoe rfl ?_))
  refine zdr hJ (zd cx [] fun K hK => ?_);simp [push_cast]
  repeat refine ob ?_
  refine hK _ ?_; clear hK K; refine wv ?_;refine zwv (b := decide ((i : Int) < R.length)) (by simp [push_cast]) (fun hb => ?_) (fun hb => ?_) <;> ((repeat (first | refine zdd ?_ | refine zbr ?_ | refine zch ?_ | refine zci ?_ | refine zde ?_ | refine znd ?_ | refine znc ?_ | refine znb ?_ | refine zoh ?_ | refine zog ?_ | refine zof ?_ | refine zoe rfl ?_)))
  ·have hlt : i < R.length := by simpa using hb
   obtain ⟨w, hw⟩ := zap hlt;have e0 := wI ((i : Int) + 1);have hwl := hsm.2 w (List.mem_of_getElem? hw);have hfine := (zdv hv hw).2;have hnx : (zfu R i).length + (zjv w w.runs.length).length = (zfu R (i + 1)).length := by rw [zqz hw, runsTo_all, List.length_append]
   refine zdr hJ (zd cx [] fun K hK => ?_);simp [push_cast, hw, Row.row]
   repeat refine ob ?_
   refine hK _ ?_; clear hK K; refine wv ?_;refine zdr hJ (zd cx [] fun K hK => ?_);simp [push_cast]
   repeat refine ob ?_
   refine hK _ ?_; clear hK K; refine wv ?_;generalize hX : (zfu R i).length = X at *;refine awi_loop hJ (β := Nat) (fun j => (X + (zjv w j).length, ⟨39, [(0, .d (.fn (.yield l) [])), (4, .ptr 0 0 0), (9, .d (zz R)), (10, .d (.int .i64 R.length)), (11, .d (.int .i64 i)), (16, .d (zm w.runs)), (17, .d (.int .i64 w.runs.length)), (18, .d (.int .i64 j))], [(0, some ⟨65, 2, [[.d (.int .i64 w.y), .d (zm w.runs)]]⟩)], 1⟩)) (fun j => j <= w.runs.length) (fun j => w.runs.length - j) 0 ?_ (by simp [zjv]) (Nat.zero_le _) ?_
   ·dsimp only
    refine wk [(0, some 3)]
   ·intro j hj
    replace hj : j <= w.runs.length := hj
    (repeat (first | refine zdd ?_ | refine zbr ?_ | refine zch ?_ | refine zci ?_ | refine zde ?_ | refine znd ?_ | refine znc ?_ | refine znb ?_ | refine zoh ?_ | refine zog ?_ | refine zof ?_ | refine zoe rfl ?_))
    refine zdr hJ (zd cx [] fun K hK => ?_);simp [push_cast]
    repeat refine ob ?_
    refine hK _ ?_; clear hK K; refine wv ?_;refine zwv (b := decide ((j : Int) < w.runs.length)) (by simp [push_cast]) (fun hb => ?_) (fun hb => ?_) <;> ((repeat (first | refine zdd ?_ | refine zbr ?_ | refine zch ?_ | refine zci ?_ | refine zde ?_ | refine znd ?_ | refine znc ?_ | refine znb ?_ | refine zoh ?_ | refine zog ?_ | refine zof ?_ | refine zoe rfl ?_)))
    ·have hlj : j < w.runs.length := by simpa using hb
     obtain ⟨r, hr⟩ := zap hlj;have e1 := wI ((j : Int) + 1);have hrb := ziy hfine hr;have hrl := zgd w.y r;have hat := fun q hq => @cells_at R i j q w r hw hr hq;have hnr : (zjv w j).length + (r.b - r.a).toNat = (zjv w (j + 1)).length := by rw [runsTo_next hr, List.length_append, hrl]
     rw [hX] at hat;generalize (zjv w j).length = Y at *;obtain ⟨ra, rb⟩ := r;simp only at hrb hrl hat hnr;refine zdr hJ (zd cx [] fun K hK => ?_);simp [push_cast, hr, Run.row]
     repeat refine ob ?_
     refine hK _ ?_; clear hK K; refine wv ?_;refine zdr hJ (zd cx [] fun K hK => ?_);simp [push_cast]
     repeat refine ob ?_
     refine hK _ ?_; clear hK K; refine wv ?_;refine awi_loop hJ (β := Nat) (fun q => (X + (Y + q), ⟨39, [(0, .d (.fn (.yield l) [])), (4, .ptr 0 0 0), (6, .ptr 1 0 0), (7, .d (.int .i64 (ra + q))), (9, .d (zz R)), (10, .d (.int .i64 R.length)), (11, .d (.int .i64 i)), (16, .d (zm w.runs)), (17, .d (.int .i64 w.runs.length)), (18, .d (.int .i64 j))], [(0, some ⟨65, 2, [[.d (.int .i64 w.y), .d (zm w.runs)]]⟩), (1, some ⟨85, 2, [[.d (.int .i64 ra), .d (.int .i64 rb)]]⟩)], 2⟩)) (fun q => q <= (rb - ra).toNat) (fun q => (rb - ra).toNat - q) 0 ?_ (by simp) (Nat.zero_le _) ?_
     ·dsimp only
      refine wk [(0, some 0), (1, some 4)]
     ·intro q hq
      replace hq : q <= (rb - ra).toNat := hq
      (repeat (first | refine zdd ?_ | refine zbr ?_ | refine zch ?_ | refine zci ?_ | refine zde ?_ | refine znd ?_ | refine znc ?_ | refine znb ?_ | refine zoh ?_ | refine zog ?_ | refine zof ?_ | refine zoe rfl ?_))
      refine zdr hJ (zd cx [] fun K hK => ?_);simp [push_cast]
      repeat refine ob ?_
      refine hK _ ?_; clear hK K; refine wv ?_;refine zwv (b := decide (ra + (q : Int) < rb)) (by simp [push_cast]) (fun hb => ?_) (fun hb => ?_) <;> ((repeat (first | refine zdd ?_ | refine zbr ?_ | refine zch ?_ | refine zci ?_ | refine zde ?_ | refine znd ?_ | refine znc ?_ | refine znb ?_ | refine zoh ?_ | refine zog ?_ | refine zof ?_ | refine zoe rfl ?_)))
      ·have hql : q < (rb - ra).toNat := by simp at hb; omega
       have e2 := wI (ra + (q : Int) + 1);have hx : (zkm R)[X + (Y + q)]? = some (.agg [.int .i64 (ra + q), .int .i64 w.y]) := by
        unfold zkm;rw [List.getElem?_map, hat q hql]; rfl
       refine awi_yield cx hJ hR (pre := [_, _, _, _, _]) (post := [_]) rfl rfl rfl rfl rfl 35 rfl rfl hx rfl fun K hK => ?_;simp [push_cast];refine hK _ ?_;clear hK K
       (try dsimp only)
       (repeat (first | refine zdd ?_ | refine zbr ?_ | refine zch ?_ | refine zci ?_ | refine zde ?_ | refine znd ?_ | refine znc ?_ | refine znb ?_ | refine zoh ?_ | refine zog ?_ | refine zof ?_ | refine zoe rfl ?_))
       refine zwv (b := false) (by simp [push_cast]) (fun hb => ?_) (fun hb => ?_) <;> ((repeat (first | refine zdd ?_ | refine zbr ?_ | refine zch ?_ | refine zci ?_ | refine zde ?_ | refine znd ?_ | refine znc ?_ | refine znb ?_ | refine zoh ?_ | refine zog ?_ | refine zof ?_ | refine zoe rfl ?_)))
       ·simp at hb
       ·refine zdr hJ (zd cx [] fun K hK => ?_);simp [push_cast, e2]
        repeat refine ob ?_
        refine hK _ ?_; clear hK K; refine wv ?_;refine ⟨q + 1, hql, by omega, by simp only; omega, ?_⟩
        dsimp only
        have e3 : ra + ((q : Int) + 1) = ra + q + 1 := by omega
        refine wq [(0, some 0), (1, some 1)] (by simp [upT, upH, upR, upL, up, push_cast, e3])
      ·have hqe : q = (rb - ra).toNat := by simp at hb; omega
       subst hqe;refine zdr hJ (zd cx [] fun K hK => ?_);simp [push_cast, e1]
       repeat refine ob ?_
       refine hK _ ?_; clear hK K; refine wv ?_;refine ⟨j + 1, hlj, by omega, by simp only; omega, ?_⟩
       dsimp only
       refine wk [(0, some 0)]
    ·have hje : j = w.runs.length := by simp at hb; omega
     subst hje;refine zdr hJ (zd cx [] fun K hK => ?_);simp [push_cast, e0]
     repeat refine ob ?_
     refine hK _ ?_; clear hK K; refine wv ?_;refine ⟨i + 1, hlt, by omega, by simp only; omega, ?_⟩
     dsimp only
     refine wk []
  ·have hie : i = R.length := by simp at hb; omega
   subst hie;exact ⟨.inl rfl, rfl⟩
end Go.Proofs.YtdddknniooimmaaGreat

namespace Go.Abs
variable [Flag]
open Go.RowKit

theorem zam.foot {g g' : G} {w w' : World} (h : zam g w g' w') {b : Nat} (hb : b < w.heap.size) (hn : ¬ g.foot b) : ¬ g'.foot b := by
 rintro (h1 | h1)
 ·rcases h.own b h1 with h2 | h2
  ·omega
  ·exact hn (.inl h2)
 ·rcases h.ro' b h1 with h2 | h2 | h2
  ·exact hn (.inr h2)
  ·omega
  ·exact hn (.inl h2)
theorem zam.put {g g' : G} {w w' : World} (h : zam g w g' w') {l : Nat} (o : Obj) (hl : w.heap.size <= l) : zam g w g' (w'.putObj l o) :=
 ⟨h.os, h.tape, h.output, by simpa using h.size, fun b h1 h2 => by rw [World.putObj_heap_other (by omega)]; exact h.block b h1 h2, h.own, h.ro, h.ro'⟩
theorem zam.allocB {g g' : G} {w w' : World} (h : zam g w g' w') (o : Obj) : zam g w g' (w'.alloc o) :=
 ⟨h.os, h.tape, h.output, by have := h.size; simp; omega, fun b h1 h2 => by
  have := h.size;have e : (w'.alloc o).heap[b]? = w'.heap[b]? := by
   show (w'.heap.push o)[b]? = _
   rw [Array.getElem?_push_lt (by omega), Array.getElem?_eq_getElem (by omega)]
  rw [e]; exact h.block b h1 h2, h.own, h.ro, h.ro'⟩
theorem Rnd.step {x : Nat} {g g' g'' : G} {w w' w'' : World} (h : Rnd x g w g' w') (k : zam g' w' g'' w'') : Rnd x g w g'' w'' := by
 have hs := h.size;refine ⟨Nat.le_trans h.size k.size, fun b h1 h2 h3 => ?_, fun b hb => ?_, fun b hb => ?_⟩
 ·rw [k.block b (by omega) fun ho => by
   rcases h.own b ho with h4 | h4
   ·omega
   ·exact h2 h4]
  exact h.block b h1 h2 h3
 ·rcases k.own b hb with h1 | h1
  ·exact .inl (by omega)
  ·exact h.own b h1
 ·rcases k.ro' b hb with h1 | h1 | h1
  ·exact h.ro' b h1
  ·exact .inr (.inl (by omega))
  ·rcases h.own b h1 with h2 | h2
   ·exact .inr (.inl h2)
   ·exact .inr (.inr h2)
theorem Rnd.put {x : Nat} {g g' : G} {w w' : World} (h : Rnd x g w g' w') (o : Obj) : Rnd x g w g' (w'.putObj x o) :=
 ⟨by simpa using h.size, fun b h1 h2 h3 => by rw [World.putObj_heap_other h3]; exact h.block b h1 h2 h3, h.own, h.ro'⟩
theorem Rel.put {U : Nat -> Prop} {g : G} {get : Nat -> AV} {obj : Nat -> Option Ob} {n : Nat} {a : Act} {w : World} (h : Rel U g get obj n a w) {l : Nat} (o : Obj) (hl : ¬ g.foot l) : Rel U g get obj n a (w.putObj l o) :=
 h.stay (by simp) fun b hb => World.putObj_heap_other fun e => hl (e ▸ hb)

def S1 (n t pn id : Nat) (L : Loc) (hp : List (Nat × Option Ob)) (nx : Nat) : St := ⟨n, [(t, .ptr id 0 0), (pn, .pin id L)], hp, nx⟩
theorem S1_tmps {n t pn id : Nat} {L : Loc} {hp : List (Nat × Option Ob)} {nx : Nat} (htp : t ≠ pn) {g : G} {a a' : Act} {w : World} (h : zcn (S1 n t pn id L hp nx) g a' w) (hd : a.defers = []) (hs : a.tmps.size = n)
  (hv : (a.tmps.getD t undef).oneCell' = true /\ (L.virt = false /\ L.map = false) /\ a.tmps.getD t undef = .pointer (some ⟨L.blk, 0 * L.m + 0, none⟩)) : zcn (S1 n t pn id L hp nx) g a w := by
 have hpin : g.used id /\ ∀ M, g.loc id = some M -> M = L := by
  have := h.tmp pn;rw [show (S1 n t pn id L hp nx).get pn = .pin id L from by simp [S1, St.get, find, htp]] at this;simpa [zi] using this
 refine ⟨hd, hs, fun x => ?_, h.used, h.heap⟩;by_cases e : x = t
 ·subst e;rw [show (S1 n x pn id L hp nx).get x = .ptr id 0 0 from by simp [S1, St.get, find]];simp only [zi];exact ⟨⟨hpin.1, hv.1⟩, fun M hM => by rw [hpin.2 M hM]; exact hv.2⟩
 ·by_cases e2 : x = pn
  ·subst e2;rw [show (S1 n t x id L hp nx).get x = .pin id L from by simp [S1, St.get, find, htp]];simp only [zi]; exact hpin
  ·rw [show (S1 n t pn id L hp nx).get x = .any from by simp [S1, St.get, find, Ne.symm e, Ne.symm e2]];simp [zi]

theorem range_sound {m : Nat} {P : Program} {a : Act} {w : World} {s : St} {g0 : G} (hr : zcn s g0 a w) {go : Operand} {f : FuncId} {caps xs : List D} (hgv : s.eval go = .d (.fn (.func f) caps)) (hit : IterOk P f caps xs)
  {t pn idS id pt nx : Nat} (htp : t ≠ pn) (hpn : s.n <= pn) (hgt : s.get t = .ptr idS 0 0) (hptn : pt < s.n) {o : Ob} (hob : s.obj idS = some o) (hus : idS < s.nxt) (I : Nat -> List (Nat × Option Ob))
  (hstart : ∀ L, zei { s with tm := (pn, .pin idS L) :: s.tm } (S1 s.n t pn id L (I 0) nx)) {assign body : Code}
  (hbody : ∀ L k x, xs[k]? = some x -> AWr m P assign (fun e s1 => e = .normal /\ AWr m P body (fun e s2 => e = .normal /\ zei s2 (S1 s.n t pn id L (I (k + 1)) nx)) s1) { S1 s.n t pn id L (I k) nx with tm := (pt, .d x) :: (S1 s.n t pn id L (I k) nx).tm })
  {Q : Exit -> Act -> World -> Prop}
  (hdone : ∀ g' W D L, zcn (S1 s.n t pn id L (I xs.length) nx) g' a W -> zam g0 w g' W -> w.heap.size <= D -> W.heap[D]? = some (.deferred (some [])) -> ¬ g'.foot D -> Q .normal { a with defers := { target := .collected D, args := #[] } :: a.defers } W) :
  (Code.rangeFunc go #[pt] assign body).wpIn Fence.wide (m + 2) P Q a w := by
 -- the iterator's value
 have hval := zec hr (s := s) (fun _ => rfl) go;rw [hgv] at hval;simp only [zi, zv] at hval;obtain ⟨vs, hgo, hcaps⟩ := hval
 -- the variable's place
 obtain ⟨L, hL, _⟩ := hr.heap.own idS o hob;have hused : g0.used idS := (hr.heap.live idS L hL).1;have hptr := hr.tmp t;have hgt' : s.get t = .ptr idS 0 0 := hgt;rw [hgt'] at hptr;simp only [zi] at hptr;have hv : (a.tmps.getD t undef).oneCell' = true /\ (L.virt = false /\ L.map = false) /\ a.tmps.getD t undef = .pointer (some ⟨L.blk, 0 * L.m + 0, none⟩) := ⟨hptr.1.2, hptr.2 L hL⟩
 have hr1 : zcn { s with tm := (pn, .pin idS L) :: s.tm } g0 a w := by
  refine ⟨hr.defers, hr.size, fun x => ?_, hr.used, hr.heap⟩;by_cases e : pn = x
  ·subst e;rw [show St.get { s with tm := (pn, .pin idS L) :: s.tm } pn = .pin idS L from by simp [St.get, find]];simp only [zi]; exact ⟨hused, fun M hM => by rw [hL] at hM; exact (Option.some.inj hM).symm⟩
  ·rw [show St.get { s with tm := (pn, .pin idS L) :: s.tm } x = s.get x from by simp [St.get, find, e]];exact hr.tmp x
 obtain ⟨g1, hS0, hst0⟩ := hstart L g0 a w hr1;obtain ⟨fnf, hfn, hname, hbodyf⟩ := hit.1;have eg : ∀ args w, (callFunc f args).run P w = .ok (.enter f args) w := fun args w => by
  simp only [callFunc, Sem.run_bind, run_program, Result.andThen_ok, hfn, hname, hbodyf, Bool.false_eq_true, if_false, Sem.run_pure]
 refine wpIn_rangeFunc ?_;intro fn hfn';rw [Fence.wide_round];obtain ⟨rec, hrec⟩ : ∃ rec : LoopState -> Option Code -> Loop, rec = fun st pe => { state := st, pending := pe, fn, tmps := a.tmps, params := #[pt], assign, body, defers := w.heap.size } := ⟨_, rfl⟩
 obtain ⟨W1, hW1⟩ : ∃ W1, (w.alloc (.deferred (some []))).alloc (.loop (rec .ready none)) = W1 := ⟨_, rfl⟩
 have hsz1 : W1.heap.size = w.heap.size + 2 := by rw [<- hW1]; simp
 have hL1 : W1.heap[w.heap.size + 1]? = some (.loop (rec .ready none)) := by
  rw [<- hW1]; have := World.alloc_heap_new (w.alloc (.deferred (some []))) (.loop (rec .ready none)); rwa [World.size_alloc] at this
 have hK1 : W1.heap[w.heap.size]? = some (.deferred (some [])) := by
  rw [<- hW1]
  show ((w.alloc (.deferred (some []))).heap.push _)[w.heap.size]? = _
  rw [Array.getElem?_push_lt (by simp), <- Array.getElem?_eq_getElem (by simp)];exact World.alloc_heap_new w _
 have hst1 : zam g0 w g1 W1 := by rw [<- hW1]; exact (hst0.allocB _).allocB _
 have hlow : ∀ b, b < w.heap.size -> W1.heap[b]? = w.heap[b]? := fun b hb => by
  have h := (zam.refl ⟨fun _ => False, fun _ => none, fun _ => False⟩ w).allocB (.deferred (some []));have h2 := (h.allocB (.loop (rec .ready none))).block b hb (by rintro ⟨_, _, hh, _⟩; cases hh);rw [hW1] at h2; exact h2
 refine ⟨w.heap.size + 1, [{ target := .collected w.heap.size, args := #[] }], W1, { target := .fn (.func f) vs.toArray, args := #[.func (.yield (w.heap.size + 1)) #[] #[]] }, W1, f,
  #[.func (.yield (w.heap.size + 1)) #[] #[]] ++ vs.toArray, W1, ?_, ?_, fun _ _ => trivial, ?_, fun h => absurd h (by simp [Fence.wide]), ?_⟩
 ·rw [<- hW1, hrec]; exact run_enterLoop_outer _ _ _ _ _
 ·simp only [resolve, hgo];simp [go_sem]
 ·simp [invoke, go_sem, eg]
 ·let J : Nat -> G -> World -> Prop := fun k g W => zcn (S1 s.n t pn id L (I k) nx) g a W /\ zam g0 w g W /\ W.heap[w.heap.size + 1]? = some (.loop (rec .ready none)) /\ W.heap[w.heap.size]? = some (.deferred (some [])) /\ ¬ g.foot (w.heap.size + 1) /\ ¬ g.foot w.heap.size
  have hfoot0 : ∀ b, g1.foot b -> b < w.heap.size := fun b hb => hS0.heap.foot_lt hb;have hJ0 : J 0 g1 W1 := ⟨hS0.stay (by omega) fun b hb => hlow b (hfoot0 b hb), hst1, hL1, hK1, fun h => by have := hfoot0 _ h; omega, fun h => by have := hfoot0 _ h; omega⟩
  have hJ : JOk (w.heap.size + 1) W1 J := by
   refine ⟨by omega, fun k g W ⟨h1, h2, h3, h4, h5, h6⟩ => ⟨?_, fun b hb => h1.heap.foot_lt hb⟩, fun k g W W' ⟨h1, h2, h3, h4, h5, h6⟩ k1 k2 k3 k4 k5 => ⟨h1.stay k4 fun b hb => k5 b (.inr hb), ?_, (k5 _ (.inl (by omega))).trans h3, (k5 _ (.inl (by omega))).trans h4, h5, h6⟩⟩
   ·have := (Array.getElem?_eq_some_iff.1 h3).1; omega
   ·exact ⟨k1.trans h2.os, ⟨k2.1.trans h2.tape.1, le_or h2.tape.2 k2.2⟩, k3.trans h2.output, Nat.le_trans h2.size k4, fun b b1 b2 => (k5 b (.inl (by omega))).trans (h2.block b b1 b2), h2.own, h2.ro, h2.ro'⟩
  have hR : JRound m (w.heap.size + 1) P J xs := by
   rintro k g W x v hx ⟨hrel, hst, hl, hk, hfl, hfk⟩ hxv;have hlt : w.heap.size + 1 < W.heap.size := (Array.getElem?_eq_some_iff.1 hl).1;have hy := run_yield (P := P) (args := #[v]) hl (by rw [hrec]; rfl);rw [hrec] at hy;refine ⟨fn, _, assign, body, hy, roundIn_of_wpIn trivial ?_⟩;have hput := zcb (U' := (· < nx)) (dst := some pt) (v := .d x) (u := v) hrel hrel.heap ⟨fun b hb => ⟨hb, rfl⟩, fun _ hx => hx, fun _ _ => .inl rfl⟩ (fun k hk => hrel.used k hk) (by simp only [zi]; exact zv.mono (fun b hb => hb.elim) x v hxv) (fun d hd => by cases hd; exact hptn);have hstart2 : zcn { S1 s.n t pn id L (I k) nx with tm := (pt, .d x) :: (S1 s.n t pn id L (I k) nx).tm } g { tmps := a.tmps.setIfInBounds pt v, defers := [] } W := by
    have e : a.put (some pt) v = { tmps := a.tmps.setIfInBounds pt v, defers := [] } := by simp [Act.put, hr.defers]
    rw [e] at hput;exact hput.congr (fun x' => by simp only [zhj, St.get, find]; split <;> simp_all [St.get]) (fun _ => rfl)
   refine wpIn_mono (hbody L k x hx _ g _ W (by simpa using hstart2)) ?_;rintro e a1 w1 ⟨s1, g2, r1, st1, rfl, hb⟩;have hl1 : w1.heap[w.heap.size + 1]? = some (.loop (rec .ready none)) := (st1.block _ hlt fun h => hfl (.inl h)).trans hl;have hk1 : w1.heap[w.heap.size]? = some (.deferred (some [])) := (st1.block _ (by omega) fun h => hfk (.inl h)).trans hk;have hfl1 := st1.foot hlt hfl;have hfk1 := st1.foot (b := w.heap.size) (by omega) hfk;refine ⟨_, run_beginRound hl1 (by rw [hrec]), ?_⟩;have hsz1' : w.heap.size + 1 < w1.heap.size := (Array.getElem?_eq_some_iff.1 hl1).1;have hl2 : (w1.putObj (w.heap.size + 1) (.loop { rec .ready none with state := .busy })).heap[w.heap.size + 1]? = some (.loop { rec .ready none with state := .busy }) := World.putObj_heap_same hsz1';have hk2 : (w1.putObj (w.heap.size + 1) (.loop { rec .ready none with state := .busy })).heap[w.heap.size]? = some (.deferred (some [])) := (World.putObj_heap_other (by omega)).trans hk1;have r1' : zcn s1 g2 a1 (w1.putObj (w.heap.size + 1) (.loop { rec .ready none with state := .busy })) := r1.put _ hfl1;have stA : zam g0 w g2 (w1.putObj (w.heap.size + 1) (.loop { rec .ready none with state := .busy })) := (hst.trans st1).put _ (by omega);have rnA : Rnd (w.heap.size + 1) g W g2 (w1.putObj (w.heap.size + 1) (.loop { rec .ready none with state := .busy })) := (st1.rnd _).put _;generalize hw2 : w1.putObj (w.heap.size + 1) (.loop { rec .ready none with state := .busy }) = w2 at *;have hsz2 : w.heap.size + 1 < w2.heap.size := (Array.getElem?_eq_some_iff.1 hl2).1;refine wpIn_mono (hb _ g2 a1 w2 r1') ?_;rintro e a2 w3 ⟨s2, g3, r2, st2, rfl, hweak⟩;obtain ⟨g4, r3, st3⟩ := hweak g3 a2 w3 r2;have hl3 : w3.heap[w.heap.size + 1]? = some (.loop { rec .ready none with state := .busy }) := (st2.block _ hsz2 fun h => hfl1 (.inl h)).trans hl2;have hk3 : w3.heap[w.heap.size]? = some (.deferred (some [])) := (st2.block _ (by omega) fun h => hfk1 (.inl h)).trans hk2;have hsz3 : w.heap.size + 1 < w3.heap.size := (Array.getElem?_eq_some_iff.1 hl3).1;have hfl4 := st3.foot hsz3 (st2.foot hsz2 hfl1);have hfk4 := st3.foot (b := w.heap.size) (by omega) (st2.foot (b := w.heap.size) (by omega) hfk1);have hend := run_endRound (P := P) none hl3;rw [hrec] at hend;refine ⟨_, _, hend, rfl, g4, ⟨?_, ?_, ?_, ?_, hfl4, hfk4⟩, ?_⟩
   ·exact S1_tmps htp (r3.put _ hfl4) hr.defers hr.size hv
   ·exact (stA.trans (st2.trans st3)).put _ (by omega)
   ·rw [World.putObj_heap_same hsz3, hrec]; rfl
   ·rw [World.putObj_heap_other (by omega)]; exact hk3
   ·exact (rnA.step (st2.trans st3)).put _
  have hcaps1 : zt g1.ro W1 caps vs := zt.mono (fun b hb => ⟨hst0.ro b hb, by
   exact hlow b (hr.heap.ro b hb)⟩) caps vs hcaps
  have hcall := hit.2 m (w.heap.size + 1) W1 J g1 g1.ro vs hJ hR hJ0 hcaps1 (fun b hb => ⟨by have := hfoot0 b (.inr hb); omega, by have := hfoot0 b (.inr hb); omega, fun ⟨x, M, hx, hvx, hbx⟩ => by
   subst hbx; exact ((hS0.heap.live x M hx).2 hvx).2 hb⟩)
  have hargs : (Value.func (.yield (w.heap.size + 1)) #[] #[] :: vs).toArray = #[.func (.yield (w.heap.size + 1)) #[] #[]] ++ vs.toArray := by simp
  rw [hargs] at hcall;refine (callsIn_wide.2 hcall).mono ?_;rintro e W2 ⟨⟨v, rfl⟩, g', h1, h2, h3, h4, h5, h6⟩;refine ⟨none, _, by have := run_endLoop (P := P) h3 (by rw [hrec]; simp); rw [hrec] at this; exact this, ?_⟩;refine hdone g' _ w.heap.size L (h1.put _ h5) (h2.put _ (by omega)) (Nat.le_refl _) ?_ h6;rw [World.putObj_heap_other (by omega)]; exact h4

theorem ret_done {P : Program} {ty : TypeId -> Option TI} (hc : Ctx P ty) {fn : Func} {ro : Nat -> Prop} {w w' : World} {s' : St} {g' : G} {a' : Act} {r : Res} (h1 : zcn s' g' a' w') (h2 : zam ⟨ro, fun _ => none, fun _ => False⟩ w g' w') :
  (∃ l, zgl ty s' fn.results.toList = some l /\ zng s' (zhp l) r) -> ∃ v, (results fn a'.tmps).run P w' = .ok v w' /\ ∃ v', Ending.returned v = .returned v' /\ Below w.heap.size w w' /\ zdu ro w.heap.size w' r v' := by
 rintro ⟨l, hl, hok⟩;obtain ⟨v, hv, hrep⟩ := zmd hc h1 hl;refine ⟨v, hv, v, rfl, ⟨h2.os, h2.tape, h2.output, h2.size, fun k hk => h2.block k hk (by rintro ⟨_, _, h, _⟩; cases h)⟩, ?_⟩;have hro' : ∀ b, g'.ro b -> ro b \/ (w.heap.size <= b /\ b < w'.heap.size) := fun b hb => by
  rcases h2.ro' b hb with hh | hh | ⟨_, _, hh, _⟩
  ·exact .inl hh
  ·exact .inr ⟨hh, h1.heap.ro b hb⟩
  ·cases hh
 have hown' : ∀ b, g'.owns b -> w.heap.size <= b /\ b < w'.heap.size := fun b hb => by
  refine ⟨?_, ?_⟩
  ·rcases h2.own b hb with hh | ⟨_, _, hh, _⟩
   ·exact hh
   ·cases hh
  ·obtain ⟨x, L, hx, hvx, rfl⟩ := hb;exact ((h1.heap.live x L hx).2 hvx).1
 cases r with
 | x c => exact (show False from hok).elim
 | skip => exact (show False from hok).elim
 | ub b => exact (show False from hok).elim
 | f d =>
  simp only [zng] at hok;split at hok
  ·rename_i y hy;obtain ⟨d', p⟩ := y;obtain ⟨rfl, hp⟩ := hok;simp only [zdu];exact zv.mono (fun b hb => ⟨hown' b hb, rfl⟩) d' v (zqw h1.heap _ _ _ _ hy hp hrep)
  ·exact hok.elim
 | p d =>
  obtain ⟨p, b, hs, hp⟩ := resOk_p hok;obtain ⟨k1, _⟩ := zov h1.heap _ _ _ _ _ hs hp hrep;simp only [zdu];exact zv.mono (fun b hb => ⟨hb.elim (hro' b) fun ho => .inr (hown' b ho), rfl⟩) d v k1
 | o e m rows =>
  simp only [zdu, OwnRes];rcases resOk_o hok with ⟨hx, rfl, hm⟩ | ⟨id, len, o, R, hx, hob, rfl, rfl, hR, rfl, hlen⟩
  ·rw [hx] at hrep;simp only [zi] at hrep;exact ⟨hm, .inl ⟨rfl, none, hrep⟩⟩
  ·rw [hx] at hrep;obtain ⟨L, hL, hok⟩ := h1.heap.own id o hob;refine ⟨by rw [<- hok.m]; exact hok.pos, ?_⟩;simp only [zi] at hrep;rcases hrep.2 L hL with ⟨_, _, rfl, hv'⟩ | ⟨hvirt, hle, hv'⟩
   ·exact .inl ⟨by simp, hv'⟩
   ·obtain ⟨cur, c1, c2, c3, c5⟩ := hok.cells hvirt;have hlenR : (R.take len).length = len := by simp; omega
    refine .inr ⟨L.blk, L.cap, cur, (hown' _ ⟨id, L, hL, hvirt.1, rfl⟩).1, by rw [hv', hlenR]; simp, c1, by rw [hlenR]; omega, c3, by rw [c2, hok.m], fun i row hi => ?_⟩;rw [List.getElem?_take] at hi;split at hi
    ·obtain ⟨arow, harow, had⟩ := zhe hR i row hi;obtain ⟨d1, d2⟩ := c5 i arow harow;obtain ⟨us, hul, hur, huc⟩ := hok.row hvirt harow;have hds := zk.allD had hur;refine ⟨by rw [<- hds.length, hul, hok.m], fun j d hj => ?_⟩;obtain ⟨u, hu, hru⟩ := hds.get j d hj;obtain ⟨hcell, hone⟩ := huc j u hu;have hcu : cur[i * o.m + j]? = some u := by
      rw [<- hok.m];rw [c1.cell] at hcell;simpa using hcell
     refine ⟨u, hcu, hone, zv.mono (fun b hb => ⟨?_, rfl⟩) d u hru⟩;rcases hro' b hb with hh | hh
     ·exact .inl hh
     ·exact .inr ⟨hh.1, hh.2, fun e' => ((h1.heap.live id L hL).2 hvirt.1).2 (e' ▸ hb)⟩
    ·cases hi

def _root_.Go.Act.bare (a : Act) : Act := { a with defers := [] }
theorem op_defers {F : Fence} {n : Nat} (hF : Free F n) {P : Program} {o : Oper} {a : Act} {ds : List Deferred} {w : World} {K K' : Act -> World -> Prop} {Q' : Exit -> Act -> World -> Prop} (hd : ∀ c, o.op ≠ .defer c)
  (hK : ∀ a w, K a w -> a.defers = [] /\ K' { a with defers := ds } w) (h : o.wp P a w K (fun _ _ _ => False)) : o.wpIn F n P { a with defers := ds } w K' Q' := by
 refine ⟨fun _ _ => hF.fn _, ?_⟩;have hs : o.semAt F.round (Act.eval { a with defers := ds }) = execOp a.eval o := by
  have he : Act.eval { a with defers := ds } = a.eval := by funext x; cases x <;> rfl
  rw [he]; exact Oper.semAt_eq _ _ _ hd
 rw [hs];have hput : ∀ v, Act.put { a with defers := ds } o.dst v = { a.put o.dst v with defers := ds } := fun v => by cases o.dst <;> rfl
 unfold Oper.wp at h;generalize (execOp a.eval o).run P w = r at *;cases r with
 | ok x w' =>
  cases x <;> simp only [Oper.upon, Oper.uponIn] at h ⊢
  case value v => rw [hput]; exact (hK _ _ h).2
  case skip => rw [hput]; exact (hK _ _ h).2
  case defer d =>
   have h2 := (hK _ _ h).1;cases ho : o.dst <;> simp [Act.put, ho] at h2
  case enter f args =>
   refine ⟨fun hh => absurd hh (by rw [hF.depth]; exact Bool.false_ne_true), (hF.calls h).mono fun e w'' he => ?_⟩;cases e with
   | returned v => simp only at he ⊢; rw [hput]; exact (hK _ _ he).2
   | panicked ch => exact he.elim
   | outgrown => obtain ⟨_, _, hh⟩ := he; exact hh.elim
  case row row args =>
   refine ⟨fun hh => absurd hh (by rw [hF.depth]; exact Bool.false_ne_true), (hF.rows h).mono fun v w'' he => ?_⟩;rw [hput]; exact (hK _ _ he).2
 | halt x w' => cases x <;> simp only [Oper.upon, Oper.uponIn] at h ⊢ <;> exact h.elim

theorem zla {F : Fence} {n : Nat} (hF : Free F n) {ds : List Deferred} {P : Program} {ty : TypeId -> Option TI} (hc : Ctx P ty) {orc : List (Nat × Res)} {gs : List (Option Tmp)} {ops : Array Oper} (hgs : ∀ j : Nat, gs[j]? = (ops[j]?).map fun o : Oper => o.dst) {base nxt : Nat} {Q : Exit -> Act -> World -> Prop} {K : St -> Prop} {g0 : G} {w0 : World}
  {l2 : List Oper} {en n0 : Nat} (hQ : ∀ s g a w, s.nxt = nxt -> s.n = n0 -> Rel (· < base + en) g s.get s.obj s.n a w -> zam g0 w0 g w -> K s -> wpListIn F n P ops Q l2 { a with defers := ds } w) :
  ∀ (l : List Oper) (i : Nat) (s : St) (g : G) (a : Act) (w : World), zea l = true -> i + l.length = en -> s.nxt = nxt -> s.n = n0 -> Rel (· < base + i) g s.get s.obj s.n a w -> zam g0 w0 g w -> wpT ty P orc gs base i l s K -> wpListIn F n P ops Q (l ++ l2) { a with defers := ds } w
 | [], i, s, g, a, w, _, hle, hnx, hn0, h, hs, hk => hQ s g a w hnx hn0 (by simp at hle; rw [<- hle]; exact h) hs hk
 | o :: rest, i, s, g, a, w, hdf, hle, hnx, hn0, h, hs, hk => by
  simp only [List.length_cons] at hle;have hputd : ∀ v, Act.put { a with defers := ds } o.dst v = { a.put o.dst v with defers := ds } := fun v => by cases o.dst <;> rfl
  have hdo := zrk hdf (o := o) (by simp);have hdr : zea rest = true := by simp only [zea, List.all_cons, Bool.and_eq_true] at hdf; exact hdf.2
  have hargs : zk g w (o.op.operands.toList.map s.eval) (o.op.operands.toList.map a.eval) := by
   refine zk.of_get (by simp) fun j av hj => ?_;rw [List.getElem?_map] at hj ⊢;cases hx : o.op.operands.toList[j]? with
   | none => rw [hx] at hj; cases hj
   | some x => rw [hx] at hj; cases hj; exact ⟨a.eval x, rfl, zec h (fun _ => rfl) x⟩
  have relapp : ∀ (e : Eff) (g' : G) (a' : Act) (w' : World), Rel (fun k => k < base + i \/ k = base + i) g' (zhj s.get o.dst e.val) (zcm s.obj e.wr) s.n a' w' -> Rel (· < base + (i + 1)) g' (s.app o.dst e).get (s.app o.dst e).obj (s.app o.dst e).n a' w' := by
   intro e g' a' w' hr;have hn : (s.app o.dst e).n = s.n := by unfold St.app St.put; cases o.dst <;> rfl
   rw [hn];exact ⟨hr.defers, hr.size, fun t => by rw [zku]; exact hr.tmp t, fun id hu => by
    have := hr.used id hu
    show id < base + (i + 1)
    rcases this with hh | hh <;> omega, by
    have : (s.app o.dst e).obj = zcm s.obj e.wr := funext (zkt s o.dst e);rw [this]; exact hr.heap⟩
  have hnapp : ∀ e, (s.app o.dst e).nxt = nxt := fun e => by rw [<- hnx]; unfold St.app St.put; cases o.dst <;> rfl
  have hna : ∀ e, (s.app o.dst e).n = s.n := fun e => by unfold St.app St.put; cases o.dst <;> rfl
  have hnput : ∀ v, (s.put o.dst v).nxt = nxt := fun v => by rw [<- hnx]; unfold St.put; cases o.dst <;> rfl
  have hnn : ∀ v, (s.put o.dst v).n = s.n := fun v => by unfold St.put; cases o.dst <;> rfl
  have relput : ∀ (v : AV) (g' : G) (a' : Act) (w' : World) (U : Nat -> Prop), (∀ k, U k -> k < base + (i + 1)) -> Rel U g' (zhj s.get o.dst v) s.obj s.n a' w' -> Rel (· < base + (i + 1)) g' (s.put o.dst v).get (s.put o.dst v).obj (s.put o.dst v).n a' w' := by
   intro v g' a' w' U hU hr;rw [hnn];have := hr.congr (get' := (s.put o.dst v).get) (obj' := (s.put o.dst v).obj) (fun t => St.get_put s o.dst v t) (fun id => zme s o.dst v id);exact ⟨this.defers, this.size, this.tmp, fun k hk => hU k (this.used k hk), this.heap⟩
  have skipped : ∀ v, (∀ d, o.dst = some d -> d < s.n) -> zi g w v undef -> wpT ty P orc gs base (i + 1) rest (s.put o.dst v) K -> wpListIn F n P ops Q (rest ++ l2) { a.put o.dst undef with defers := ds } w := by
   intro v hd hv hrest;have hr := zcb (U' := (· < base + i)) (dst := o.dst) (v := v) (u := undef) h h.heap ⟨fun b hb => ⟨hb, rfl⟩, fun _ hx => hx, fun _ _ => .inl rfl⟩ (fun k hk => h.used k hk) hv hd;exact zla hF (nxt := nxt) hc hgs hQ rest (i + 1) _ g _ w hdr (by omega) (hnput v) ((hnn v).trans hn0) (relput v g _ w _ (fun k hk => by omega) hr) hs hrest
  simp only [List.cons_append, wpListIn];unfold wpT at hk;split at hk
  ·rename_i hg;have hw : Region.wanted o (yielded ops a.tmps) = true := by simp [Region.wanted, hg]
   rw [if_pos hw];unfold doOp at hk;split at hk
   ·rename_i e he;obtain ⟨hob, hd, hrest⟩ := hk;exact op_defers hF hdo (fun _ _ hk => hk) <| zge hc (K := fun a' w' => a'.defers = [] /\ wpListIn F n P ops Q (rest ++ l2) { a' with defers := ds } w') (Q := fun _ _ _ => False) (nid := base + i) h (by simp) hargs he hob (fun d hd' => by rw [hd'] at hd; exact hd) fun g' a' w' hr hst =>
     ⟨hr.defers, zla hF (nxt := nxt) hc hgs hQ rest (i + 1) (s.app o.dst e) g' a' w' hdr (by omega) (hnapp e) ((hna e).trans hn0) (relapp e g' a' w' hr) (hs.trans hst) hrest⟩
   ·exact hk.elim
  ·rename_i j want hg;split at hk
   ·rename_i x hgv;have hw := zkn (a := a) hgs h.tmp hg hgv;rw [hw];obtain ⟨hd, hk⟩ := hk;have hd' : ∀ d, o.dst = some d -> d < s.n := fun d hd' => by rw [hd'] at hd; exact hd
    split at hk
    ·rename_i e he;split at hk
     ·rename_i hwr;obtain ⟨hexec, hrest⟩ := hk;cases x with
      | true =>
       rw [if_pos rfl];obtain ⟨hso, hob⟩ := hexec rfl;refine op_defers hF hdo (fun _ _ hk => hk) <| zge hc (K := fun a' w' => a'.defers = [] /\ wpListIn F n P ops Q (rest ++ l2) { a' with defers := ds } w') (Q := fun _ _ _ => False) (nid := base + i) h (by simp) (zdy hargs hso) he hob hd' fun g' a' w' hr hst => ?_
       refine ⟨hr.defers, ?_⟩;rw [hwr] at hr;exact zla hF (nxt := nxt) hc hgs hQ rest (i + 1) _ g' a' w' hdr (by omega) (hnput _) ((hnn _).trans hn0) (relput _ g' a' w' _ (fun k hk => by rcases hk with hh | hh <;> omega) hr.opt) (hs.trans hst) hrest
      | false =>
       rw [if_neg (by simp)];exact ⟨fun _ _ => hF.fn _, by rw [hputd]; exact skipped _ hd' (by simp [zi]) hrest⟩
     ·obtain ⟨rfl, hso, hob, hrest⟩ := hk;rw [if_pos rfl];exact op_defers hF hdo (fun _ _ hk => hk) <| zge hc (K := fun a' w' => a'.defers = [] /\ wpListIn F n P ops Q (rest ++ l2) { a' with defers := ds } w') (Q := fun _ _ _ => False) (nid := base + i) h (by simp) (zdy hargs hso) he hob hd' fun g' a' w' hr hst =>
       ⟨hr.defers, zla hF (nxt := nxt) hc hgs hQ rest (i + 1) (s.app o.dst e) g' a' w' hdr (by omega) (hnapp e) ((hna e).trans hn0) (relapp e g' a' w' hr) (hs.trans hst) hrest⟩
    ·obtain ⟨rfl, hrest⟩ := hk;rw [if_neg (by simp)];exact ⟨fun _ _ => hF.fn _, by rw [hputd]; exact skipped _ hd' (by simp [zi]) hrest⟩
   ·exact hk.elim




def Mk (w0 : World) (b : Bool) (a : Act) (g : G) (w : World) : Prop :=
 (b = false /\ a.defers = []) \/ (b = true /\ ∃ D, a.defers = [{ target := .collected D, args := #[] }] /\ w0.heap.size <= D /\ D < w.heap.size /\ w.heap[D]? = some (.deferred (some [])) /\ ¬ g.foot D)
theorem Mk.step {w0 : World} {b : Bool} {a a' : Act} {g g' : G} {w w' : World} (h : Mk w0 b a g w) (st : zam g w g' w') (hd : a'.defers = a.defers) : Mk w0 b a' g' w' := by
 rcases h with ⟨h1, h2⟩ | ⟨h1, D, h2, h3, h4, h5, h6⟩
 ·exact .inl ⟨h1, hd.trans h2⟩
 ·exact .inr ⟨h1, D, hd.trans h2, h3, Nat.lt_of_lt_of_le h4 st.size, (st.block D h4 fun h => h6 (.inl h)).trans h5, st.foot h4 h6⟩

def AWm (P : Program) (g0 : G) (w0 : World) (c : Code) (Q : Exit -> Bool × St -> Prop) (s : Bool × St) : Prop :=
 ∀ g a w, zcn s.2 g a.bare w -> zam g0 w0 g w -> Mk w0 s.1 a g w -> c.wpIn Fence.wide 2 P (fun e a' w' => ∃ s' g', zcn s'.2 g' a'.bare w' /\ zam g0 w0 g' w' /\ Mk w0 s'.1 a' g' w' /\ Q e s') a w

section
variable {P : Program} {g0 : G} {w0 : World} {K : Bool × St -> Prop} {Q : Exit -> Bool × St -> Prop} {s : Bool × St} {id i : Nat}
def seqM (K : Bool × St -> Prop) (Q : Exit -> Bool × St -> Prop) : Exit -> Bool × St -> Prop
 | .normal, s => K s
 | e, s => Q e s
def zse (id : Nat) (Q : Exit -> Bool × St -> Prop) : Exit -> Bool × St -> Prop
 | .exit id', s => if id' = id then Q .normal s else Q (.exit id') s
 | e, s => Q e s
theorem zgj {x y : Code} (h : AWm P g0 w0 x (seqM (fun s' => AWm P g0 w0 y Q s') Q) s) : AWm P g0 w0 (.seq x y) Q s := by
 intro g a w hr hs hm;refine wpIn_seq (wpIn_mono (h g a w hr hs hm) fun e a' w' ⟨s', g', h1, h2, h3, h4⟩ => ?_);cases e with
 | normal => exact h4 g' a' w' h1 h2 h3
 | _ => exact ⟨s', g', h1, h2, h3, h4⟩
theorem awm_cond {c : Operand} {x y : Code} {b : Bool} (hc : s.2.eval c = .d (.bool b)) (ht : b = true -> AWm P g0 w0 x Q s) (hf : b = false -> AWm P g0 w0 y Q s) : AWm P g0 w0 (.cond c x y) Q s := by
 intro g a w hr hs hm;have h1 := zec hr (s := s.2) (fun _ => rfl) c;rw [hc] at h1;simp only [zi, zv] at h1;have h2 : a.eval c = .bool b := by rw [<- h1]; cases c <;> rfl
 exact wpIn_cond_split h2 (fun hb => ht hb g a w hr hs hm) (fun hb => hf hb g a w hr hs hm)
theorem zdo {c : Code} (h : AWm P g0 w0 c (zse id Q) s) : AWm P g0 w0 (.block id c) Q s := by
 intro g a w hr hs hm;refine wpIn_block (wpIn_mono (h g a w hr hs hm) fun e a' w' ⟨s', g', h1, h2, h3, h4⟩ => ?_);cases e with
 | exit id' =>
  simp only [zse] at h4;simp only [Exit.inBlock];split at h4
  ·rename_i he; rw [if_pos he]; exact ⟨s', g', h1, h2, h3, h4⟩
  ·rename_i he; rw [if_neg he]; exact ⟨s', g', h1, h2, h3, h4⟩
 | _ => exact ⟨s', g', h1, h2, h3, h4⟩
theorem zex (h : Q .normal s) : AWm P g0 w0 .skip Q s := fun g a w hr hs hm => wpIn_skip ⟨s, g, hr, hs, hm, h⟩
theorem zey (h : Q (.exit id) s) : AWm P g0 w0 (.exit id) Q s := fun g a w hr hs hm => wpIn_exit ⟨s, g, hr, hs, hm, h⟩
theorem zgk (h : Q .ret s) : AWm P g0 w0 .ret Q s := fun g a w hr hs hm => wpIn_ret ⟨s, g, hr, hs, hm, h⟩
theorem sm_n (h : K s) : seqM K Q .normal s := h
theorem sm_r (h : Q .ret s) : seqM K Q .ret s := h
theorem sm_x (h : Q (.exit i) s) : seqM K Q (.exit i) s := h
theorem bm_n (h : Q .normal s) : zse id Q .normal s := h
theorem bm_r (h : Q .ret s) : zse id Q .ret s := h
theorem bm_x (h : Q .normal s) : zse id Q (.exit id) s := by simp only [zse, if_true]; exact h
theorem bm_y (hn : Nat.beq i id = false) (h : Q (.exit i) s) : zse id Q (.exit i) s := by
 simp only [zse];rw [if_neg (Nat.ne_of_beq_eq_false hn)]; exact h

theorem bare_eq {a : Act} (h : a.defers = []) : a.bare = a := by cases a; simp at h; subst h; rfl

theorem zgb {ty : TypeId -> Option TI} (hc : Ctx P ty) (orc : List (Nat × Res)) {l : List Oper} (hd : zea l = true)
  (h : ∀ K : St -> Prop, (∀ s', Q .normal (s.1, s') -> K s') -> wpT ty P orc (l.map (·.dst)) s.2.nxt 0 l { s.2 with nxt := s.2.nxt + l.length } K) : AWm P g0 w0 (.region id l.toArray false) Q s := by
 intro g a w hr hs hm;refine wpIn_region_lit ?_;have ha : a = { a.bare with defers := a.defers } := rfl;have key := zla (free_wide 2) (ds := a.defers) (P := P) hc (orc := orc) (gs := l.map (·.dst)) (ops := l.toArray) (by intro j; simp) (base := s.2.nxt) (nxt := s.2.nxt + l.length)
  (Q := fun e a' w' => ∃ s' g', zcn s'.2 g' a'.bare w' /\ zam g0 w0 g' w' /\ Mk w0 s'.1 a' g' w' /\ Q e s') (K := fun s' => Q .normal (s.1, s')) (g0 := g) (w0 := w) (l2 := []) (en := l.length) (n0 := s.2.n)
  (fun s' g' a' w' hnx hn hrel hst hk => ⟨(s.1, s'), g', by
   have hb : Go.Act.bare { a' with defers := a.defers } = a' := bare_eq (a := a') hrel.defers;rw [hb];exact ⟨hrel.defers, hrel.size, hrel.tmp, fun id hu => by have := hrel.used id hu; show id < s'.nxt; omega, hrel.heap⟩, hs.trans hst, hm.step hst rfl, hk⟩)
  l 0 { s.2 with nxt := s.2.nxt + l.length } g a.bare w hd (by simp) rfl rfl ⟨hr.defers, hr.size, hr.tmp, fun id hu => by have := hr.used id hu; simpa using this, hr.heap⟩ (zam.refl g w) (h _ fun _ hq => hq)
 rw [List.append_nil] at key;rw [ha];exact key

theorem awm_range (hsb : s.1 = false) {go : Operand} {f : FuncId} {caps xs : List D} (hgv : s.2.eval go = .d (.fn (.func f) caps)) (hit : IterOk P f caps xs)
  {t pn idS idn pt nx : Nat} (htp : t ≠ pn) (hpn : s.2.n <= pn) (hgt : s.2.get t = .ptr idS 0 0) (hptn : pt < s.2.n) {o : Ob} (hob : s.2.obj idS = some o) (hus : idS < s.2.nxt) (I : Nat -> List (Nat × Option Ob))
  (hstart : ∀ L, zei { s.2 with tm := (pn, .pin idS L) :: s.2.tm } (S1 s.2.n t pn idn L (I 0) nx)) {assign body : Code}
  (hbody : ∀ L k x, xs[k]? = some x -> AWr 0 P assign (fun e s1 => e = .normal /\ AWr 0 P body (fun e s2 => e = .normal /\ zei s2 (S1 s.2.n t pn idn L (I (k + 1)) nx)) s1) { S1 s.2.n t pn idn L (I k) nx with tm := (pt, .d x) :: (S1 s.2.n t pn idn L (I k) nx).tm })
  (hq : ∀ L, Q .normal (true, S1 s.2.n t pn idn L (I xs.length) nx)) : AWm P g0 w0 (.rangeFunc go #[pt] assign body) Q s := by
 intro g a w hr hs hm;have ha : a.defers = [] := by
  rcases hm with h | h
  ·exact h.2
  ·rw [hsb] at h; exact absurd h.1 Bool.false_ne_true
 rw [bare_eq ha] at hr;refine range_sound (m := 0) hr hgv hit htp hpn hgt hptn hob hus I hstart hbody fun g' W D L h1 h2 h3 h4 h5 => ⟨(true, S1 s.2.n t pn idn L (I xs.length) nx), g', ?_, hs.trans h2, .inr ⟨rfl, D, by simp [ha], Nat.le_trans hs.size h3, (Array.getElem?_eq_some_iff.1 h4).1, h4, h5⟩, hq L⟩
 have hb : Go.Act.bare { a with defers := { target := .collected D, args := #[] } :: a.defers } = a := bare_eq ha;rw [hb]; exact h1
end

theorem pc_of_awm {P : Program} {ty : TypeId -> Option TI} (hc : Ctx P ty) {f : FuncId} {fn : Func} {c : Code} {ds : List D} {r : Res} (hf : P.funcs[f]? = some fn) (hb : fn.body = some c) (hname : (fn.name == "runtime.NumGoroutine") = false) (hn : ds.length <= fn.ntmps)
  (h : ∀ g0 w0, AWm P g0 w0 c (fun e s => retQ ty fn.results.toList r e s.2) (false, start fn.ntmps ds)) : PC P f ds r := by
 refine ⟨⟨fn, hf, hname, by rw [hb]; rfl⟩, fun ro w vs hro hd => ?_⟩;refine callsIn_wide.1 (callsIn_of_wp_marks (n := 2) hf hb trivial (wpIn_mono (h ⟨ro, fun _ => none, fun _ => False⟩ w _ _ w (start_rel hro hd hn) (zam.refl _ w) (.inl ⟨rfl, rfl⟩)) fun e a' w' ⟨s', g', h1, h2, h3, h4⟩ => ?_));have fin : (∃ l, zgl ty s'.2 fn.results.toList = some l /\ zng s'.2 (zhp l) r) -> LeavesInM Fence.wide 2 P fn a'.tmps (fun e w' => ∃ v, e = .returned v /\ Below w.heap.size w w' /\ zdu ro w.heap.size w' r v) a'.defers .returning w' := by
  intro hl;rcases h3 with ⟨_, h3⟩ | ⟨_, D, h3, k1, k2, k3, k4⟩
  ·rw [h3];obtain ⟨v, hv, v', he, hb, hrep⟩ := ret_done hc h1 h2 hl;cases he;exact ⟨v, hv, v, rfl, hb, hrep⟩
  ·rw [h3];refine ⟨by simp, .inl ⟨D, _, rfl, run_takeDeferred k3, ?_⟩⟩;obtain ⟨v, hv, v', he, hb, hrep⟩ := ret_done hc (Rel.put h1 (.deferred none) k4) (h2.put (.deferred none) k1) hl;cases he;exact ⟨v, hv, v, rfl, hb, hrep⟩
 cases e with
 | normal => exact fin (zsr h4)
 | ret => exact fin (zsr h4)
 | _ => exact h4.elim
theorem wu {p q : Prop} (k : q) (e : q -> p := by intro k; (try dsimp only); (repeat (first | refine zgj ?_ | refine zdo ?_ | refine zex ?_ | refine zey ?_ | refine zgk ?_ | refine sm_n ?_ | refine sm_r ?_ | refine sm_x ?_ | refine bm_n ?_ | refine bm_r ?_ | refine bm_x ?_ | refine bm_y rfl ?_)); exact k) : p := e k
end Go.Abs

namespace Go.Proofs.YtdddknniooimmaaGreat
open Go.Abs

def cellI (R : List Row) (k : Nat) : List (Nat × Option Ob) := [(1, some ⟨75, 1, [[.hs 2 0 ((zl R).take k).length]]⟩), (2, some ⟨67, 2, dr (((zl R).take k).map zf.row)⟩)]

set_option maxHeartbeats 4000000 in
theorem cells_own (R : List Row) (hsm : zbw R) (hn : zo R = true -> (zl R).length <= 1000000) : PC Tryz.prog 50 [.agg (zp R)] (.o 67 2 ((cellsOf R).map zf.row)) := by
 have c1 := zmy R hsm;have hC : cellsOf R = if zo R then zl R else [] := rfl
 cases hv : zo R with
 | false =>
  rw [hv] at c1 hC;rw [if_neg (by simp)] at hC;rw [hC];refine pc_of_awm cx (fn := Tryz.f50) (c := _) Tryz.func50 rfl rfl (lB rfl) fun gM wM => ?_;rw [Tryz.ntmps50]; (repeat (first | refine zgj ?_ | refine zdo ?_ | refine zex ?_ | refine zey ?_ | refine zgk ?_ | refine sm_n ?_ | refine sm_r ?_ | refine sm_x ?_ | refine bm_n ?_ | refine bm_r ?_ | refine bm_x ?_ | refine bm_y rfl ?_));refine zgb cx [] rfl fun K hK => ?_;simp [push_cast]
  repeat refine ob ?_
  refine hK _ ?_; clear hK K; refine wu ?_;refine zgb cx [(1, .p (.bool false))] rfl fun K hK => ?_;simp [push_cast, c1]
  repeat refine ob ?_
  refine hK _ ?_; clear hK K; refine wu ?_;refine awm_cond (b := true) (by simp [push_cast]) (fun hb => ?_) (fun hb => ?_) <;> ((repeat (first | refine zgj ?_ | refine zdo ?_ | refine zex ?_ | refine zey ?_ | refine zgk ?_ | refine sm_n ?_ | refine sm_r ?_ | refine sm_x ?_ | refine bm_n ?_ | refine bm_r ?_ | refine bm_x ?_ | refine bm_y rfl ?_)))
  ·refine zgb cx [] rfl fun K hK => ?_;simp [push_cast]
   repeat refine ob ?_
   refine hK _ ?_; clear hK K; refine wu ?_;simp [push_cast]
  ·simp at hb
 | true =>
  have hit := iter_ok R hsm hv;have hn := hn hv;have c2 := all_ok R;rw [hv] at c1 hC;rw [if_pos rfl] at hC;rw [hC];clear hC;refine pc_of_awm cx (fn := Tryz.f50) (c := _) Tryz.func50 rfl rfl (lB rfl) fun gM wM => ?_;rw [Tryz.ntmps50]; (repeat (first | refine zgj ?_ | refine zdo ?_ | refine zex ?_ | refine zey ?_ | refine zgk ?_ | refine sm_n ?_ | refine sm_r ?_ | refine sm_x ?_ | refine bm_n ?_ | refine bm_r ?_ | refine bm_x ?_ | refine bm_y rfl ?_));refine zgb cx [] rfl fun K hK => ?_;simp [push_cast]
  repeat refine ob ?_
  refine hK _ ?_; clear hK K; refine wu ?_;refine zgb cx [(1, .p (.bool true))] rfl fun K hK => ?_;simp [push_cast, c1]
  repeat refine ob ?_
  refine hK _ ?_; clear hK K; refine wu ?_;refine awm_cond (b := false) (by simp [push_cast]) (fun hb => ?_) (fun hb => ?_) <;> ((repeat (first | refine zgj ?_ | refine zdo ?_ | refine zex ?_ | refine zey ?_ | refine zgk ?_ | refine sm_n ?_ | refine sm_r ?_ | refine sm_x ?_ | refine bm_n ?_ | refine bm_r ?_ | refine bm_x ?_ | refine bm_y rfl ?_)))
  ·simp at hb
  ·refine zgb cx [] rfl fun K hK => ?_;simp [push_cast]
   repeat refine ob ?_
   refine hK _ ?_; clear hK K; refine wu ?_;refine zgb cx [(1, .p (.fn (.func 165) [.rp (zp R)]))] rfl fun K hK => ?_;simp [push_cast, c2]
   repeat refine ob ?_
   refine hK _ ?_; clear hK K; refine wu ?_;refine awm_range (caps := [.rp (zp R)]) (xs := zkm R) rfl rfl hit (t := 3) (pn := 16) (idS := 5) (idn := 1) (nx := 3) (by decide) (lB rfl) rfl (lB rfl) rfl (lB rfl) (cellI R) (fun L => ?_) (fun L k x hx => ?_) fun L => ?_
   ·show zei _ ⟨16, [(3, .ptr 1 0 0), (16, .pin 1 L)], cellI R 0, 3⟩
    unfold cellI;refine wk [(1, some 5), (2, none)]
   ·unfold zkm at hx;rw [List.getElem?_map] at hx;cases hc : (zl R)[k]? with
    | none => rw [hc] at hx; cases hx
    | some c =>
     rw [hc] at hx;cases hx;have hk := (List.getElem?_eq_some_iff.1 hc).1;have htk : (zl R).take (k + 1) = (zl R).take k ++ [c] := zat hc;have hkl : ((zl R).take k).length = k := by rw [List.length_take]; omega
     unfold S1 cellI;rw [htk];generalize (zl R).take k = Z at *;have hZ16 : (Z.length + 1) * 16 <= 140737488355328 := by omega
     obtain ⟨x, y⟩ := c;refine awr_region cx [] (fun s' h => by cases h.1) rfl fun K hK => ?_;simp [push_cast];refine hK _ ⟨rfl, ?_⟩;clear hK K;refine awr_block (Q := fun s2 => zei s2 _) ?_;refine awr_region cx [] (fun s' h => by cases h.1) rfl fun K hK => ?_;simp [push_cast, hZ16];refine hK _ ⟨rfl, ?_⟩;clear hK K
     dsimp only
     refine wq [(1, some 1), (2, some 8)] (by simp [upT, upH, upR, upL, up, push_cast, zf.row])
   ·unfold S1 cellI;have hl : (zkm R).length = (zl R).length := by simp [zkm]
    rw [hl, List.take_length]
    (repeat (first | refine zgj ?_ | refine zdo ?_ | refine zex ?_ | refine zey ?_ | refine zgk ?_ | refine sm_n ?_ | refine sm_r ?_ | refine sm_x ?_ | refine bm_n ?_ | refine bm_r ?_ | refine bm_x ?_ | refine bm_y rfl ?_))
    refine zgb cx [] rfl fun K hK => ?_;simp [push_cast]
    repeat refine ob ?_
    refine hK _ ?_; clear hK K; refine wu ?_;have ht : List.take (zl R).length ((zl R).map zf.row) = (zl R).map zf.row := List.take_of_length_le (by simp);simp [push_cast, ht]
theorem cells_ok (R : List Row) (hsm : zbw R) (hn : zo R = true -> (zl R).length <= 1000000) : PC Tryz.prog 50 [.agg (zp R)] (.p (zaj (cellsOf R))) := (cells_own R hsm hn).data
end Go.Proofs.YtdddknniooimmaaGreat
