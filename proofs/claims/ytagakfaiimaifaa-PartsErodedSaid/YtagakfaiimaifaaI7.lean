/-
  Texts of this seat put together: X9, B1, AbsR, AbsV, Z1, AbsW, AbsU, Z2.
-/
import Derived.Test.YtagakfaiimaifaaI6
import Derived.Test.YtagakfaiimaifaaI3
import Derived.Test.YtagakfaiimaifaaI5
import Derived.OrdersIn
import Derived.TacticsIn
import Derived.RangeFuncNested
import Derived.RangeFuncLeaves
set_option linter.unusedVariables false
set_option linter.unusedSimpArgs false
set_option maxRecDepth 100000
namespace Go.Proofs.Ytagakfaiimaifaa
open Go.Abs

/-! The set operations, cell by cell. -/
section
variable {a b : List Row} (ha : validR a = true) (hb : validR b = true) (c : Cell)
include ha hb
theorem opU_iff : c ∈ regCells (opR fU a b) ↔ c ∈ regCells a ∨ c ∈ regCells b := by
  have h := (opR_facts (f := fU) rfl ha hb).2 c
  have e : ∀ x y, fU x y = (x || y) := fun _ _ => rfl
  rw [e] at h
  rw [← decide_eq_true_iff (p := c ∈ regCells (opR fU a b)), h]
  simp
theorem opI_iff : c ∈ regCells (opR fI a b) ↔ c ∈ regCells a ∧ c ∈ regCells b := by
  have h := (opR_facts (f := fI) rfl ha hb).2 c
  have e : ∀ x y, fI x y = (x && y) := fun _ _ => rfl
  rw [e] at h
  rw [← decide_eq_true_iff (p := c ∈ regCells (opR fI a b)), h]
  simp
theorem opD_iff : c ∈ regCells (opR fD a b) ↔ c ∈ regCells a ∧ c ∉ regCells b := by
  have h := (opR_facts (f := fD) rfl ha hb).2 c
  have e : ∀ x y, fD x y = (x && !y) := fun _ _ => rfl
  rw [e] at h
  rw [← decide_eq_true_iff (p := c ∈ regCells (opR fD a b)), h]
  simp
end
theorem valid_empty {R : List Row} (hv : validR R = true) (h : ∀ c, c ∉ regCells R) : R = [] := region_uniq hv rfl fun c => ⟨fun hc => absurd hc (h c), fun hc => by simp [regCells] at hc⟩
end Go.Proofs.Ytagakfaiimaifaa

set_option linter.unusedVariables false
set_option linter.unusedSimpArgs false
set_option maxRecDepth 100000
namespace Go.Proofs.Ytagakfaiimaifaa
open Go.Abs

/-! The region of any cells; regions with X and Y exchanged; spans. -/
theorem one_valid {c : Cell} (h : onG c = true) : validR [⟨c.y, [⟨c.x, c.x + 1⟩]⟩] = true ∧ ∀ d, d ∈ regCells [⟨c.y, [⟨c.x, c.x + 1⟩]⟩] ↔ d = c := by
  obtain ⟨x, y⟩ := c
  have hg := onG_bd h
  simp only at hg
  constructor
  · simp [validR, rowAt, okB, fine, fnAt, List.range_succ]
    omega
  · rintro ⟨a, b⟩
    rw [mem_regCells]
    simp
    omega
theorem set_region : ∀ {l : List Cell}, (∀ c ∈ l, onG c = true) → ∃ R, validR R = true ∧ ∀ c, c ∈ regCells R ↔ c ∈ l
  | [], _ => ⟨[], rfl, fun c => by simp [regCells]⟩
  | c :: l, h => by
    obtain ⟨R, h1, h2⟩ := set_region (l := l) fun d hd => h d (by simp [hd])
    obtain ⟨h3, h4⟩ := one_valid (h c (by simp))
    refine ⟨opR fU [⟨c.y, [⟨c.x, c.x + 1⟩]⟩] R, (opR_facts rfl h3 h1).1, fun d => ?_⟩
    rw [opU_iff h3 h1, h4, h2, List.mem_cons]
theorem of_set {l : List Cell} (hn : l.Nodup) (hon : ∀ c ∈ l, onG c = true) : validR (ofR l) = true ∧ (∀ c, c ∈ regCells (ofR l) ↔ c ∈ l) ∧ (regCells (ofR l)).length = l.length := by
  obtain ⟨R, h1, h2⟩ := set_region hon
  have hp : l.Perm (regCells R) := (List.perm_ext_iff_of_nodup hn (nodup_of_ltY (cells_pw h1))).2 fun c => (h2 c).symm
  have e : ofR l = R := by
    unfold ofR
    rw [if_pos (List.all_eq_true.2 hon), sortY_cells h1 hp, build_cells h1]
  rw [e]
  exact ⟨h1, h2, hp.length_eq.symm⟩
def xc (c : Cell) : Cell := ⟨c.y, c.x⟩
def turnR (R : List Row) : List Row := ofR ((regCells R).map xc)
/-- Whether a run lies between two cells that are held. -/
def anch (H : List Row) (y : Int) (q : Run) : Bool := decide ((⟨q.a - 1, y⟩ : Cell) ∈ regCells H) && decide ((⟨q.b, y⟩ : Cell) ∈ regCells H)
def spanRun (H : List Row) (y : Int) (q : Run) : List (List Cell) := if anch H y q then [runCells y q] else []
def spanRow (H : List Row) (w : Row) : List (List Cell) := w.runs.flatMap (spanRun H w.y)
def spanR (D H : List Row) : List (List Cell) := D.flatMap (spanRow H)
def spansL (r b : List Row) : List (List Cell) := spanR (opR fD r b) (opR fI r b)
def spansU (r b : List Row) (up : Bool) : List (List Cell) := if up then (spansL (turnR r) (turnR b)).map (·.map xc) else spansL r b
def coverR (L : List (List Cell)) : List Row := ofR L.flatten

theorem cells_le {a b : List Row} (ha : validR a = true) (hb : validR b = true) (h : ∀ x, x ∈ regCells a → x ∈ regCells b) : (regCells a).length ≤ (regCells b).length := by
  have e : regCells a = (regCells b).filter fun c => decide (c ∈ regCells a) := ltY_uniq (cells_pw ha) ((cells_pw hb).filter _) fun c => by
    rw [List.mem_filter, decide_eq_true_eq]
    exact ⟨fun hc => ⟨h c hc, hc⟩, fun hc => hc.2⟩
  rw [e]
  exact List.length_filter_le _ _
end Go.Proofs.Ytagakfaiimaifaa

set_option linter.unusedVariables false
set_option linter.unusedSimpArgs false
namespace Go.Abs
open Go.RowKit

/-! ### An operation goes through within a round as outside. -/
theorem calls_round {l n : Nat} {P : Program} {f : FuncId} {args : Array Value} {w : World} {R : Ending → World → Prop} (h : Calls P f args w R) : CallsIn (Fence.wide.inRound l) n P f args w R :=
  CallsIn.inRound l (callsIn_wide.2 h)
theorem rows_round {l n : Nat} {P : Program} {row : String} {args : Array Value} {w : World} {R : Value → World → Prop} (h : Rows P row args w R) : RowsIn (Fence.wide.inRound l) n P row args w R := by
  intro c cs _
  obtain ⟨v, w', h1, h2⟩ := h c cs
  exact ⟨v, w', h1, stepsIn_wide.2 h2⟩
/-- A fence that bars nothing. -/
structure Free (F : Fence) (n : Nat) : Prop where
  fn : ∀ f, F.fn f
  depth : F.depth.isSome = false
  calls : ∀ {P : Program} {f : FuncId} {args : Array Value} {w : World} {R : Ending → World → Prop}, Calls P f args w R → CallsIn F (n - 1) P f args w R
  rows : ∀ {P : Program} {row : String} {args : Array Value} {w : World} {R : Value → World → Prop}, Rows P row args w R → RowsIn F (n - 1) P row args w R
theorem free_wide (n : Nat) : Free Fence.wide n := ⟨fun _ => trivial, rfl, fun h => callsIn_wide.2 h, fun h => fun c cs _ => by
  obtain ⟨v, w', h1, h2⟩ := h c cs
  exact ⟨v, w', h1, stepsIn_wide.2 h2⟩⟩
theorem op_free {F : Fence} {n : Nat} (hF : Free F n) {P : Program} {o : Oper} {a : Act} {w : World} {K K' : Act → World → Prop} {Q : Exit → Act → World → Prop} (hd : ∀ c, o.op ≠ .defer c) (hK : ∀ a w, K a w → K' a w) (h : o.wp P a w K Q) : o.wpIn F n P a w K' Q := by
  refine ⟨fun _ _ => hF.fn _, ?_⟩
  have hs : o.semAt F.round a.eval = execOp a.eval o := Oper.semAt_eq _ _ _ hd
  rw [hs]
  have h := Oper.wp_mono hK h
  unfold Oper.wp at h
  generalize (execOp a.eval o).run P w = r at *
  cases r with
  | ok x w' =>
    cases x <;> simp only [Oper.upon, Oper.uponIn] at h ⊢ <;> first
      | exact h
      | exact ⟨fun hh => absurd hh (by rw [hF.depth]; exact Bool.false_ne_true), (hF.calls h).mono fun e w'' he => by cases e <;> exact he⟩
      | exact ⟨fun hh => absurd hh (by rw [hF.depth]; exact Bool.false_ne_true), hF.rows h⟩
      | exact False.elim h
  | halt x w' => cases x <;> simp only [Oper.upon, Oper.uponIn] at h ⊢ <;> first | exact h | exact h.elim

theorem op_round {l n : Nat} {P : Program} {o : Oper} {a : Act} {w : World} {K K' : Act → World → Prop} {Q : Exit → Act → World → Prop} (hd : ∀ c, o.op ≠ .defer c) (hK : ∀ a w, K a w → K' a w) (h : o.wp P a w K Q) : o.wpIn (Fence.wide.inRound l) n P a w K' Q := by
  refine ⟨fun _ _ => trivial, ?_⟩
  rw [Oper.semAt_eq _ _ _ hd]
  have h := Oper.wp_mono hK h
  unfold Oper.wp at h
  generalize (execOp a.eval o).run P w = r at *
  cases r with
  | ok x w' =>
    cases x <;> simp only [Oper.upon, Oper.uponIn] at h ⊢ <;> first
      | exact h
      | exact ⟨fun hh => absurd hh (by simp [Fence.wide]), (calls_round h).mono fun e w'' he => by cases e <;> exact he⟩
      | exact ⟨fun hh => absurd hh (by simp [Fence.wide]), rows_round h⟩
      | exact False.elim h
  | halt x w' => cases x <;> simp only [Oper.upon, Oper.uponIn] at h ⊢ <;> first | exact h | exact h.elim

def noDefer (l : List Oper) : Bool := l.all fun o => match o.op with | .defer _ => false | _ => true
theorem noDefer_mem {l : List Oper} (h : noDefer l = true) {o : Oper} (ho : o ∈ l) : ∀ c, o.op ≠ .defer c := fun c hc => by
  have := List.all_eq_true.1 h o ho
  rw [hc] at this
  cases this

theorem wpList_round {l n : Nat} {P : Program} {ops : Array Oper} {Q : Exit → Act → World → Prop} (hQ : ¬ LetsOut Q) : ∀ (ls : List Oper) (a : Act) (w : World), noDefer ls = true → wpList P ops Q ls a w → wpListIn (Fence.wide.inRound l) n P ops Q ls a w
  | [], a, w, _, h => h
  | o :: rest, a, w, hd, h => by
    have hd' : noDefer rest = true := by simp only [noDefer, List.all_cons, Bool.and_eq_true] at hd; exact hd.2
    simp only [wpList, wpListIn] at h ⊢
    split
    · rename_i hw
      rw [if_pos hw] at h
      rcases h with h | h
      · exact op_round (noDefer_mem hd (by simp)) (fun a w hk => wpList_round hQ rest a w hd' hk) h
      · exact absurd h.2 hQ
    · rename_i hw
      rw [if_neg hw] at h
      exact ⟨fun _ _ => trivial, wpList_round hQ rest _ w hd' h⟩

/-- Code within a round, over states. -/
def AWr (n : Nat) (P : Program) (c : Code) (Q : Exit → St → Prop) (s : St) : Prop :=
  ∀ (l : Nat) g a w, RelS s g a w → c.wpIn (Fence.wide.inRound l) n P (fun e a' w' => ∃ s' g', RelS s' g' a' w' ∧ Step g w g' w' ∧ Q e s') a w

theorem awr_block {n id : Nat} {P : Program} {c : Code} {Q : St → Prop} {s : St} (h : AWr n P c (fun e s => e = .normal ∧ Q s) s) : AWr n P (.block id c) (fun e s => e = .normal ∧ Q s) s := by
  intro l g a w hr
  refine wpIn_block (wpIn_mono (h l g a w hr) fun e a' w' ⟨s', g', h1, h2, h3, h4⟩ => ?_)
  subst h3
  exact ⟨s', g', h1, h2, rfl, h4⟩

theorem awr_region {n : Nat} {P : Program} {ty : TypeId → Option TI} (hc : Ctx P ty) (orc : List (Nat × Res)) {id : Nat} {l : List Oper} {Q : Exit → St → Prop} {s : St} (hQ : ∀ s', ¬ Q .outgrown s') (hd : noDefer l = true)
    (h : ∀ K : St → Prop, (∀ s', Q .normal s' → K s') → wpT ty P orc (l.map (·.dst)) s.nxt 0 l { s with nxt := s.nxt + l.length } K) : AWr n P (.region id l.toArray false) Q s := by
  intro r g a w hr
  have hw := wpT_sound (P := P) hc (orc := orc) (gs := l.map (·.dst)) (ops := l.toArray) (by intro j; simp) (base := s.nxt) (nxt := s.nxt + l.length)
    (Q := fun e a' w' => ∃ s' g', RelS s' g' a' w' ∧ Step g w g' w' ∧ Q e s') (K := fun s' => Q .normal s') (g0 := g) (w0 := w)
    (fun s' g' a' w' h1 h2 h3 => ⟨s', g', h1, h2, h3⟩) l 0 { s with nxt := s.nxt + l.length } g a w (by simp) rfl ⟨hr.defers, hr.size, hr.tmp, fun id hu => by have := hr.used id hu; simpa using this, hr.heap⟩ (Step.refl g w) (h _ fun _ hq => hq)
  exact wpIn_region_lit (wpList_round (fun hx => by obtain ⟨_, _, s', _, _, _, hq⟩ := hx; exact hQ s' hq) l a w hd hw)

theorem wpT_soundIn {F : Fence} {n : Nat} (hF : Free F n) {P : Program} {ty : TypeId → Option TI} (hc : Ctx P ty) {orc : List (Nat × Res)} {gs : List (Option Tmp)} {ops : Array Oper} (hgs : ∀ j : Nat, gs[j]? = (ops[j]?).map fun o : Oper => o.dst) {base nxt : Nat} {Q : Exit → Act → World → Prop} {K : St → Prop} {g0 : G} {w0 : World}
    {l2 : List Oper} {en n0 : Nat} (hQ : ∀ s g a w, s.nxt = nxt → s.n = n0 → Rel (· < base + en) g s.get s.obj s.n a w → Step g0 w0 g w → K s → wpListIn F n P ops Q l2 a w) :
    ∀ (l : List Oper) (i : Nat) (s : St) (g : G) (a : Act) (w : World), noDefer l = true → i + l.length = en → s.nxt = nxt → s.n = n0 → Rel (· < base + i) g s.get s.obj s.n a w → Step g0 w0 g w → wpT ty P orc gs base i l s K → wpListIn F n P ops Q (l ++ l2) a w
  | [], i, s, g, a, w, _, hle, hnx, hn0, h, hs, hk => hQ s g a w hnx hn0 (by simp at hle; rw [← hle]; exact h) hs hk
  | o :: rest, i, s, g, a, w, hdf, hle, hnx, hn0, h, hs, hk => by
    simp only [List.length_cons] at hle
    have hdo := noDefer_mem hdf (o := o) (by simp)
    have hdr : noDefer rest = true := by simp only [noDefer, List.all_cons, Bool.and_eq_true] at hdf; exact hdf.2
    have hargs : RepAs g w (o.op.operands.toList.map s.eval) (o.op.operands.toList.map a.eval) := by
      refine RepAs.of_get (by simp) fun j av hj => ?_
      rw [List.getElem?_map] at hj ⊢
      cases hx : o.op.operands.toList[j]? with
      | none => rw [hx] at hj; cases hj
      | some x => rw [hx] at hj; cases hj; exact ⟨a.eval x, rfl, eval_rep h (fun _ => rfl) x⟩
    have relapp : ∀ (e : Eff) (g' : G) (a' : Act) (w' : World), Rel (fun k => k < base + i ∨ k = base + i) g' (putG s.get o.dst e.val) (updL s.obj e.wr) s.n a' w' → Rel (· < base + (i + 1)) g' (s.app o.dst e).get (s.app o.dst e).obj (s.app o.dst e).n a' w' := by
      intro e g' a' w' hr
      have hn : (s.app o.dst e).n = s.n := by unfold St.app St.put; cases o.dst <;> rfl
      rw [hn]
      exact ⟨hr.defers, hr.size, fun t => by rw [app_get]; exact hr.tmp t, fun id hu => by
        have := hr.used id hu
        show id < base + (i + 1)
        rcases this with hh | hh <;> omega, by
        have : (s.app o.dst e).obj = updL s.obj e.wr := funext (app_obj s o.dst e)
        rw [this]; exact hr.heap⟩
    have hnapp : ∀ e, (s.app o.dst e).nxt = nxt := fun e => by rw [← hnx]; unfold St.app St.put; cases o.dst <;> rfl
    have hna : ∀ e, (s.app o.dst e).n = s.n := fun e => by unfold St.app St.put; cases o.dst <;> rfl
    have hnput : ∀ v, (s.put o.dst v).nxt = nxt := fun v => by rw [← hnx]; unfold St.put; cases o.dst <;> rfl
    have hnn : ∀ v, (s.put o.dst v).n = s.n := fun v => by unfold St.put; cases o.dst <;> rfl
    have relput : ∀ (v : AV) (g' : G) (a' : Act) (w' : World) (U : Nat → Prop), (∀ k, U k → k < base + (i + 1)) → Rel U g' (putG s.get o.dst v) s.obj s.n a' w' → Rel (· < base + (i + 1)) g' (s.put o.dst v).get (s.put o.dst v).obj (s.put o.dst v).n a' w' := by
      intro v g' a' w' U hU hr
      rw [hnn]
      have := hr.congr (get' := (s.put o.dst v).get) (obj' := (s.put o.dst v).obj) (fun t => St.get_put s o.dst v t) (fun id => put_obj s o.dst v id)
      exact ⟨this.defers, this.size, this.tmp, fun k hk => hU k (this.used k hk), this.heap⟩
    have skipped : ∀ v, (∀ d, o.dst = some d → d < s.n) → RepA g w v undef → wpT ty P orc gs base (i + 1) rest (s.put o.dst v) K → wpListIn F n P ops Q (rest ++ l2) (a.put o.dst undef) w := by
      intro v hd hv hrest
      have hr := rel_put (U' := (· < base + i)) (dst := o.dst) (v := v) (u := undef) h h.heap ⟨fun b hb => ⟨hb, rfl⟩, fun _ hx => hx, fun _ _ => .inl rfl⟩ (fun k hk => h.used k hk) hv hd
      exact wpT_soundIn hF (nxt := nxt) hc hgs hQ rest (i + 1) _ g _ w hdr (by omega) (hnput v) ((hnn v).trans hn0) (relput v g _ w _ (fun k hk => by omega) hr) hs hrest
    simp only [List.cons_append, wpListIn]
    unfold wpT at hk
    split at hk
    · rename_i hg
      have hw : Region.wanted o (yielded ops a.tmps) = true := by simp [Region.wanted, hg]
      rw [if_pos hw]
      unfold doOp at hk
      split at hk
      · rename_i e he
        obtain ⟨hob, hd, hrest⟩ := hk
        exact op_free hF hdo (fun _ _ hk => hk) <| op_step hc (nid := base + i) h (by simp) hargs he hob (fun d hd' => by rw [hd'] at hd; exact hd) fun g' a' w' hr hst =>
          wpT_soundIn hF (nxt := nxt) hc hgs hQ rest (i + 1) (s.app o.dst e) g' a' w' hdr (by omega) (hnapp e) ((hna e).trans hn0) (relapp e g' a' w' hr) (hs.trans hst) hrest
      · exact hk.elim
    · rename_i j want hg
      split at hk
      · rename_i x hgv
        have hw := guard_wanted (a := a) hgs h.tmp hg hgv
        rw [hw]
        obtain ⟨hd, hk⟩ := hk
        have hd' : ∀ d, o.dst = some d → d < s.n := fun d hd' => by rw [hd'] at hd; exact hd
        split at hk
        · rename_i e he
          split at hk
          · rename_i hwr
            obtain ⟨hexec, hrest⟩ := hk
            cases x with
            | true =>
              rw [if_pos rfl]
              obtain ⟨hso, hob⟩ := hexec rfl
              refine op_free hF hdo (fun _ _ hk => hk) <| op_step hc (nid := base + i) h (by simp) (strips_repG hargs hso) he hob hd' fun g' a' w' hr hst => ?_
              rw [hwr] at hr
              exact wpT_soundIn hF (nxt := nxt) hc hgs hQ rest (i + 1) _ g' a' w' hdr (by omega) (hnput _) ((hnn _).trans hn0) (relput _ g' a' w' _ (fun k hk => by rcases hk with hh | hh <;> omega) hr.opt) (hs.trans hst) hrest
            | false =>
              rw [if_neg (by simp)]
              exact ⟨fun _ _ => hF.fn _, skipped _ hd' (by simp [RepA]) hrest⟩
          · obtain ⟨rfl, hso, hob, hrest⟩ := hk
            rw [if_pos rfl]
            exact op_free hF hdo (fun _ _ hk => hk) <| op_step hc (nid := base + i) h (by simp) (strips_repG hargs hso) he hob hd' fun g' a' w' hr hst =>
              wpT_soundIn hF (nxt := nxt) hc hgs hQ rest (i + 1) (s.app o.dst e) g' a' w' hdr (by omega) (hnapp e) ((hna e).trans hn0) (relapp e g' a' w' hr) (hs.trans hst) hrest
        · obtain ⟨rfl, hrest⟩ := hk
          rw [if_neg (by simp)]
          exact ⟨fun _ _ => hF.fn _, skipped _ hd' (by simp [RepA]) hrest⟩
      · exact hk.elim



end Go.Abs

set_option linter.unusedVariables false
set_option linter.unusedSimpArgs false
namespace Go.Abs
open Go.RowKit

/-- The blocks that a ghost speaks of. -/
def G.foot (g : G) (b : Nat) : Prop := g.owns b ∨ g.ro b
theorem HRel.foot_lt {g : G} {obj : Nat → Option Ob} {w : World} (h : HRel g obj w) {b : Nat} (hb : g.foot b) : b < w.heap.size := by
  rcases hb with ⟨id, L, hL, hv, rfl⟩ | hb
  · exact ((h.live id L hL).2 hv).1
  · exact h.ro b hb
theorem HRel.stay {g : G} {obj : Nat → Option Ob} {w w' : World} (h : HRel g obj w) (hsz : w.heap.size ≤ w'.heap.size) (hb : ∀ b, g.foot b → w'.heap[b]? = w.heap[b]?) : HRel g obj w' ∧ Later g w g w' := by
  have hlater : Later g w g w' := ⟨fun b hr => ⟨hr, hb b (.inr hr)⟩, fun _ hx => hx, fun _ _ => .inl rfl⟩
  refine ⟨⟨fun id o ho => ?_, h.gone, fun id L hL => ⟨(h.live id L hL).1, fun hv => ⟨Nat.lt_of_lt_of_le ((h.live id L hL).2 hv).1 hsz, ((h.live id L hL).2 hv).2⟩⟩, h.inj, fun b hr => Nat.lt_of_lt_of_le (h.ro b hr) hsz⟩, hlater⟩
  obtain ⟨L, hL, hok⟩ := h.own id o ho
  exact ⟨L, hL, hok.later hlater fun hv => hb _ (.inl ⟨id, L, hL, hv, rfl⟩)⟩
theorem Rel.stay {U : Nat → Prop} {g : G} {get : Nat → AV} {obj : Nat → Option Ob} {n : Nat} {a : Act} {w w' : World} (h : Rel U g get obj n a w) (hsz : w.heap.size ≤ w'.heap.size) (hb : ∀ b, g.foot b → w'.heap[b]? = w.heap[b]?) : Rel U g get obj n a w' := by
  obtain ⟨h1, h2⟩ := h.heap.stay hsz hb
  exact ⟨h.defers, h.size, fun t => RepA.later h2 _ _ (h.tmp t), h.used, h1⟩

/-- What the one may write, the other does not speak of. -/
structure Sep (g1 g2 : G) : Prop where
  own : ∀ b, g1.owns b → ¬ g2.foot b
  own' : ∀ b, g2.owns b → ¬ g1.ro b
theorem Sep.symm {g1 g2 : G} (h : Sep g1 g2) : Sep g2 g1 :=
  ⟨fun b h2 h1 => h1.elim (fun ho => h.own b ho (.inl h2)) (h.own' b h2), fun b h1 h2 => h.own b h1 (.inr h2)⟩

/-- What a step of one side does, but for a block x of the machine's own. -/
structure Rnd (x : Nat) (g : G) (w : World) (g' : G) (w' : World) : Prop where
  size : w.heap.size ≤ w'.heap.size
  block : ∀ b, b < w.heap.size → ¬ g.owns b → b ≠ x → w'.heap[b]? = w.heap[b]?
  own : ∀ b, g'.owns b → w.heap.size ≤ b ∨ g.owns b
  ro' : ∀ b, g'.ro b → g.ro b ∨ w.heap.size ≤ b ∨ g.owns b
theorem Step.rnd {g g' : G} {w w' : World} (h : Step g w g' w') (x : Nat) : Rnd x g w g' w' := ⟨h.size, fun b h1 h2 _ => h.block b h1 h2, h.own, h.ro'⟩

/-- A step of g1 leaves g2 as it is, and both apart. -/
theorem Sep.rnd {x : Nat} {g1 g1' g2 : G} {w w' : World} (hs : Sep g1 g2) (h2 : ∀ b, g2.foot b → b < w.heap.size ∧ b ≠ x) (st : Rnd x g1 w g1' w') : (∀ b, g2.foot b → w'.heap[b]? = w.heap[b]?) ∧ Sep g1' g2 := by
  refine ⟨fun b hb => st.block b (h2 b hb).1 (fun ho => hs.own b ho hb) (h2 b hb).2, fun b ho hf => ?_, fun b ho hr => ?_⟩
  · rcases st.own b ho with h | h
    · have := (h2 b hf).1; omega
    · exact hs.own b h hf
  · have hf := h2 b (.inl ho)
    rcases st.ro' b hr with h | h | h
    · exact hs.own' b ho h
    · omega
    · exact hs.own b h (.inl ho)

/-- What an iterator is told of the caller's side: it stays where the iterator leaves it alone; 'W0' the world in which the iterator was called, 'l' the loop's record. -/
structure JOk (l : Nat) (W0 : World) (J : Nat → G → World → Prop) : Prop where
  lrec : l < W0.heap.size
  size : ∀ k g W, J k g W → W0.heap.size ≤ W.heap.size ∧ ∀ b, g.foot b → b < W.heap.size
  stay : ∀ k g W W', J k g W → W'.os = W.os → (W'.tape = W.tape ∧ W.drawn ≤ W'.drawn) → W'.output = W.output → W.heap.size ≤ W'.heap.size → (∀ b, b < W0.heap.size ∨ g.foot b → W'.heap[b]? = W.heap[b]?) → J k g W'

def IInv (l : Nat) (W0 : World) (J : Nat → G → World → Prop) (k : Nat) (g1 : G) (w : World) : Prop :=
  ∃ g, J k g w ∧ Sep g1 g ∧ (∀ b, g1.owns b → W0.heap.size ≤ b) ∧ ¬ g1.ro l

theorem IInv.step {l : Nat} {W0 : World} {J : Nat → G → World → Prop} (hJ : JOk l W0 J) {k : Nat} {g1 g1' : G} {w w' : World} (h : IInv l W0 J k g1 w) (st : Step g1 w g1' w') : IInv l W0 J k g1' w' := by
  obtain ⟨g, hj, hs, ho, hr⟩ := h
  obtain ⟨hsz, hf⟩ := hJ.size k g w hj
  have hl := hJ.lrec
  refine ⟨g, hJ.stay k g w w' hj st.os st.tape st.output st.size ?_, ⟨?_, ?_⟩, ?_, ?_⟩
  · rintro b (hb | hb)
    · exact st.block b (by omega) fun h => by have := ho b h; omega
    · exact st.block b (hf b hb) fun h => hs.own b h hb
  · intro b h1 h2
    rcases st.own b h1 with h | h
    · have := hf b h2; omega
    · exact hs.own b h h2
  · intro b h1 h2
    have := hf b (.inl h1)
    rcases st.ro' b h2 with h | h | h
    · exact hs.own' b h1 h
    · omega
    · exact hs.own b h (.inl h1)
  · intro b h1
    rcases st.own b h1 with h | h
    · omega
    · exact ho b h
  · intro h1
    rcases st.ro' l h1 with h | h | h
    · exact hr h
    · omega
    · have := ho l h; omega

/-- A round of the caller's. -/
theorem IInv.rnd {l : Nat} {W0 : World} {J : Nat → G → World → Prop} (hJ : JOk l W0 J) {k : Nat} {g1 g g' : G} {w w' : World} (hf1 : ∀ b, g1.foot b → b < w.heap.size) (hs : Sep g1 g) (ho : ∀ b, g1.owns b → W0.heap.size ≤ b) (hr : ¬ g1.ro l) (st : Rnd l g w g' w') (hj' : J (k + 1) g' w') :
    IInv l W0 J (k + 1) g1 w' ∧ ∀ b, g1.foot b → w'.heap[b]? = w.heap[b]? := by
  have hl := hJ.lrec
  obtain ⟨h1, h2⟩ := hs.symm.rnd (x := l) (fun b hb => ⟨hf1 b hb, fun e => by
    subst e
    rcases hb with hb | hb
    · have := ho _ hb; omega
    · exact hr hb⟩) st
  exact ⟨⟨g', hj', h2.symm, ho, hr⟩, h1⟩

/-- An iterator's code, over states, the caller's side and the number of rounds. -/
def AWi (l : Nat) (W0 : World) (J : Nat → G → World → Prop) (P : Program) (c : Code) (Q : Exit → Nat × St → Prop) (s : Nat × St) : Prop :=
  ∀ g1 a w, RelS s.2 g1 a w → IInv l W0 J s.1 g1 w → c.wp P (fun e a' w' => ∃ s' g1', RelS s'.2 g1' a' w' ∧ IInv l W0 J s'.1 g1' w' ∧ Q e s') a w

section
variable {l : Nat} {W0 : World} {J : Nat → G → World → Prop} {P : Program} {Q : Exit → Nat × St → Prop} {s : Nat × St}
def seqI (K : Nat × St → Prop) (Q : Exit → Nat × St → Prop) : Exit → Nat × St → Prop
  | .normal, s => K s
  | e, s => Q e s
def blockI (id : Nat) (Q : Exit → Nat × St → Prop) : Exit → Nat × St → Prop
  | .exit id', s => if id' = id then Q .normal s else Q (.exit id') s
  | e, s => Q e s

theorem awi_of_awp (hJ : JOk l W0 J) {c : Code} (h : AWp P c (fun e s' => Q e (s.1, s')) s.2) : AWi l W0 J P c Q s :=
  fun g1 a w hr hi => wp_mono (h g1 a w hr) fun e a' w' ⟨s', g', h1, h2, h3⟩ => ⟨(s.1, s'), g', h1, hi.step hJ h2, h3⟩
theorem awi_seq {x y : Code} (h : AWi l W0 J P x (seqI (fun s' => AWi l W0 J P y Q s') Q) s) : AWi l W0 J P (.seq x y) Q s := by
  intro g a w hr hi
  refine wp_seq (wp_mono (h g a w hr hi) fun e a' w' ⟨s', g', h1, h2, h3⟩ => ?_)
  cases e with
  | normal => exact h3 g' a' w' h1 h2
  | _ => exact ⟨s', g', h1, h2, h3⟩
theorem awi_cond {c : Operand} {x y : Code} {b : Bool} (hc : s.2.eval c = .d (.bool b)) (ht : b = true → AWi l W0 J P x Q s) (hf : b = false → AWi l W0 J P y Q s) : AWi l W0 J P (.cond c x y) Q s := by
  intro g a w hr hi
  have h1 := eval_rep hr (fun _ => rfl) c
  rw [hc] at h1
  simp only [RepA, RepD] at h1
  exact wp_cond_split h1 (fun hb => ht hb g a w hr hi) (fun hb => hf hb g a w hr hi)
theorem awi_block {id : Nat} {c : Code} (h : AWi l W0 J P c (blockI id Q) s) : AWi l W0 J P (.block id c) Q s := by
  intro g a w hr hi
  refine wp_block (wp_mono (h g a w hr hi) fun e a' w' ⟨s', g', h1, h2, h3⟩ => ?_)
  cases e with
  | exit id' =>
    simp only [blockI] at h3
    simp only [Exit.inBlock]
    split at h3
    · rename_i he; rw [if_pos he]; exact ⟨s', g', h1, h2, h3⟩
    · rename_i he; rw [if_neg he]; exact ⟨s', g', h1, h2, h3⟩
  | _ => exact ⟨s', g', h1, h2, h3⟩
theorem awi_weak (hJ : JOk l W0 J) {c : Code} {s' : St} (hw : Weak s.2 s') (h : AWi l W0 J P c Q (s.1, s')) : AWi l W0 J P c Q s := by
  intro g a w hr hi
  obtain ⟨g', hr', hs⟩ := hw g a w hr
  exact h g' a w hr' (hi.step hJ hs)
theorem awi_loop (hJ : JOk l W0 J) {c : Code} {β : Type} (I : β → Nat × St) (inv : β → Prop) (meas : β → Nat) (b0 : β) (h0 : Weak s.2 (I b0).2) (hk : s.1 = (I b0).1) (hi : inv b0)
    (round : ∀ b, inv b → AWi l W0 J P c (seqI (fun s' => ∃ b', inv b' ∧ meas b' < meas b ∧ s'.1 = (I b').1 ∧ Weak s'.2 (I b').2) Q) (I b)) : AWi l W0 J P (.loop c) Q s := by
  refine awi_weak hJ h0 ?_
  rw [hk]
  intro g a w hr hiv
  refine wp_loop_rel (fun n a' w' => ∃ b g', inv b ∧ meas b = n ∧ RelS (I b).2 g' a' w' ∧ IInv l W0 J (I b).1 g' w') ?_ (n := meas b0) ⟨b0, g, hi, rfl, hr, hiv⟩
  rintro n a1 w1 ⟨b, g1, hb, rfl, hr1, hs1⟩
  refine wp_mono (round b hb g1 a1 w1 hr1 hs1) fun e a2 w2 ⟨s2, g2, h1, h2, h3⟩ => ?_
  cases e with
  | normal =>
    obtain ⟨b', k1, k2, k4, k3⟩ := h3
    obtain ⟨g3, h4, h5⟩ := k3 g2 a2 w2 h1
    rw [k4] at h2
    exact ⟨meas b', k2, b', g3, k1, rfl, h4, h2.step hJ h5⟩
  | _ => exact ⟨s2, g2, h1, h2, h3⟩
end

/-- What a round of the caller's does, at each item that the iterator hands over. -/
def JRound (m l : Nat) (P : Program) (J : Nat → G → World → Prop) (xs : List D) : Prop :=
  ∀ (k : Nat) (g : G) (W : World) (x : D) (v : Value), xs[k]? = some x → J k g W → RepD (fun _ => False) W x v →
    YieldAt Fence.wide m P l #[v] W fun e W' => e = .returned (.bool true) ∧ ∃ g', J (k + 1) g' W' ∧ Rnd l g W g' W'

/-- The region in which yield is called. -/
theorem awi_yield {l : Nat} {W0 : World} {J : Nat → G → World → Prop} {P : Program} {ty : TypeId → Option TI} (hc : Ctx P ty) (hJ : JOk l W0 J) {m : Nat} {xs : List D} (hR : JRound m l P J xs) {id : Nat} {ls pre post : List Oper} {o : Oper} (hl : ls = pre ++ o :: post) (hg : o.guard = none) {cl : Call} {fo x : Operand} (ho : o.op = .call cl) (hcal : cl.callee = .value fo) (hargs : cl.args = #[x]) (d : Tmp) (hdst : o.dst = some d) (hd : noDefer ls = true) {s : Nat × St} {dx : D} (hx : xs[s.1]? = some dx) (hfree : dx.free = true) {Q : Exit → Nat × St → Prop}
    (h : ∀ K : St → Prop, (∀ s', Q .normal (s.1 + 1, s') → K s') → wpT ty P [] (ls.map (·.dst)) s.2.nxt 0 pre { s.2 with nxt := s.2.nxt + ls.length } fun s1 => s1.eval fo = .d (.fn (.yield l) []) ∧ s1.eval x = .d dx ∧ d < s1.n ∧ wpT ty P [] (ls.map (·.dst)) s.2.nxt (pre.length + 1) post (s1.put (some d) (.d (.bool true))) K) :
    AWi l W0 J P (.region id ls.toArray false) Q s := by
  intro g1 a w hr hi
  rw [← wpIn_wide (n := m + 1)]
  refine wpIn_region_lit ?_
  have hgs : ∀ j : Nat, (ls.map (·.dst))[j]? = (ls.toArray[j]?).map fun o : Oper => o.dst := by intro j; simp
  have hlen : ls.length = pre.length + 1 + post.length := by rw [hl]; simp; omega
  have hd1 : noDefer pre = true := by rw [hl] at hd; simp only [noDefer, List.all_append, Bool.and_eq_true] at hd; exact hd.1
  have hd2 : noDefer post = true := by rw [hl] at hd; simp only [noDefer, List.all_append, List.all_cons, Bool.and_eq_true] at hd; exact hd.2.2
  have h0 := h (fun s' => Q .normal (s.1 + 1, s')) (fun _ hq => hq)
  have key := wpT_soundIn (free_wide (m + 1)) (P := P) hc (orc := []) (gs := ls.map (·.dst)) (ops := ls.toArray) hgs (base := s.2.nxt) (nxt := s.2.nxt + ls.length)
    (Q := fun e a' w' => ∃ s' g1', RelS s'.2 g1' a' w' ∧ IInv l W0 J s'.1 g1' w' ∧ Q e s') (g0 := g1) (w0 := w) (l2 := o :: post) (en := pre.length) (n0 := s.2.n)
    (K := fun s1 => s1.eval fo = .d (.fn (.yield l) []) ∧ s1.eval x = .d dx ∧ d < s1.n ∧ wpT ty P [] (ls.map (·.dst)) s.2.nxt (pre.length + 1) post (s1.put (some d) (.d (.bool true))) fun s' => Q .normal (s.1 + 1, s')) ?_ pre 0 { s.2 with nxt := s.2.nxt + ls.length } g1 a w hd1 (by simp) rfl rfl ⟨hr.defers, hr.size, hr.tmp, fun id hu => by have := hr.used id hu; simpa using this, hr.heap⟩ (Step.refl g1 w) h0
  · rw [← hl] at key; exact key
  · intro s1 g2 a1 w1 hnx hn0 hrel hst hk
    obtain ⟨e1, e2, e3, hk⟩ := hk
    have hi1 := hi.step hJ hst
    obtain ⟨g, hj, hs, how, hro⟩ := hi1
    have hfo := eval_rep hrel (s := s1) (fun _ => rfl) fo
    rw [e1] at hfo
    simp only [RepA, RepD] at hfo
    obtain ⟨vs, hfv, hvs⟩ := hfo
    have hvs0 : vs = [] := by
      cases vs with
      | nil => rfl
      | cons v vs => simp [RepDs] at hvs
    subst hvs0
    have hxv := eval_rep hrel (s := s1) (fun _ => rfl) x
    rw [e2] at hxv
    simp only [RepA] at hxv
    obtain ⟨fn, tmps, assign, body, hy, hround⟩ := hR s.1 g w1 dx (a1.eval x) hx hj (RepD.anywhere _ _ hfree hxv)
    simp only [wpListIn]
    have hw : Region.wanted o (yielded ls.toArray a1.tmps) = true := by simp [Region.wanted, hg]
    rw [if_pos hw]
    refine ⟨fun _ _ => trivial, ?_⟩
    have hrun : (o.semAt Fence.wide.round a1.eval).run P w1 = .ok (.round l fn tmps assign body) w1 := by
      have hsm : o.semAt Fence.wide.round a1.eval = execOp a1.eval o := Oper.semAt_eq _ _ _ (fun c hc => by rw [ho] at hc; cases hc)
      rw [hsm]
      unfold execOp
      simp only [ho, resolve, hcal, Deferred.ofValue, hfv, Sem.run_bind, Sem.run_pure, Result.andThen_ok, invoke, hargs]
      simpa using hy
    rw [hrun, Oper.uponIn_round]
    refine ⟨fun hh => absurd hh (by simp [Fence.wide]), ?_⟩
    refine RoundIn.mono (R := fun e W' => e = .returned (.bool true) ∧ ∃ g', J (s.1 + 1) g' W' ∧ Rnd l g w1 g' W') hround ?_
    rintro e w2 ⟨rfl, g', hj', hrnd⟩
    have hf1 : ∀ b, g2.foot b → b < w1.heap.size := fun b hb => hrel.heap.foot_lt hb
    obtain ⟨hi2, hfix⟩ := IInv.rnd hJ hf1 hs how hro hrnd hj'
    have hrel2 := hrel.stay hrnd.size hfix
    have hput := rel_put (U' := (· < s.2.nxt + (pre.length + 1))) (dst := some d) (v := .d (.bool true)) (u := .bool true) hrel2 hrel2.heap ⟨fun b hb => ⟨hb, rfl⟩, fun _ hx => hx, fun _ _ => .inl rfl⟩ (fun k hk => by have := hrel2.used k hk; show k < _; omega) (by simp [RepA, RepD]) (fun d' hd' => by cases hd'; exact e3)
    have hput2 := hput.congr (get' := (s1.put (some d) (.d (.bool true))).get) (obj' := (s1.put (some d) (.d (.bool true))).obj) (fun t => St.get_put s1 (some d) _ t) (fun id => put_obj s1 (some d) _ id)
    have fin := wpT_soundIn (free_wide (m + 1)) (P := P) hc (orc := []) (gs := ls.map (·.dst)) (ops := ls.toArray) hgs (base := s.2.nxt) (nxt := s.2.nxt + ls.length)
      (Q := fun e a' w' => ∃ s' g1', RelS s'.2 g1' a' w' ∧ IInv l W0 J s'.1 g1' w' ∧ Q e s') (g0 := g2) (w0 := w2) (l2 := []) (en := pre.length + 1 + post.length) (n0 := s.2.n)
      (K := fun s' => Q .normal (s.1 + 1, s')) (fun s3 g3 a3 w3 hnx3 hn3 hrel3 hst3 hk3 => ⟨(s.1 + 1, s3), g3, ⟨hrel3.defers, hrel3.size, hrel3.tmp, fun id hu => by have := hrel3.used id hu; show id < s3.nxt; omega, hrel3.heap⟩, hi2.step hJ hst3, hk3⟩)
      post (pre.length + 1) (s1.put (some d) (.d (.bool true))) g2 (a1.put (some d) (.bool true)) w2 hd2 rfl hnx hn0 hput2 (Step.refl g2 w2) hk
    rw [List.append_nil] at fin
    rw [hdst]
    exact fin

/-- AN ITERATOR: it hands over xs, one after another, whatever the caller's rounds do to the caller's own. -/
def IterOk (P : Program) (f : FuncId) (caps xs : List D) : Prop :=
  Enters P f ∧ ∀ (m l : Nat) (W0 : World) (J : Nat → G → World → Prop) (g0 : G) (ro : Nat → Prop) (vs : List Value), JOk l W0 J → JRound m l P J xs → J 0 g0 W0 → RepDs ro W0 caps vs → (∀ b, ro b → b < W0.heap.size ∧ b ≠ l ∧ ¬ g0.owns b) →
    Calls P f (.func (.yield l) #[] #[] :: vs).toArray W0 fun e W' => (∃ v, e = .returned v) ∧ ∃ g', J xs.length g' W'

theorem iter_of_awi {P : Program} {f : FuncId} {fn : Func} {c : Code} {caps xs : List D} (hf : P.funcs[f]? = some fn) (hb : fn.body = some c) (hname : (fn.name == "runtime.NumGoroutine") = false) (hn : caps.length + 1 ≤ fn.ntmps) (hres : fn.results = #[])
    (h : ∀ (m l : Nat) (W0 : World) (J : Nat → G → World → Prop), JOk l W0 J → JRound m l P J xs → AWi l W0 J P c (fun e s' => (e = .normal ∨ e = .ret) ∧ s'.1 = xs.length) (0, start fn.ntmps (.fn (.yield l) [] :: caps))) : IterOk P f caps xs := by
  refine ⟨⟨fn, hf, hname, by rw [hb]; rfl⟩, fun m l W0 J g0 ro vs hJ hR hj0 hd hro => ?_⟩
  have hd2 : RepDs ro W0 (.fn (.yield l) [] :: caps) (.func (.yield l) #[] #[] :: vs) := by
    simp only [RepDs, RepD]
    exact ⟨_, vs, rfl, ⟨[], rfl, rfl⟩, hd⟩
  have hst := start_rel (fun b hb => (hro b hb).1) hd2 (n := fn.ntmps) (by simpa using hn)
  refine calls_of_wp hf hb (wp_mono (h m l W0 J hJ hR _ _ W0 hst ⟨g0, hj0, ⟨?_, ?_⟩, ?_, ?_⟩) fun e a' w' ⟨s', g', h1, ⟨g, hj, _⟩, h3, h4⟩ => ?_)
  · rintro b ⟨_, _, hh, _⟩; cases hh
  · intro b ho hr; exact (hro b hr).2.2 ho
  · rintro b ⟨_, _, hh, _⟩; cases hh
  · intro hr; exact (hro l hr).2.1 rfl
  · have hj' : J xs.length g w' := by rw [← h4]; exact hj
    have fin : a'.defers = [] ∧ ∃ v, (results fn a'.tmps).run P w' = .ok v w' ∧ (∃ v', Ending.returned v = .returned v') ∧ ∃ g', J xs.length g' w' := ⟨h1.defers, _, results_none hres _ _ _, ⟨_, rfl⟩, g, hj'⟩
    rcases h3 with rfl | rfl
    · exact fin
    · exact fin

section
variable {l : Nat} {W0 : World} {J : Nat → G → World → Prop} {P : Program} {K : Nat × St → Prop} {Q : Exit → Nat × St → Prop} {s : Nat × St} {id i : Nat}
theorem awi_skip (h : Q .normal s) : AWi l W0 J P .skip Q s := fun g a w hr hi => wp_skip ⟨s, g, hr, hi, h⟩
theorem awi_exit {id : Nat} (h : Q (.exit id) s) : AWi l W0 J P (.exit id) Q s := fun g a w hr hi => wp_exit ⟨s, g, hr, hi, h⟩
theorem awi_ret (h : Q .ret s) : AWi l W0 J P .ret Q s := fun g a w hr hi => wp_ret ⟨s, g, hr, hi, h⟩
theorem si_n (h : K s) : seqI K Q .normal s := h
theorem si_r (h : Q .ret s) : seqI K Q .ret s := h
theorem si_x (h : Q (.exit i) s) : seqI K Q (.exit i) s := h
theorem bi_n (h : Q .normal s) : blockI id Q .normal s := h
theorem bi_r (h : Q .ret s) : blockI id Q .ret s := h
theorem bi_x (h : Q .normal s) : blockI id Q (.exit id) s := by simp only [blockI, if_true]; exact h
theorem bi_y (hn : Nat.beq i id = false) (h : Q (.exit i) s) : blockI id Q (.exit i) s := by
  simp only [blockI]
  rw [if_neg (Nat.ne_of_beq_eq_false hn)]; exact h
end
end Go.Abs

set_option linter.unusedVariables false
set_option linter.unusedSimpArgs false
set_option maxRecDepth 100000
namespace Go.Proofs.Ytagakfaiimaifaa
open Go.Abs

/-! The iterator over a region's cells. -/
theorem all_ok (R : List Row) : PC Try.prog 56 [.agg (regRow R)] (.p (.fn (.func 82) [.rp (regRow R)])) := by
  refine pc_of_awp cx (fn := Try.f56) (c := _) Try.func56 rfl rfl (Nat.le_of_ble_eq_true rfl) ?_
  rw [Try.ntmps56]; refine Nav.imp ?_
  refine awp_region cx [] fun K hK => ?_
  simp [push_cast]
  repeat (refine And.intro (by clear hK; intros; first | omega | (simp_all; done) | (simp_all <;> omega)) ?_)
  refine hK _ ?_; clear hK K; refine Nav.imp ?_
  refine awp_region cx [] fun K hK => ?_
  simp [push_cast]
  repeat (refine And.intro (by clear hK; intros; first | omega | (simp_all; done) | (simp_all <;> omega)) ?_)
  refine hK _ ?_; clear hK K; refine Nav.imp ?_
  simp [push_cast]
theorem cells_at {R : List Row} {i j q : Nat} {w : Row} {r : Run} (hw : R[i]? = some w) (hr : w.runs[j]? = some r) (hq : q < (r.b - r.a).toNat) :
    (regCells R)[(rowsTo R i).length + ((runsTo w j).length + q)]? = some ⟨r.a + q, w.y⟩ := by
  have h1 : regCells R = rowsTo R i ++ rowCells w ++ (R.drop (i + 1)).flatMap rowCells := flat_split rowCells hw
  have h2 : rowCells w = runsTo w j ++ runCells w.y r ++ (w.runs.drop (j + 1)).flatMap (runCells w.y) := flat_split (runCells w.y) hr
  have hl := runCells_len w.y r
  rw [h1, List.append_assoc, List.getElem?_append_right (by omega), Nat.add_sub_cancel_left, h2]
  rw [List.append_assoc, List.append_assoc, List.getElem?_append_right (by omega), Nat.add_sub_cancel_left, List.getElem?_append_left (by omega)]
  simp [runCells, hq]
def itemsOf (R : List Row) : List D := (regCells R).map fun c => .agg c.row

set_option maxHeartbeats 4000000 in
theorem iter_ok (R : List Row) (hsm : smallR R) (hv : validR R = true) : IterOk Try.prog 82 [.rp (regRow R)] (itemsOf R) := by
  have hRl := hsm.1
  have hlen : (itemsOf R).length = (regCells R).length := by simp [itemsOf]
  rw [← rowsTo_all] at hlen
  refine iter_of_awi (fn := Try.f82) (c := _) Try.func82 rfl rfl (Nat.le_of_ble_eq_true rfl) rfl fun m l W0 J hJ hR => ?_
  rw [Try.ntmps82]; (repeat (first | refine awi_seq ?_ | refine awi_block ?_ | refine awi_skip ?_ | refine awi_exit ?_ | refine awi_ret ?_ | refine si_n ?_ | refine si_r ?_ | refine si_x ?_ | refine bi_n ?_ | refine bi_r ?_ | refine bi_x ?_ | refine bi_y rfl ?_))
  rw [hlen]
  clear hlen
  refine awi_of_awp hJ (awp_region cx [] fun K hK => ?_)
  simp [push_cast]
  repeat (refine And.intro (by clear hK; intros; first | omega | (simp_all; done) | (simp_all <;> omega)) ?_)
  refine hK _ ?_; clear hK K; (try dsimp only); (repeat (first | refine awi_seq ?_ | refine awi_block ?_ | refine awi_skip ?_ | refine awi_exit ?_ | refine awi_ret ?_ | refine si_n ?_ | refine si_r ?_ | refine si_x ?_ | refine bi_n ?_ | refine bi_r ?_ | refine bi_x ?_ | refine bi_y rfl ?_))
  refine awi_loop hJ (β := Nat) (fun i => ((rowsTo R i).length, ⟨39, [(0, .d (.fn (.yield l) [])), (9, .d (encRows R)), (10, .d (.int .i64 R.length)), (11, .d (.int .i64 i))], [], 0⟩)) (fun i => i ≤ R.length) (fun i => R.length - i) 0 ?_ (by simp [rowsTo]) (Nat.zero_le _) ?_
  · refine weak_of [] rfl (by simp [upT, up, upL, push_cast]) (by simp [upH, upR, upL, up, push_cast]) (by simp [namesOk, push_cast]) (by simp [olds])
  · intro i hi
    replace hi : i ≤ R.length := hi
    (repeat (first | refine awi_seq ?_ | refine awi_block ?_ | refine awi_skip ?_ | refine awi_exit ?_ | refine awi_ret ?_ | refine si_n ?_ | refine si_r ?_ | refine si_x ?_ | refine bi_n ?_ | refine bi_r ?_ | refine bi_x ?_ | refine bi_y rfl ?_))
    refine awi_of_awp hJ (awp_region cx [] fun K hK => ?_)
    simp [push_cast]
    repeat (refine And.intro (by clear hK; intros; first | omega | (simp_all; done) | (simp_all <;> omega)) ?_)
    refine hK _ ?_; clear hK K; (try dsimp only); (repeat (first | refine awi_seq ?_ | refine awi_block ?_ | refine awi_skip ?_ | refine awi_exit ?_ | refine awi_ret ?_ | refine si_n ?_ | refine si_r ?_ | refine si_x ?_ | refine bi_n ?_ | refine bi_r ?_ | refine bi_x ?_ | refine bi_y rfl ?_))
    refine awi_cond (b := decide ((i : Int) < R.length)) (by simp [push_cast]) (fun hb => ?_) (fun hb => ?_) <;> ((repeat (first | refine awi_seq ?_ | refine awi_block ?_ | refine awi_skip ?_ | refine awi_exit ?_ | refine awi_ret ?_ | refine si_n ?_ | refine si_r ?_ | refine si_x ?_ | refine bi_n ?_ | refine bi_r ?_ | refine bi_x ?_ | refine bi_y rfl ?_)))
    · have hlt : i < R.length := by simpa using hb
      obtain ⟨w, hw⟩ := getq hlt
      have e0 := wrap_i64 (n := (i : Int) + 1) (by omega) (by omega)
      have hwl := hsm.2 w (List.mem_of_getElem? hw)
      have hfine := (validR_at hv hw).2
      have hnx : (rowsTo R i).length + (runsTo w w.runs.length).length = (rowsTo R (i + 1)).length := by rw [rowsTo_next hw, runsTo_all, List.length_append]
      refine awi_of_awp hJ (awp_region cx [] fun K hK => ?_)
      simp [push_cast, hw, Row.row]
      repeat (refine And.intro (by clear hK; intros; first | omega | (simp_all; done) | (simp_all <;> omega)) ?_)
      refine hK _ ?_; clear hK K; (try dsimp only); (repeat (first | refine awi_seq ?_ | refine awi_block ?_ | refine awi_skip ?_ | refine awi_exit ?_ | refine awi_ret ?_ | refine si_n ?_ | refine si_r ?_ | refine si_x ?_ | refine bi_n ?_ | refine bi_r ?_ | refine bi_x ?_ | refine bi_y rfl ?_))
      refine awi_of_awp hJ (awp_region cx [] fun K hK => ?_)
      simp [push_cast]
      repeat (refine And.intro (by clear hK; intros; first | omega | (simp_all; done) | (simp_all <;> omega)) ?_)
      refine hK _ ?_; clear hK K; (try dsimp only); (repeat (first | refine awi_seq ?_ | refine awi_block ?_ | refine awi_skip ?_ | refine awi_exit ?_ | refine awi_ret ?_ | refine si_n ?_ | refine si_r ?_ | refine si_x ?_ | refine bi_n ?_ | refine bi_r ?_ | refine bi_x ?_ | refine bi_y rfl ?_))
      generalize hX : (rowsTo R i).length = X at *
      refine awi_loop hJ (β := Nat) (fun j => (X + (runsTo w j).length, ⟨39, [(0, .d (.fn (.yield l) [])), (4, .ptr 0 0 0), (9, .d (encRows R)), (10, .d (.int .i64 R.length)), (11, .d (.int .i64 i)), (16, .d (encRuns w.runs)), (17, .d (.int .i64 w.runs.length)), (18, .d (.int .i64 j))], [(0, some ⟨42, 2, [[.d (.int .i64 w.y), .d (encRuns w.runs)]]⟩)], 1⟩)) (fun j => j ≤ w.runs.length) (fun j => w.runs.length - j) 0 ?_ (by simp [runsTo]) (Nat.zero_le _) ?_
      · dsimp only
        refine weak_of [(0, some 3)] rfl (by simp [upT, up, upL, push_cast]) (by simp [upH, upR, upL, up, push_cast]) (by simp [namesOk, push_cast]) (by simp [olds])
      · intro j hj
        replace hj : j ≤ w.runs.length := hj
        (repeat (first | refine awi_seq ?_ | refine awi_block ?_ | refine awi_skip ?_ | refine awi_exit ?_ | refine awi_ret ?_ | refine si_n ?_ | refine si_r ?_ | refine si_x ?_ | refine bi_n ?_ | refine bi_r ?_ | refine bi_x ?_ | refine bi_y rfl ?_))
        refine awi_of_awp hJ (awp_region cx [] fun K hK => ?_)
        simp [push_cast]
        repeat (refine And.intro (by clear hK; intros; first | omega | (simp_all; done) | (simp_all <;> omega)) ?_)
        refine hK _ ?_; clear hK K; (try dsimp only); (repeat (first | refine awi_seq ?_ | refine awi_block ?_ | refine awi_skip ?_ | refine awi_exit ?_ | refine awi_ret ?_ | refine si_n ?_ | refine si_r ?_ | refine si_x ?_ | refine bi_n ?_ | refine bi_r ?_ | refine bi_x ?_ | refine bi_y rfl ?_))
        refine awi_cond (b := decide ((j : Int) < w.runs.length)) (by simp [push_cast]) (fun hb => ?_) (fun hb => ?_) <;> ((repeat (first | refine awi_seq ?_ | refine awi_block ?_ | refine awi_skip ?_ | refine awi_exit ?_ | refine awi_ret ?_ | refine si_n ?_ | refine si_r ?_ | refine si_x ?_ | refine bi_n ?_ | refine bi_r ?_ | refine bi_x ?_ | refine bi_y rfl ?_)))
        · have hlj : j < w.runs.length := by simpa using hb
          obtain ⟨r, hr⟩ := getq hlj
          have e1 := wrap_i64 (n := (j : Int) + 1) (by omega) (by omega)
          have hrb := fine_at hfine hr
          have hrl := runCells_len w.y r
          have hat := fun q hq => @cells_at R i j q w r hw hr hq
          have hnr : (runsTo w j).length + (r.b - r.a).toNat = (runsTo w (j + 1)).length := by rw [runsTo_next hr, List.length_append, hrl]
          rw [hX] at hat
          generalize (runsTo w j).length = Y at *
          obtain ⟨ra, rb⟩ := r
          simp only at hrb hrl hat hnr
          refine awi_of_awp hJ (awp_region cx [] fun K hK => ?_)
          simp [push_cast, hr, Run.row]
          repeat (refine And.intro (by clear hK; intros; first | omega | (simp_all; done) | (simp_all <;> omega)) ?_)
          refine hK _ ?_; clear hK K; (try dsimp only); (repeat (first | refine awi_seq ?_ | refine awi_block ?_ | refine awi_skip ?_ | refine awi_exit ?_ | refine awi_ret ?_ | refine si_n ?_ | refine si_r ?_ | refine si_x ?_ | refine bi_n ?_ | refine bi_r ?_ | refine bi_x ?_ | refine bi_y rfl ?_))
          refine awi_of_awp hJ (awp_region cx [] fun K hK => ?_)
          simp [push_cast]
          repeat (refine And.intro (by clear hK; intros; first | omega | (simp_all; done) | (simp_all <;> omega)) ?_)
          refine hK _ ?_; clear hK K; (try dsimp only); (repeat (first | refine awi_seq ?_ | refine awi_block ?_ | refine awi_skip ?_ | refine awi_exit ?_ | refine awi_ret ?_ | refine si_n ?_ | refine si_r ?_ | refine si_x ?_ | refine bi_n ?_ | refine bi_r ?_ | refine bi_x ?_ | refine bi_y rfl ?_))
          refine awi_loop hJ (β := Nat) (fun q => (X + (Y + q), ⟨39, [(0, .d (.fn (.yield l) [])), (4, .ptr 0 0 0), (6, .ptr 1 0 0), (7, .d (.int .i64 (ra + q))), (9, .d (encRows R)), (10, .d (.int .i64 R.length)), (11, .d (.int .i64 i)), (16, .d (encRuns w.runs)), (17, .d (.int .i64 w.runs.length)), (18, .d (.int .i64 j))], [(0, some ⟨42, 2, [[.d (.int .i64 w.y), .d (encRuns w.runs)]]⟩), (1, some ⟨56, 2, [[.d (.int .i64 ra), .d (.int .i64 rb)]]⟩)], 2⟩)) (fun q => q ≤ (rb - ra).toNat) (fun q => (rb - ra).toNat - q) 0 ?_ (by simp) (Nat.zero_le _) ?_
          · dsimp only
            refine weak_of [(0, some 0), (1, some 4)] rfl (by simp [upT, up, upL, push_cast]) (by simp [upH, upR, upL, up, push_cast]) (by simp [namesOk, push_cast]) (by simp [olds])
          · intro q hq
            replace hq : q ≤ (rb - ra).toNat := hq
            (repeat (first | refine awi_seq ?_ | refine awi_block ?_ | refine awi_skip ?_ | refine awi_exit ?_ | refine awi_ret ?_ | refine si_n ?_ | refine si_r ?_ | refine si_x ?_ | refine bi_n ?_ | refine bi_r ?_ | refine bi_x ?_ | refine bi_y rfl ?_))
            refine awi_of_awp hJ (awp_region cx [] fun K hK => ?_)
            simp [push_cast]
            repeat (refine And.intro (by clear hK; intros; first | omega | (simp_all; done) | (simp_all <;> omega)) ?_)
            refine hK _ ?_; clear hK K; (try dsimp only); (repeat (first | refine awi_seq ?_ | refine awi_block ?_ | refine awi_skip ?_ | refine awi_exit ?_ | refine awi_ret ?_ | refine si_n ?_ | refine si_r ?_ | refine si_x ?_ | refine bi_n ?_ | refine bi_r ?_ | refine bi_x ?_ | refine bi_y rfl ?_))
            refine awi_cond (b := decide (ra + (q : Int) < rb)) (by simp [push_cast]) (fun hb => ?_) (fun hb => ?_) <;> ((repeat (first | refine awi_seq ?_ | refine awi_block ?_ | refine awi_skip ?_ | refine awi_exit ?_ | refine awi_ret ?_ | refine si_n ?_ | refine si_r ?_ | refine si_x ?_ | refine bi_n ?_ | refine bi_r ?_ | refine bi_x ?_ | refine bi_y rfl ?_)))
            · have hql : q < (rb - ra).toNat := by simp at hb; omega
              have e2 := wrap_i64 (n := ra + (q : Int) + 1) (by omega) (by omega)
              have hx : (itemsOf R)[X + (Y + q)]? = some (.agg [.int .i64 (ra + q), .int .i64 w.y]) := by
                unfold itemsOf
                rw [List.getElem?_map, hat q hql]; rfl
              refine awi_yield cx hJ hR (pre := [_, _, _, _, _]) (post := [_]) rfl rfl rfl rfl rfl 35 rfl rfl hx rfl fun K hK => ?_
              simp [push_cast]
              refine hK _ ?_
              clear hK K
              (try dsimp only)
              (repeat (first | refine awi_seq ?_ | refine awi_block ?_ | refine awi_skip ?_ | refine awi_exit ?_ | refine awi_ret ?_ | refine si_n ?_ | refine si_r ?_ | refine si_x ?_ | refine bi_n ?_ | refine bi_r ?_ | refine bi_x ?_ | refine bi_y rfl ?_))
              refine awi_cond (b := false) (by simp [push_cast]) (fun hb => ?_) (fun hb => ?_) <;> ((repeat (first | refine awi_seq ?_ | refine awi_block ?_ | refine awi_skip ?_ | refine awi_exit ?_ | refine awi_ret ?_ | refine si_n ?_ | refine si_r ?_ | refine si_x ?_ | refine bi_n ?_ | refine bi_r ?_ | refine bi_x ?_ | refine bi_y rfl ?_)))
              · simp at hb
              · refine awi_of_awp hJ (awp_region cx [] fun K hK => ?_)
                simp [push_cast, e2]
                repeat (refine And.intro (by clear hK; intros; first | omega | (simp_all; done) | (simp_all <;> omega)) ?_)
                refine hK _ ?_; clear hK K; (try dsimp only); (repeat (first | refine awi_seq ?_ | refine awi_block ?_ | refine awi_skip ?_ | refine awi_exit ?_ | refine awi_ret ?_ | refine si_n ?_ | refine si_r ?_ | refine si_x ?_ | refine bi_n ?_ | refine bi_r ?_ | refine bi_x ?_ | refine bi_y rfl ?_))
                refine ⟨q + 1, hql, by omega, by simp only; omega, ?_⟩
                dsimp only
                have e3 : ra + ((q : Int) + 1) = ra + q + 1 := by omega
                refine weak_of [(0, some 0), (1, some 1)] rfl (by simp [upT, up, upL, push_cast, e3]) (by simp [upH, upR, upL, up, push_cast, e3]) (by simp [namesOk, push_cast]) (by simp [olds])
            · have hqe : q = (rb - ra).toNat := by simp at hb; omega
              subst hqe
              refine awi_of_awp hJ (awp_region cx [] fun K hK => ?_)
              simp [push_cast, e1]
              repeat (refine And.intro (by clear hK; intros; first | omega | (simp_all; done) | (simp_all <;> omega)) ?_)
              refine hK _ ?_; clear hK K; (try dsimp only); (repeat (first | refine awi_seq ?_ | refine awi_block ?_ | refine awi_skip ?_ | refine awi_exit ?_ | refine awi_ret ?_ | refine si_n ?_ | refine si_r ?_ | refine si_x ?_ | refine bi_n ?_ | refine bi_r ?_ | refine bi_x ?_ | refine bi_y rfl ?_))
              refine ⟨j + 1, hlj, by omega, by simp only; omega, ?_⟩
              dsimp only
              refine weak_of [(0, some 0)] rfl (by simp [upT, up, upL, push_cast]) (by simp [upH, upR, upL, up, push_cast]) (by simp [namesOk, push_cast]) (by simp [olds])
        · have hje : j = w.runs.length := by simp at hb; omega
          subst hje
          refine awi_of_awp hJ (awp_region cx [] fun K hK => ?_)
          simp [push_cast, e0]
          repeat (refine And.intro (by clear hK; intros; first | omega | (simp_all; done) | (simp_all <;> omega)) ?_)
          refine hK _ ?_; clear hK K; (try dsimp only); (repeat (first | refine awi_seq ?_ | refine awi_block ?_ | refine awi_skip ?_ | refine awi_exit ?_ | refine awi_ret ?_ | refine si_n ?_ | refine si_r ?_ | refine si_x ?_ | refine bi_n ?_ | refine bi_r ?_ | refine bi_x ?_ | refine bi_y rfl ?_))
          refine ⟨i + 1, hlt, by omega, by simp only; omega, ?_⟩
          dsimp only
          refine weak_of [] rfl (by simp [upT, up, upL, push_cast]) (by simp [upH, upR, upL, up, push_cast]) (by simp [namesOk, push_cast]) (by simp [olds])
    · have hie : i = R.length := by simp at hb; omega
      subst hie
      exact ⟨.inl rfl, rfl⟩
end Go.Proofs.Ytagakfaiimaifaa

set_option linter.unusedVariables false
set_option linter.unusedSimpArgs false
namespace Go.Abs
open Go.RowKit

theorem Step.foot {g g' : G} {w w' : World} (h : Step g w g' w') {b : Nat} (hb : b < w.heap.size) (hn : ¬ g.foot b) : ¬ g'.foot b := by
  rintro (h1 | h1)
  · rcases h.own b h1 with h2 | h2
    · omega
    · exact hn (.inl h2)
  · rcases h.ro' b h1 with h2 | h2 | h2
    · exact hn (.inr h2)
    · omega
    · exact hn (.inl h2)
theorem Step.put {g g' : G} {w w' : World} (h : Step g w g' w') {l : Nat} (o : Obj) (hl : w.heap.size ≤ l) : Step g w g' (w'.putObj l o) :=
  ⟨h.os, h.tape, h.output, by simpa using h.size, fun b h1 h2 => by rw [World.putObj_heap_other (by omega)]; exact h.block b h1 h2, h.own, h.ro, h.ro'⟩
theorem Step.allocB {g g' : G} {w w' : World} (h : Step g w g' w') (o : Obj) : Step g w g' (w'.alloc o) :=
  ⟨h.os, h.tape, h.output, by have := h.size; simp; omega, fun b h1 h2 => by
    have := h.size
    have e : (w'.alloc o).heap[b]? = w'.heap[b]? := by
      show (w'.heap.push o)[b]? = _
      rw [Array.getElem?_push_lt (by omega), Array.getElem?_eq_getElem (by omega)]
    rw [e]; exact h.block b h1 h2, h.own, h.ro, h.ro'⟩
theorem Rnd.step {x : Nat} {g g' g'' : G} {w w' w'' : World} (h : Rnd x g w g' w') (k : Step g' w' g'' w'') : Rnd x g w g'' w'' := by
  have hs := h.size
  refine ⟨Nat.le_trans h.size k.size, fun b h1 h2 h3 => ?_, fun b hb => ?_, fun b hb => ?_⟩
  · rw [k.block b (by omega) fun ho => by
      rcases h.own b ho with h4 | h4
      · omega
      · exact h2 h4]
    exact h.block b h1 h2 h3
  · rcases k.own b hb with h1 | h1
    · exact .inl (by omega)
    · exact h.own b h1
  · rcases k.ro' b hb with h1 | h1 | h1
    · exact h.ro' b h1
    · exact .inr (.inl (by omega))
    · rcases h.own b h1 with h2 | h2
      · exact .inr (.inl h2)
      · exact .inr (.inr h2)
theorem Rnd.put {x : Nat} {g g' : G} {w w' : World} (h : Rnd x g w g' w') (o : Obj) : Rnd x g w g' (w'.putObj x o) :=
  ⟨by simpa using h.size, fun b h1 h2 h3 => by rw [World.putObj_heap_other h3]; exact h.block b h1 h2 h3, h.own, h.ro'⟩
theorem Rel.put {U : Nat → Prop} {g : G} {get : Nat → AV} {obj : Nat → Option Ob} {n : Nat} {a : Act} {w : World} (h : Rel U g get obj n a w) {l : Nat} (o : Obj) (hl : ¬ g.foot l) : Rel U g get obj n a (w.putObj l o) :=
  h.stay (by simp) fun b hb => World.putObj_heap_other fun e => hl (e ▸ hb)

/-- The state between two rounds: a pointer to the one variable, whose place is known. -/
def S1 (n t pn id : Nat) (L : Loc) (hp : List (Nat × Option Ob)) (nx : Nat) : St := ⟨n, [(t, .ptr id 0 0), (pn, .pin id L)], hp, nx⟩
theorem S1_tmps {n t pn id : Nat} {L : Loc} {hp : List (Nat × Option Ob)} {nx : Nat} (htp : t ≠ pn) {g : G} {a a' : Act} {w : World} (h : RelS (S1 n t pn id L hp nx) g a' w) (hd : a.defers = []) (hs : a.tmps.size = n)
    (hv : (a.tmps.getD t undef).oneCell' = true ∧ (L.virt = false ∧ L.map = false) ∧ a.tmps.getD t undef = .pointer (some ⟨L.blk, 0 * L.m + 0, none⟩)) : RelS (S1 n t pn id L hp nx) g a w := by
  have hpin : g.used id ∧ ∀ M, g.loc id = some M → M = L := by
    have := h.tmp pn
    rw [show (S1 n t pn id L hp nx).get pn = .pin id L from by simp [S1, St.get, find, htp]] at this
    simpa [RepA] using this
  refine ⟨hd, hs, fun x => ?_, h.used, h.heap⟩
  by_cases e : x = t
  · subst e
    rw [show (S1 n x pn id L hp nx).get x = .ptr id 0 0 from by simp [S1, St.get, find]]
    simp only [RepA]
    exact ⟨⟨hpin.1, hv.1⟩, fun M hM => by rw [hpin.2 M hM]; exact hv.2⟩
  · by_cases e2 : x = pn
    · subst e2
      rw [show (S1 n t x id L hp nx).get x = .pin id L from by simp [S1, St.get, find, htp]]
      simp only [RepA]; exact hpin
    · rw [show (S1 n t pn id L hp nx).get x = .any from by simp [S1, St.get, find, Ne.symm e, Ne.symm e2]]
      simp [RepA]

/-- THE LOOP. -/
theorem range_sound {m : Nat} {P : Program} {a : Act} {w : World} {s : St} {g0 : G} (hr : RelS s g0 a w) {go : Operand} {f : FuncId} {caps xs : List D} (hgv : s.eval go = .d (.fn (.func f) caps)) (hit : IterOk P f caps xs)
    {t pn idS id pt nx : Nat} (htp : t ≠ pn) (hpn : s.n ≤ pn) (hgt : s.get t = .ptr idS 0 0) (hptn : pt < s.n) {o : Ob} (hob : s.obj idS = some o) (hus : idS < s.nxt) (I : Nat → List (Nat × Option Ob))
    (hstart : ∀ L, Weak { s with tm := (pn, .pin idS L) :: s.tm } (S1 s.n t pn id L (I 0) nx)) {assign body : Code}
    (hbody : ∀ L k x, xs[k]? = some x → AWr m P assign (fun e s1 => e = .normal ∧ AWr m P body (fun e s2 => e = .normal ∧ Weak s2 (S1 s.n t pn id L (I (k + 1)) nx)) s1) { S1 s.n t pn id L (I k) nx with tm := (pt, .d x) :: (S1 s.n t pn id L (I k) nx).tm })
    {Q : Exit → Act → World → Prop}
    (hdone : ∀ g' W D L, RelS (S1 s.n t pn id L (I xs.length) nx) g' a W → Step g0 w g' W → w.heap.size ≤ D → W.heap[D]? = some (.deferred (some [])) → ¬ g'.foot D → Q .normal { a with defers := { target := .collected D, args := #[] } :: a.defers } W) :
    (Code.rangeFunc go #[pt] assign body).wpIn Fence.wide (m + 2) P Q a w := by
  -- the iterator's value
  have hval := eval_rep hr (s := s) (fun _ => rfl) go
  rw [hgv] at hval
  simp only [RepA, RepD] at hval
  obtain ⟨vs, hgo, hcaps⟩ := hval
  -- the variable's place
  obtain ⟨L, hL, _⟩ := hr.heap.own idS o hob
  have hused : g0.used idS := (hr.heap.live idS L hL).1
  have hptr := hr.tmp t
  have hgt' : s.get t = .ptr idS 0 0 := hgt
  rw [hgt'] at hptr
  simp only [RepA] at hptr
  have hv : (a.tmps.getD t undef).oneCell' = true ∧ (L.virt = false ∧ L.map = false) ∧ a.tmps.getD t undef = .pointer (some ⟨L.blk, 0 * L.m + 0, none⟩) := ⟨hptr.1.2, hptr.2 L hL⟩
  have hr1 : RelS { s with tm := (pn, .pin idS L) :: s.tm } g0 a w := by
    refine ⟨hr.defers, hr.size, fun x => ?_, hr.used, hr.heap⟩
    by_cases e : pn = x
    · subst e
      rw [show St.get { s with tm := (pn, .pin idS L) :: s.tm } pn = .pin idS L from by simp [St.get, find]]
      simp only [RepA]; exact ⟨hused, fun M hM => by rw [hL] at hM; exact (Option.some.inj hM).symm⟩
    · rw [show St.get { s with tm := (pn, .pin idS L) :: s.tm } x = s.get x from by simp [St.get, find, e]]
      exact hr.tmp x
  obtain ⟨g1, hS0, hst0⟩ := hstart L g0 a w hr1
  obtain ⟨fnf, hfn, hname, hbodyf⟩ := hit.1
  have eg : ∀ args w, (callFunc f args).run P w = .ok (.enter f args) w := fun args w => by
    simp only [callFunc, Sem.run_bind, run_program, Result.andThen_ok, hfn, hname, hbodyf, Bool.false_eq_true, if_false, Sem.run_pure]
  refine wpIn_rangeFunc ?_
  intro fn hfn'
  rw [Fence.wide_round]
  obtain ⟨rec, hrec⟩ : ∃ rec : LoopState → Option Code → Loop, rec = fun st pe => { state := st, pending := pe, fn, tmps := a.tmps, params := #[pt], assign, body, defers := w.heap.size } := ⟨_, rfl⟩
  obtain ⟨W1, hW1⟩ : ∃ W1, (w.alloc (.deferred (some []))).alloc (.loop (rec .ready none)) = W1 := ⟨_, rfl⟩
  have hsz1 : W1.heap.size = w.heap.size + 2 := by rw [← hW1]; simp
  have hL1 : W1.heap[w.heap.size + 1]? = some (.loop (rec .ready none)) := by
    rw [← hW1]; have := World.alloc_heap_new (w.alloc (.deferred (some []))) (.loop (rec .ready none)); rwa [World.size_alloc] at this
  have hK1 : W1.heap[w.heap.size]? = some (.deferred (some [])) := by
    rw [← hW1]
    show ((w.alloc (.deferred (some []))).heap.push _)[w.heap.size]? = _
    rw [Array.getElem?_push_lt (by simp), ← Array.getElem?_eq_getElem (by simp)]
    exact World.alloc_heap_new w _
  have hst1 : Step g0 w g1 W1 := by rw [← hW1]; exact (hst0.allocB _).allocB _
  have hlow : ∀ b, b < w.heap.size → W1.heap[b]? = w.heap[b]? := fun b hb => by
    have h := (Step.refl ⟨fun _ => False, fun _ => none, fun _ => False⟩ w).allocB (.deferred (some []))
    have h2 := (h.allocB (.loop (rec .ready none))).block b hb (by rintro ⟨_, _, hh, _⟩; cases hh)
    rw [hW1] at h2; exact h2
  refine ⟨w.heap.size + 1, [{ target := .collected w.heap.size, args := #[] }], W1, { target := .fn (.func f) vs.toArray, args := #[.func (.yield (w.heap.size + 1)) #[] #[]] }, W1, f,
    #[.func (.yield (w.heap.size + 1)) #[] #[]] ++ vs.toArray, W1, ?_, ?_, fun _ _ => trivial, ?_, fun h => absurd h (by simp [Fence.wide]), ?_⟩
  · rw [← hW1, hrec]; exact run_enterLoop_outer _ _ _ _ _
  · simp only [resolve, hgo]
    simp [go_sem]
  · simp [invoke, go_sem, eg]
  · let J : Nat → G → World → Prop := fun k g W => RelS (S1 s.n t pn id L (I k) nx) g a W ∧ Step g0 w g W ∧ W.heap[w.heap.size + 1]? = some (.loop (rec .ready none)) ∧ W.heap[w.heap.size]? = some (.deferred (some [])) ∧ ¬ g.foot (w.heap.size + 1) ∧ ¬ g.foot w.heap.size
    have hfoot0 : ∀ b, g1.foot b → b < w.heap.size := fun b hb => hS0.heap.foot_lt hb
    have hJ0 : J 0 g1 W1 := ⟨hS0.stay (by omega) fun b hb => hlow b (hfoot0 b hb), hst1, hL1, hK1, fun h => by have := hfoot0 _ h; omega, fun h => by have := hfoot0 _ h; omega⟩
    have hJ : JOk (w.heap.size + 1) W1 J := by
      refine ⟨by omega, fun k g W ⟨h1, h2, h3, h4, h5, h6⟩ => ⟨?_, fun b hb => h1.heap.foot_lt hb⟩, fun k g W W' ⟨h1, h2, h3, h4, h5, h6⟩ k1 k2 k3 k4 k5 => ⟨h1.stay k4 fun b hb => k5 b (.inr hb), ?_, (k5 _ (.inl (by omega))).trans h3, (k5 _ (.inl (by omega))).trans h4, h5, h6⟩⟩
      · have := (Array.getElem?_eq_some_iff.1 h3).1; omega
      · exact ⟨k1.trans h2.os, ⟨k2.1.trans h2.tape.1, Nat.le_trans h2.tape.2 k2.2⟩, k3.trans h2.output, Nat.le_trans h2.size k4, fun b b1 b2 => (k5 b (.inl (by omega))).trans (h2.block b b1 b2), h2.own, h2.ro, h2.ro'⟩
    have hR : JRound m (w.heap.size + 1) P J xs := by
      rintro k g W x v hx ⟨hrel, hst, hl, hk, hfl, hfk⟩ hxv
      have hlt : w.heap.size + 1 < W.heap.size := (Array.getElem?_eq_some_iff.1 hl).1
      have hy := run_yield (P := P) (args := #[v]) hl (by rw [hrec]; rfl)
      rw [hrec] at hy
      refine ⟨fn, _, assign, body, hy, roundIn_of_wpIn trivial ?_⟩
      have hput := rel_put (U' := (· < nx)) (dst := some pt) (v := .d x) (u := v) hrel hrel.heap ⟨fun b hb => ⟨hb, rfl⟩, fun _ hx => hx, fun _ _ => .inl rfl⟩ (fun k hk => hrel.used k hk) (by simp only [RepA]; exact RepD.mono (fun b hb => hb.elim) x v hxv) (fun d hd => by cases hd; exact hptn)
      have hstart2 : RelS { S1 s.n t pn id L (I k) nx with tm := (pt, .d x) :: (S1 s.n t pn id L (I k) nx).tm } g { tmps := a.tmps.setIfInBounds pt v, defers := [] } W := by
        have e : a.put (some pt) v = { tmps := a.tmps.setIfInBounds pt v, defers := [] } := by simp [Act.put, hr.defers]
        rw [e] at hput
        exact hput.congr (fun x' => by simp only [putG, St.get, find]; split <;> simp_all [St.get]) (fun _ => rfl)
      refine wpIn_mono (hbody L k x hx _ g _ W (by simpa using hstart2)) ?_
      rintro e a1 w1 ⟨s1, g2, r1, st1, rfl, hb⟩
      have hl1 : w1.heap[w.heap.size + 1]? = some (.loop (rec .ready none)) := (st1.block _ hlt fun h => hfl (.inl h)).trans hl
      have hk1 : w1.heap[w.heap.size]? = some (.deferred (some [])) := (st1.block _ (by omega) fun h => hfk (.inl h)).trans hk
      have hfl1 := st1.foot hlt hfl
      have hfk1 := st1.foot (b := w.heap.size) (by omega) hfk
      refine ⟨_, run_beginRound hl1 (by rw [hrec]), ?_⟩
      have hsz1' : w.heap.size + 1 < w1.heap.size := (Array.getElem?_eq_some_iff.1 hl1).1
      have hl2 : (w1.putObj (w.heap.size + 1) (.loop { rec .ready none with state := .busy })).heap[w.heap.size + 1]? = some (.loop { rec .ready none with state := .busy }) := World.putObj_heap_same hsz1'
      have hk2 : (w1.putObj (w.heap.size + 1) (.loop { rec .ready none with state := .busy })).heap[w.heap.size]? = some (.deferred (some [])) := (World.putObj_heap_other (by omega)).trans hk1
      have r1' : RelS s1 g2 a1 (w1.putObj (w.heap.size + 1) (.loop { rec .ready none with state := .busy })) := r1.put _ hfl1
      have stA : Step g0 w g2 (w1.putObj (w.heap.size + 1) (.loop { rec .ready none with state := .busy })) := (hst.trans st1).put _ (by omega)
      have rnA : Rnd (w.heap.size + 1) g W g2 (w1.putObj (w.heap.size + 1) (.loop { rec .ready none with state := .busy })) := (st1.rnd _).put _
      generalize hw2 : w1.putObj (w.heap.size + 1) (.loop { rec .ready none with state := .busy }) = w2 at *
      have hsz2 : w.heap.size + 1 < w2.heap.size := (Array.getElem?_eq_some_iff.1 hl2).1
      refine wpIn_mono (hb _ g2 a1 w2 r1') ?_
      rintro e a2 w3 ⟨s2, g3, r2, st2, rfl, hweak⟩
      obtain ⟨g4, r3, st3⟩ := hweak g3 a2 w3 r2
      have hl3 : w3.heap[w.heap.size + 1]? = some (.loop { rec .ready none with state := .busy }) := (st2.block _ hsz2 fun h => hfl1 (.inl h)).trans hl2
      have hk3 : w3.heap[w.heap.size]? = some (.deferred (some [])) := (st2.block _ (by omega) fun h => hfk1 (.inl h)).trans hk2
      have hsz3 : w.heap.size + 1 < w3.heap.size := (Array.getElem?_eq_some_iff.1 hl3).1
      have hfl4 := st3.foot hsz3 (st2.foot hsz2 hfl1)
      have hfk4 := st3.foot (b := w.heap.size) (by omega) (st2.foot (b := w.heap.size) (by omega) hfk1)
      have hend := run_endRound (P := P) none hl3
      rw [hrec] at hend
      refine ⟨_, _, hend, rfl, g4, ⟨?_, ?_, ?_, ?_, hfl4, hfk4⟩, ?_⟩
      · exact S1_tmps htp (r3.put _ hfl4) hr.defers hr.size hv
      · exact (stA.trans (st2.trans st3)).put _ (by omega)
      · rw [World.putObj_heap_same hsz3, hrec]; rfl
      · rw [World.putObj_heap_other (by omega)]; exact hk3
      · exact (rnA.step (st2.trans st3)).put _
    have hcaps1 : RepDs g1.ro W1 caps vs := RepDs.mono (fun b hb => ⟨hst0.ro b hb, by
      exact hlow b (hr.heap.ro b hb)⟩) caps vs hcaps
    have hcall := hit.2 m (w.heap.size + 1) W1 J g1 g1.ro vs hJ hR hJ0 hcaps1 (fun b hb => ⟨by have := hfoot0 b (.inr hb); omega, by have := hfoot0 b (.inr hb); omega, fun ⟨x, M, hx, hvx, hbx⟩ => by
      subst hbx; exact ((hS0.heap.live x M hx).2 hvx).2 hb⟩)
    have hargs : (Value.func (.yield (w.heap.size + 1)) #[] #[] :: vs).toArray = #[.func (.yield (w.heap.size + 1)) #[] #[]] ++ vs.toArray := by simp
    rw [hargs] at hcall
    refine (callsIn_wide.2 hcall).mono ?_
    rintro e W2 ⟨⟨v, rfl⟩, g', h1, h2, h3, h4, h5, h6⟩
    refine ⟨none, _, by have := run_endLoop (P := P) h3 (by rw [hrec]; simp); rw [hrec] at this; exact this, ?_⟩
    refine hdone g' _ w.heap.size L (h1.put _ h5) (h2.put _ (by omega)) (Nat.le_refl _) ?_ h6
    rw [World.putObj_heap_other (by omega)]; exact h4
end Go.Abs

set_option linter.unusedVariables false
set_option linter.unusedSimpArgs false
namespace Go.Abs
open Go.RowKit

/-- What a return gives. -/
theorem ret_done {P : Program} {ty : TypeId → Option TI} (hc : Ctx P ty) {fn : Func} {ro : Nat → Prop} {w w' : World} {s' : St} {g' : G} {a' : Act} {r : Res} (h1 : RelS s' g' a' w') (h2 : Step ⟨ro, fun _ => none, fun _ => False⟩ w g' w') :
    (∃ l, resAs ty s' fn.results.toList = some l ∧ resOk s' (oneOf l) r) → ∃ v, (results fn a'.tmps).run P w' = .ok v w' ∧ ∃ v', Ending.returned v = .returned v' ∧ Below w.heap.size w w' ∧ RepRes ro w.heap.size w' r v' := by
  rintro ⟨l, hl, hok⟩
  obtain ⟨v, hv, hrep⟩ := results_run hc h1 hl
  refine ⟨v, hv, v, rfl, ⟨h2.os, h2.tape, h2.output, h2.size, fun k hk => h2.block k hk (by rintro ⟨_, _, h, _⟩; cases h)⟩, ?_⟩
  have hro' : ∀ b, g'.ro b → ro b ∨ (w.heap.size ≤ b ∧ b < w'.heap.size) := fun b hb => by
    rcases h2.ro' b hb with hh | hh | ⟨_, _, hh, _⟩
    · exact .inl hh
    · exact .inr ⟨hh, h1.heap.ro b hb⟩
    · cases hh
  have hown' : ∀ b, g'.owns b → w.heap.size ≤ b ∧ b < w'.heap.size := fun b hb => by
    refine ⟨?_, ?_⟩
    · rcases h2.own b hb with hh | ⟨_, _, hh, _⟩
      · exact hh
      · cases hh
    · obtain ⟨x, L, hx, hvx, rfl⟩ := hb
      exact ((h1.heap.live x L hx).2 hvx).1
  cases r with
  | x c => exact (show False from hok).elim
  | skip => exact (show False from hok).elim
  | ub b => exact (show False from hok).elim
  | f d =>
    simp only [resOk] at hok
    split at hok
    · rename_i y hy
      obtain ⟨d', p⟩ := y
      obtain ⟨rfl, hp⟩ := hok
      simp only [RepRes]
      exact RepD.mono (fun b hb => ⟨hown' b hb, rfl⟩) d' v (snapF_sound h1.heap _ _ _ _ hy hp hrep)
    · exact hok.elim
  | p d =>
    obtain ⟨p, b, hs, hp⟩ := resOk_p hok
    obtain ⟨k1, _⟩ := snap_sound h1.heap _ _ _ _ _ hs hp hrep
    simp only [RepRes]
    exact RepD.mono (fun b hb => ⟨hb.elim (hro' b) fun ho => .inr (hown' b ho), rfl⟩) d v k1
  | o e m rows =>
    simp only [RepRes, OwnRes]
    rcases resOk_o hok with ⟨hx, rfl, hm⟩ | ⟨id, len, o, R, hx, hob, rfl, rfl, hR, rfl, hlen⟩
    · rw [hx] at hrep
      simp only [RepA] at hrep
      exact ⟨hm, .inl ⟨rfl, none, hrep⟩⟩
    · rw [hx] at hrep
      obtain ⟨L, hL, hok⟩ := h1.heap.own id o hob
      refine ⟨by rw [← hok.m]; exact hok.pos, ?_⟩
      simp only [RepA] at hrep
      rcases hrep.2 L hL with ⟨_, _, rfl, hv'⟩ | ⟨hvirt, hle, hv'⟩
      · exact .inl ⟨by simp, hv'⟩
      · obtain ⟨cur, c1, c2, c3, c5⟩ := hok.cells hvirt
        have hlenR : (R.take len).length = len := by simp; omega
        refine .inr ⟨L.blk, L.cap, cur, (hown' _ ⟨id, L, hL, hvirt.1, rfl⟩).1, by rw [hv', hlenR]; simp, c1, by rw [hlenR]; omega, c3, by rw [c2, hok.m], fun i row hi => ?_⟩
        rw [List.getElem?_take] at hi
        split at hi
        · obtain ⟨arow, harow, had⟩ := rowsD_get hR i row hi
          obtain ⟨d1, d2⟩ := c5 i arow harow
          obtain ⟨us, hul, hur, huc⟩ := hok.row hvirt harow
          have hds := RepAs.allD had hur
          refine ⟨by rw [← hds.length, hul, hok.m], fun j d hj => ?_⟩
          obtain ⟨u, hu, hru⟩ := hds.get j d hj
          obtain ⟨hcell, hone⟩ := huc j u hu
          have hcu : cur[i * o.m + j]? = some u := by
            rw [← hok.m]
            simp only [World.cell?, c1] at hcell
            simpa using hcell
          refine ⟨u, hcu, hone, RepD.mono (fun b hb => ⟨?_, rfl⟩) d u hru⟩
          rcases hro' b hb with hh | hh
          · exact .inl hh
          · exact .inr ⟨hh.1, hh.2, fun e' => ((h1.heap.live id L hL).2 hvirt.1).2 (e' ▸ hb)⟩
        · cases hi

/-- Operations do not look at the activation's deferred calls. -/
def _root_.Go.Act.bare (a : Act) : Act := { a with defers := [] }
theorem op_defers {F : Fence} {n : Nat} (hF : Free F n) {P : Program} {o : Oper} {a : Act} {ds : List Deferred} {w : World} {K K' : Act → World → Prop} {Q' : Exit → Act → World → Prop} (hd : ∀ c, o.op ≠ .defer c)
    (hK : ∀ a w, K a w → a.defers = [] ∧ K' { a with defers := ds } w) (h : o.wp P a w K (fun _ _ _ => False)) : o.wpIn F n P { a with defers := ds } w K' Q' := by
  refine ⟨fun _ _ => hF.fn _, ?_⟩
  have hs : o.semAt F.round (Act.eval { a with defers := ds }) = execOp a.eval o := by
    have he : Act.eval { a with defers := ds } = a.eval := by funext x; cases x <;> rfl
    rw [he]; exact Oper.semAt_eq _ _ _ hd
  rw [hs]
  have hput : ∀ v, Act.put { a with defers := ds } o.dst v = { a.put o.dst v with defers := ds } := fun v => by cases o.dst <;> rfl
  unfold Oper.wp at h
  generalize (execOp a.eval o).run P w = r at *
  cases r with
  | ok x w' =>
    cases x <;> simp only [Oper.upon, Oper.uponIn] at h ⊢
    case value v => rw [hput]; exact (hK _ _ h).2
    case skip => rw [hput]; exact (hK _ _ h).2
    case defer d =>
      have h2 := (hK _ _ h).1
      cases ho : o.dst <;> simp [Act.put, ho] at h2
    case enter f args =>
      refine ⟨fun hh => absurd hh (by rw [hF.depth]; exact Bool.false_ne_true), (hF.calls h).mono fun e w'' he => ?_⟩
      cases e with
      | returned v => simp only at he ⊢; rw [hput]; exact (hK _ _ he).2
      | panicked ch => exact he.elim
      | outgrown => obtain ⟨_, _, hh⟩ := he; exact hh.elim
    case row row args =>
      refine ⟨fun hh => absurd hh (by rw [hF.depth]; exact Bool.false_ne_true), (hF.rows h).mono fun v w'' he => ?_⟩
      rw [hput]; exact (hK _ _ he).2
  | halt x w' => cases x <;> simp only [Oper.upon, Oper.uponIn] at h ⊢ <;> exact h.elim

theorem wpT_soundM {F : Fence} {n : Nat} (hF : Free F n) {ds : List Deferred} {P : Program} {ty : TypeId → Option TI} (hc : Ctx P ty) {orc : List (Nat × Res)} {gs : List (Option Tmp)} {ops : Array Oper} (hgs : ∀ j : Nat, gs[j]? = (ops[j]?).map fun o : Oper => o.dst) {base nxt : Nat} {Q : Exit → Act → World → Prop} {K : St → Prop} {g0 : G} {w0 : World}
    {l2 : List Oper} {en n0 : Nat} (hQ : ∀ s g a w, s.nxt = nxt → s.n = n0 → Rel (· < base + en) g s.get s.obj s.n a w → Step g0 w0 g w → K s → wpListIn F n P ops Q l2 { a with defers := ds } w) :
    ∀ (l : List Oper) (i : Nat) (s : St) (g : G) (a : Act) (w : World), noDefer l = true → i + l.length = en → s.nxt = nxt → s.n = n0 → Rel (· < base + i) g s.get s.obj s.n a w → Step g0 w0 g w → wpT ty P orc gs base i l s K → wpListIn F n P ops Q (l ++ l2) { a with defers := ds } w
  | [], i, s, g, a, w, _, hle, hnx, hn0, h, hs, hk => hQ s g a w hnx hn0 (by simp at hle; rw [← hle]; exact h) hs hk
  | o :: rest, i, s, g, a, w, hdf, hle, hnx, hn0, h, hs, hk => by
    simp only [List.length_cons] at hle
    have hputd : ∀ v, Act.put { a with defers := ds } o.dst v = { a.put o.dst v with defers := ds } := fun v => by cases o.dst <;> rfl
    have hdo := noDefer_mem hdf (o := o) (by simp)
    have hdr : noDefer rest = true := by simp only [noDefer, List.all_cons, Bool.and_eq_true] at hdf; exact hdf.2
    have hargs : RepAs g w (o.op.operands.toList.map s.eval) (o.op.operands.toList.map a.eval) := by
      refine RepAs.of_get (by simp) fun j av hj => ?_
      rw [List.getElem?_map] at hj ⊢
      cases hx : o.op.operands.toList[j]? with
      | none => rw [hx] at hj; cases hj
      | some x => rw [hx] at hj; cases hj; exact ⟨a.eval x, rfl, eval_rep h (fun _ => rfl) x⟩
    have relapp : ∀ (e : Eff) (g' : G) (a' : Act) (w' : World), Rel (fun k => k < base + i ∨ k = base + i) g' (putG s.get o.dst e.val) (updL s.obj e.wr) s.n a' w' → Rel (· < base + (i + 1)) g' (s.app o.dst e).get (s.app o.dst e).obj (s.app o.dst e).n a' w' := by
      intro e g' a' w' hr
      have hn : (s.app o.dst e).n = s.n := by unfold St.app St.put; cases o.dst <;> rfl
      rw [hn]
      exact ⟨hr.defers, hr.size, fun t => by rw [app_get]; exact hr.tmp t, fun id hu => by
        have := hr.used id hu
        show id < base + (i + 1)
        rcases this with hh | hh <;> omega, by
        have : (s.app o.dst e).obj = updL s.obj e.wr := funext (app_obj s o.dst e)
        rw [this]; exact hr.heap⟩
    have hnapp : ∀ e, (s.app o.dst e).nxt = nxt := fun e => by rw [← hnx]; unfold St.app St.put; cases o.dst <;> rfl
    have hna : ∀ e, (s.app o.dst e).n = s.n := fun e => by unfold St.app St.put; cases o.dst <;> rfl
    have hnput : ∀ v, (s.put o.dst v).nxt = nxt := fun v => by rw [← hnx]; unfold St.put; cases o.dst <;> rfl
    have hnn : ∀ v, (s.put o.dst v).n = s.n := fun v => by unfold St.put; cases o.dst <;> rfl
    have relput : ∀ (v : AV) (g' : G) (a' : Act) (w' : World) (U : Nat → Prop), (∀ k, U k → k < base + (i + 1)) → Rel U g' (putG s.get o.dst v) s.obj s.n a' w' → Rel (· < base + (i + 1)) g' (s.put o.dst v).get (s.put o.dst v).obj (s.put o.dst v).n a' w' := by
      intro v g' a' w' U hU hr
      rw [hnn]
      have := hr.congr (get' := (s.put o.dst v).get) (obj' := (s.put o.dst v).obj) (fun t => St.get_put s o.dst v t) (fun id => put_obj s o.dst v id)
      exact ⟨this.defers, this.size, this.tmp, fun k hk => hU k (this.used k hk), this.heap⟩
    have skipped : ∀ v, (∀ d, o.dst = some d → d < s.n) → RepA g w v undef → wpT ty P orc gs base (i + 1) rest (s.put o.dst v) K → wpListIn F n P ops Q (rest ++ l2) { a.put o.dst undef with defers := ds } w := by
      intro v hd hv hrest
      have hr := rel_put (U' := (· < base + i)) (dst := o.dst) (v := v) (u := undef) h h.heap ⟨fun b hb => ⟨hb, rfl⟩, fun _ hx => hx, fun _ _ => .inl rfl⟩ (fun k hk => h.used k hk) hv hd
      exact wpT_soundM hF (nxt := nxt) hc hgs hQ rest (i + 1) _ g _ w hdr (by omega) (hnput v) ((hnn v).trans hn0) (relput v g _ w _ (fun k hk => by omega) hr) hs hrest
    simp only [List.cons_append, wpListIn]
    unfold wpT at hk
    split at hk
    · rename_i hg
      have hw : Region.wanted o (yielded ops a.tmps) = true := by simp [Region.wanted, hg]
      rw [if_pos hw]
      unfold doOp at hk
      split at hk
      · rename_i e he
        obtain ⟨hob, hd, hrest⟩ := hk
        exact op_defers hF hdo (fun _ _ hk => hk) <| op_step hc (K := fun a' w' => a'.defers = [] ∧ wpListIn F n P ops Q (rest ++ l2) { a' with defers := ds } w') (Q := fun _ _ _ => False) (nid := base + i) h (by simp) hargs he hob (fun d hd' => by rw [hd'] at hd; exact hd) fun g' a' w' hr hst =>
          ⟨hr.defers, wpT_soundM hF (nxt := nxt) hc hgs hQ rest (i + 1) (s.app o.dst e) g' a' w' hdr (by omega) (hnapp e) ((hna e).trans hn0) (relapp e g' a' w' hr) (hs.trans hst) hrest⟩
      · exact hk.elim
    · rename_i j want hg
      split at hk
      · rename_i x hgv
        have hw := guard_wanted (a := a) hgs h.tmp hg hgv
        rw [hw]
        obtain ⟨hd, hk⟩ := hk
        have hd' : ∀ d, o.dst = some d → d < s.n := fun d hd' => by rw [hd'] at hd; exact hd
        split at hk
        · rename_i e he
          split at hk
          · rename_i hwr
            obtain ⟨hexec, hrest⟩ := hk
            cases x with
            | true =>
              rw [if_pos rfl]
              obtain ⟨hso, hob⟩ := hexec rfl
              refine op_defers hF hdo (fun _ _ hk => hk) <| op_step hc (K := fun a' w' => a'.defers = [] ∧ wpListIn F n P ops Q (rest ++ l2) { a' with defers := ds } w') (Q := fun _ _ _ => False) (nid := base + i) h (by simp) (strips_repG hargs hso) he hob hd' fun g' a' w' hr hst => ?_
              refine ⟨hr.defers, ?_⟩
              rw [hwr] at hr
              exact wpT_soundM hF (nxt := nxt) hc hgs hQ rest (i + 1) _ g' a' w' hdr (by omega) (hnput _) ((hnn _).trans hn0) (relput _ g' a' w' _ (fun k hk => by rcases hk with hh | hh <;> omega) hr.opt) (hs.trans hst) hrest
            | false =>
              rw [if_neg (by simp)]
              exact ⟨fun _ _ => hF.fn _, by rw [hputd]; exact skipped _ hd' (by simp [RepA]) hrest⟩
          · obtain ⟨rfl, hso, hob, hrest⟩ := hk
            rw [if_pos rfl]
            exact op_defers hF hdo (fun _ _ hk => hk) <| op_step hc (K := fun a' w' => a'.defers = [] ∧ wpListIn F n P ops Q (rest ++ l2) { a' with defers := ds } w') (Q := fun _ _ _ => False) (nid := base + i) h (by simp) (strips_repG hargs hso) he hob hd' fun g' a' w' hr hst =>
              ⟨hr.defers, wpT_soundM hF (nxt := nxt) hc hgs hQ rest (i + 1) (s.app o.dst e) g' a' w' hdr (by omega) (hnapp e) ((hna e).trans hn0) (relapp e g' a' w' hr) (hs.trans hst) hrest⟩
        · obtain ⟨rfl, hrest⟩ := hk
          rw [if_neg (by simp)]
          exact ⟨fun _ _ => hF.fn _, by rw [hputd]; exact skipped _ hd' (by simp [RepA]) hrest⟩
      · exact hk.elim




/-- The activation's marks: none, or that of the one loop that is behind us. -/
def Mk (w0 : World) (b : Bool) (a : Act) (g : G) (w : World) : Prop :=
  (b = false ∧ a.defers = []) ∨ (b = true ∧ ∃ D, a.defers = [{ target := .collected D, args := #[] }] ∧ w0.heap.size ≤ D ∧ D < w.heap.size ∧ w.heap[D]? = some (.deferred (some [])) ∧ ¬ g.foot D)
theorem Mk.step {w0 : World} {b : Bool} {a a' : Act} {g g' : G} {w w' : World} (h : Mk w0 b a g w) (st : Step g w g' w') (hd : a'.defers = a.defers) : Mk w0 b a' g' w' := by
  rcases h with ⟨h1, h2⟩ | ⟨h1, D, h2, h3, h4, h5, h6⟩
  · exact .inl ⟨h1, hd.trans h2⟩
  · exact .inr ⟨h1, D, hd.trans h2, h3, Nat.lt_of_lt_of_le h4 st.size, (st.block D h4 fun h => h6 (.inl h)).trans h5, st.foot h4 h6⟩

/-- Code of a function that holds a range over a function. -/
def AWm (P : Program) (g0 : G) (w0 : World) (c : Code) (Q : Exit → Bool × St → Prop) (s : Bool × St) : Prop :=
  ∀ g a w, RelS s.2 g a.bare w → Step g0 w0 g w → Mk w0 s.1 a g w → c.wpIn Fence.wide 2 P (fun e a' w' => ∃ s' g', RelS s'.2 g' a'.bare w' ∧ Step g0 w0 g' w' ∧ Mk w0 s'.1 a' g' w' ∧ Q e s') a w

section
variable {P : Program} {g0 : G} {w0 : World} {K : Bool × St → Prop} {Q : Exit → Bool × St → Prop} {s : Bool × St} {id i : Nat}
def seqM (K : Bool × St → Prop) (Q : Exit → Bool × St → Prop) : Exit → Bool × St → Prop
  | .normal, s => K s
  | e, s => Q e s
def blockM (id : Nat) (Q : Exit → Bool × St → Prop) : Exit → Bool × St → Prop
  | .exit id', s => if id' = id then Q .normal s else Q (.exit id') s
  | e, s => Q e s
theorem awm_seq {x y : Code} (h : AWm P g0 w0 x (seqM (fun s' => AWm P g0 w0 y Q s') Q) s) : AWm P g0 w0 (.seq x y) Q s := by
  intro g a w hr hs hm
  refine wpIn_seq (wpIn_mono (h g a w hr hs hm) fun e a' w' ⟨s', g', h1, h2, h3, h4⟩ => ?_)
  cases e with
  | normal => exact h4 g' a' w' h1 h2 h3
  | _ => exact ⟨s', g', h1, h2, h3, h4⟩
theorem awm_cond {c : Operand} {x y : Code} {b : Bool} (hc : s.2.eval c = .d (.bool b)) (ht : b = true → AWm P g0 w0 x Q s) (hf : b = false → AWm P g0 w0 y Q s) : AWm P g0 w0 (.cond c x y) Q s := by
  intro g a w hr hs hm
  have h1 := eval_rep hr (s := s.2) (fun _ => rfl) c
  rw [hc] at h1
  simp only [RepA, RepD] at h1
  have h2 : a.eval c = .bool b := by rw [← h1]; cases c <;> rfl
  exact wpIn_cond_split h2 (fun hb => ht hb g a w hr hs hm) (fun hb => hf hb g a w hr hs hm)
theorem awm_block {c : Code} (h : AWm P g0 w0 c (blockM id Q) s) : AWm P g0 w0 (.block id c) Q s := by
  intro g a w hr hs hm
  refine wpIn_block (wpIn_mono (h g a w hr hs hm) fun e a' w' ⟨s', g', h1, h2, h3, h4⟩ => ?_)
  cases e with
  | exit id' =>
    simp only [blockM] at h4
    simp only [Exit.inBlock]
    split at h4
    · rename_i he; rw [if_pos he]; exact ⟨s', g', h1, h2, h3, h4⟩
    · rename_i he; rw [if_neg he]; exact ⟨s', g', h1, h2, h3, h4⟩
  | _ => exact ⟨s', g', h1, h2, h3, h4⟩
theorem awm_skip (h : Q .normal s) : AWm P g0 w0 .skip Q s := fun g a w hr hs hm => wpIn_skip ⟨s, g, hr, hs, hm, h⟩
theorem awm_exit (h : Q (.exit id) s) : AWm P g0 w0 (.exit id) Q s := fun g a w hr hs hm => wpIn_exit ⟨s, g, hr, hs, hm, h⟩
theorem awm_ret (h : Q .ret s) : AWm P g0 w0 .ret Q s := fun g a w hr hs hm => wpIn_ret ⟨s, g, hr, hs, hm, h⟩
theorem sm_n (h : K s) : seqM K Q .normal s := h
theorem sm_r (h : Q .ret s) : seqM K Q .ret s := h
theorem sm_x (h : Q (.exit i) s) : seqM K Q (.exit i) s := h
theorem bm_n (h : Q .normal s) : blockM id Q .normal s := h
theorem bm_r (h : Q .ret s) : blockM id Q .ret s := h
theorem bm_x (h : Q .normal s) : blockM id Q (.exit id) s := by simp only [blockM, if_true]; exact h
theorem bm_y (hn : Nat.beq i id = false) (h : Q (.exit i) s) : blockM id Q (.exit i) s := by
  simp only [blockM]
  rw [if_neg (Nat.ne_of_beq_eq_false hn)]; exact h

theorem bare_eq {a : Act} (h : a.defers = []) : a.bare = a := by cases a; simp at h; subst h; rfl

theorem awm_region {ty : TypeId → Option TI} (hc : Ctx P ty) (orc : List (Nat × Res)) {l : List Oper} (hd : noDefer l = true)
    (h : ∀ K : St → Prop, (∀ s', Q .normal (s.1, s') → K s') → wpT ty P orc (l.map (·.dst)) s.2.nxt 0 l { s.2 with nxt := s.2.nxt + l.length } K) : AWm P g0 w0 (.region id l.toArray false) Q s := by
  intro g a w hr hs hm
  refine wpIn_region_lit ?_
  have ha : a = { a.bare with defers := a.defers } := rfl
  have key := wpT_soundM (free_wide 2) (ds := a.defers) (P := P) hc (orc := orc) (gs := l.map (·.dst)) (ops := l.toArray) (by intro j; simp) (base := s.2.nxt) (nxt := s.2.nxt + l.length)
    (Q := fun e a' w' => ∃ s' g', RelS s'.2 g' a'.bare w' ∧ Step g0 w0 g' w' ∧ Mk w0 s'.1 a' g' w' ∧ Q e s') (K := fun s' => Q .normal (s.1, s')) (g0 := g) (w0 := w) (l2 := []) (en := l.length) (n0 := s.2.n)
    (fun s' g' a' w' hnx hn hrel hst hk => ⟨(s.1, s'), g', by
      have hb : Go.Act.bare { a' with defers := a.defers } = a' := bare_eq (a := a') hrel.defers
      rw [hb]
      exact ⟨hrel.defers, hrel.size, hrel.tmp, fun id hu => by have := hrel.used id hu; show id < s'.nxt; omega, hrel.heap⟩, hs.trans hst, hm.step hst rfl, hk⟩)
    l 0 { s.2 with nxt := s.2.nxt + l.length } g a.bare w hd (by simp) rfl rfl ⟨hr.defers, hr.size, hr.tmp, fun id hu => by have := hr.used id hu; simpa using this, hr.heap⟩ (Step.refl g w) (h _ fun _ hq => hq)
  rw [List.append_nil] at key
  rw [ha]
  exact key

/-- THE LOOP. -/
theorem awm_range (hsb : s.1 = false) {go : Operand} {f : FuncId} {caps xs : List D} (hgv : s.2.eval go = .d (.fn (.func f) caps)) (hit : IterOk P f caps xs)
    {t pn idS idn pt nx : Nat} (htp : t ≠ pn) (hpn : s.2.n ≤ pn) (hgt : s.2.get t = .ptr idS 0 0) (hptn : pt < s.2.n) {o : Ob} (hob : s.2.obj idS = some o) (hus : idS < s.2.nxt) (I : Nat → List (Nat × Option Ob))
    (hstart : ∀ L, Weak { s.2 with tm := (pn, .pin idS L) :: s.2.tm } (S1 s.2.n t pn idn L (I 0) nx)) {assign body : Code}
    (hbody : ∀ L k x, xs[k]? = some x → AWr 0 P assign (fun e s1 => e = .normal ∧ AWr 0 P body (fun e s2 => e = .normal ∧ Weak s2 (S1 s.2.n t pn idn L (I (k + 1)) nx)) s1) { S1 s.2.n t pn idn L (I k) nx with tm := (pt, .d x) :: (S1 s.2.n t pn idn L (I k) nx).tm })
    (hq : ∀ L, Q .normal (true, S1 s.2.n t pn idn L (I xs.length) nx)) : AWm P g0 w0 (.rangeFunc go #[pt] assign body) Q s := by
  intro g a w hr hs hm
  have ha : a.defers = [] := by
    rcases hm with h | h
    · exact h.2
    · rw [hsb] at h; exact absurd h.1 Bool.false_ne_true
  rw [bare_eq ha] at hr
  refine range_sound (m := 0) hr hgv hit htp hpn hgt hptn hob hus I hstart hbody fun g' W D L h1 h2 h3 h4 h5 => ⟨(true, S1 s.2.n t pn idn L (I xs.length) nx), g', ?_, hs.trans h2, .inr ⟨rfl, D, by simp [ha], Nat.le_trans hs.size h3, (Array.getElem?_eq_some_iff.1 h4).1, h4, h5⟩, hq L⟩
  have hb : Go.Act.bare { a with defers := { target := .collected D, args := #[] } :: a.defers } = a := bare_eq ha
  rw [hb]; exact h1
end

/-- A CONTRACT OUT OF THE CODE, where it holds a range over a function. -/
theorem pc_of_awm {P : Program} {ty : TypeId → Option TI} (hc : Ctx P ty) {f : FuncId} {fn : Func} {c : Code} {ds : List D} {r : Res} (hf : P.funcs[f]? = some fn) (hb : fn.body = some c) (hname : (fn.name == "runtime.NumGoroutine") = false) (hn : ds.length ≤ fn.ntmps)
    (h : ∀ g0 w0, AWm P g0 w0 c (fun e s => retQ ty fn.results.toList r e s.2) (false, start fn.ntmps ds)) : PC P f ds r := by
  refine ⟨⟨fn, hf, hname, by rw [hb]; rfl⟩, fun ro w vs hro hd => ?_⟩
  refine callsIn_wide.1 (callsIn_of_wp_marks (n := 2) hf hb trivial (wpIn_mono (h ⟨ro, fun _ => none, fun _ => False⟩ w _ _ w (start_rel hro hd hn) (Step.refl _ w) (.inl ⟨rfl, rfl⟩)) fun e a' w' ⟨s', g', h1, h2, h3, h4⟩ => ?_))
  have fin : (∃ l, resAs ty s'.2 fn.results.toList = some l ∧ resOk s'.2 (oneOf l) r) → LeavesInM Fence.wide 2 P fn a'.tmps (fun e w' => ∃ v, e = .returned v ∧ Below w.heap.size w w' ∧ RepRes ro w.heap.size w' r v) a'.defers .returning w' := by
    intro hl
    rcases h3 with ⟨_, h3⟩ | ⟨_, D, h3, k1, k2, k3, k4⟩
    · rw [h3]
      obtain ⟨v, hv, v', he, hb, hrep⟩ := ret_done hc h1 h2 hl
      cases he
      exact ⟨v, hv, v, rfl, hb, hrep⟩
    · rw [h3]
      refine ⟨by simp, .inl ⟨D, _, rfl, run_takeDeferred k3, ?_⟩⟩
      obtain ⟨v, hv, v', he, hb, hrep⟩ := ret_done hc (Rel.put h1 (.deferred none) k4) (h2.put (.deferred none) k1) hl
      cases he
      exact ⟨v, hv, v, rfl, hb, hrep⟩
  cases e with
  | normal => exact fin (retQ_spec h4)
  | ret => exact fin (retQ_spec h4)
  | _ => exact h4.elim
end Go.Abs

set_option linter.unusedVariables false
set_option linter.unusedSimpArgs false
set_option maxRecDepth 100000
namespace Go.Proofs.Ytagakfaiimaifaa
open Go.Abs

def cellI (R : List Row) (k : Nat) : List (Nat × Option Ob) := [(1, some ⟨47, 1, [[.hs 2 0 ((regCells R).take k).length]]⟩), (2, some ⟨33, 2, dr (((regCells R).take k).map Cell.row)⟩)]

set_option maxHeartbeats 4000000 in
theorem cells_own (R : List Row) (hsm : smallR R) (hn : validR R = true → (regCells R).length ≤ 1000000) : PC Try.prog 31 [.agg (regRow R)] (.o 33 2 ((cellsOf R).map Cell.row)) := by
  have c1 := valid_ok R hsm
  have hC : cellsOf R = if validR R then regCells R else [] := rfl
  cases hv : validR R with
  | false =>
    rw [hv] at c1 hC
    rw [if_neg (by simp)] at hC
    rw [hC]
    refine pc_of_awm cx (fn := Try.f31) (c := _) Try.func31 rfl rfl (Nat.le_of_ble_eq_true rfl) fun gM wM => ?_
    rw [Try.ntmps31]; (repeat (first | refine awm_seq ?_ | refine awm_block ?_ | refine awm_skip ?_ | refine awm_exit ?_ | refine awm_ret ?_ | refine sm_n ?_ | refine sm_r ?_ | refine sm_x ?_ | refine bm_n ?_ | refine bm_r ?_ | refine bm_x ?_ | refine bm_y rfl ?_))
    refine awm_region cx [] rfl fun K hK => ?_
    simp [push_cast]
    repeat (refine And.intro (by clear hK; intros; first | omega | (simp_all; done) | (simp_all <;> omega)) ?_)
    refine hK _ ?_; clear hK K; (try dsimp only); (repeat (first | refine awm_seq ?_ | refine awm_block ?_ | refine awm_skip ?_ | refine awm_exit ?_ | refine awm_ret ?_ | refine sm_n ?_ | refine sm_r ?_ | refine sm_x ?_ | refine bm_n ?_ | refine bm_r ?_ | refine bm_x ?_ | refine bm_y rfl ?_))
    refine awm_region cx [(1, .p (.bool false))] rfl fun K hK => ?_
    simp [push_cast, c1]
    repeat (refine And.intro (by clear hK; intros; first | omega | (simp_all; done) | (simp_all <;> omega)) ?_)
    refine hK _ ?_; clear hK K; (try dsimp only); (repeat (first | refine awm_seq ?_ | refine awm_block ?_ | refine awm_skip ?_ | refine awm_exit ?_ | refine awm_ret ?_ | refine sm_n ?_ | refine sm_r ?_ | refine sm_x ?_ | refine bm_n ?_ | refine bm_r ?_ | refine bm_x ?_ | refine bm_y rfl ?_))
    refine awm_cond (b := true) (by simp [push_cast]) (fun hb => ?_) (fun hb => ?_) <;> ((repeat (first | refine awm_seq ?_ | refine awm_block ?_ | refine awm_skip ?_ | refine awm_exit ?_ | refine awm_ret ?_ | refine sm_n ?_ | refine sm_r ?_ | refine sm_x ?_ | refine bm_n ?_ | refine bm_r ?_ | refine bm_x ?_ | refine bm_y rfl ?_)))
    · refine awm_region cx [] rfl fun K hK => ?_
      simp [push_cast]
      repeat (refine And.intro (by clear hK; intros; first | omega | (simp_all; done) | (simp_all <;> omega)) ?_)
      refine hK _ ?_; clear hK K; (try dsimp only); (repeat (first | refine awm_seq ?_ | refine awm_block ?_ | refine awm_skip ?_ | refine awm_exit ?_ | refine awm_ret ?_ | refine sm_n ?_ | refine sm_r ?_ | refine sm_x ?_ | refine bm_n ?_ | refine bm_r ?_ | refine bm_x ?_ | refine bm_y rfl ?_))
      simp [push_cast]
    · simp at hb
  | true =>
    have hit := iter_ok R hsm hv
    have hn := hn hv
    have c2 := all_ok R
    rw [hv] at c1 hC
    rw [if_pos rfl] at hC
    rw [hC]
    clear hC
    refine pc_of_awm cx (fn := Try.f31) (c := _) Try.func31 rfl rfl (Nat.le_of_ble_eq_true rfl) fun gM wM => ?_
    rw [Try.ntmps31]; (repeat (first | refine awm_seq ?_ | refine awm_block ?_ | refine awm_skip ?_ | refine awm_exit ?_ | refine awm_ret ?_ | refine sm_n ?_ | refine sm_r ?_ | refine sm_x ?_ | refine bm_n ?_ | refine bm_r ?_ | refine bm_x ?_ | refine bm_y rfl ?_))
    refine awm_region cx [] rfl fun K hK => ?_
    simp [push_cast]
    repeat (refine And.intro (by clear hK; intros; first | omega | (simp_all; done) | (simp_all <;> omega)) ?_)
    refine hK _ ?_; clear hK K; (try dsimp only); (repeat (first | refine awm_seq ?_ | refine awm_block ?_ | refine awm_skip ?_ | refine awm_exit ?_ | refine awm_ret ?_ | refine sm_n ?_ | refine sm_r ?_ | refine sm_x ?_ | refine bm_n ?_ | refine bm_r ?_ | refine bm_x ?_ | refine bm_y rfl ?_))
    refine awm_region cx [(1, .p (.bool true))] rfl fun K hK => ?_
    simp [push_cast, c1]
    repeat (refine And.intro (by clear hK; intros; first | omega | (simp_all; done) | (simp_all <;> omega)) ?_)
    refine hK _ ?_; clear hK K; (try dsimp only); (repeat (first | refine awm_seq ?_ | refine awm_block ?_ | refine awm_skip ?_ | refine awm_exit ?_ | refine awm_ret ?_ | refine sm_n ?_ | refine sm_r ?_ | refine sm_x ?_ | refine bm_n ?_ | refine bm_r ?_ | refine bm_x ?_ | refine bm_y rfl ?_))
    refine awm_cond (b := false) (by simp [push_cast]) (fun hb => ?_) (fun hb => ?_) <;> ((repeat (first | refine awm_seq ?_ | refine awm_block ?_ | refine awm_skip ?_ | refine awm_exit ?_ | refine awm_ret ?_ | refine sm_n ?_ | refine sm_r ?_ | refine sm_x ?_ | refine bm_n ?_ | refine bm_r ?_ | refine bm_x ?_ | refine bm_y rfl ?_)))
    · simp at hb
    · refine awm_region cx [] rfl fun K hK => ?_
      simp [push_cast]
      repeat (refine And.intro (by clear hK; intros; first | omega | (simp_all; done) | (simp_all <;> omega)) ?_)
      refine hK _ ?_; clear hK K; (try dsimp only); (repeat (first | refine awm_seq ?_ | refine awm_block ?_ | refine awm_skip ?_ | refine awm_exit ?_ | refine awm_ret ?_ | refine sm_n ?_ | refine sm_r ?_ | refine sm_x ?_ | refine bm_n ?_ | refine bm_r ?_ | refine bm_x ?_ | refine bm_y rfl ?_))
      refine awm_region cx [(1, .p (.fn (.func 82) [.rp (regRow R)]))] rfl fun K hK => ?_
      simp [push_cast, c2]
      repeat (refine And.intro (by clear hK; intros; first | omega | (simp_all; done) | (simp_all <;> omega)) ?_)
      refine hK _ ?_; clear hK K; (try dsimp only); (repeat (first | refine awm_seq ?_ | refine awm_block ?_ | refine awm_skip ?_ | refine awm_exit ?_ | refine awm_ret ?_ | refine sm_n ?_ | refine sm_r ?_ | refine sm_x ?_ | refine bm_n ?_ | refine bm_r ?_ | refine bm_x ?_ | refine bm_y rfl ?_))
      refine awm_range (caps := [.rp (regRow R)]) (xs := itemsOf R) rfl rfl hit (t := 3) (pn := 16) (idS := 5) (idn := 1) (nx := 3) (by decide) (Nat.le_of_ble_eq_true rfl) rfl (Nat.le_of_ble_eq_true rfl) rfl (Nat.le_of_ble_eq_true rfl) (cellI R) (fun L => ?_) (fun L k x hx => ?_) fun L => ?_
      · show Weak _ ⟨16, [(3, .ptr 1 0 0), (16, .pin 1 L)], cellI R 0, 3⟩
        unfold cellI
        refine weak_of [(1, some 5), (2, none)] rfl (by simp [upT, up, upL, push_cast]) (by simp [upH, upR, upL, up, push_cast]) (by simp [namesOk, push_cast]) (by simp [olds])
      · unfold itemsOf at hx
        rw [List.getElem?_map] at hx
        cases hc : (regCells R)[k]? with
        | none => rw [hc] at hx; cases hx
        | some c =>
          rw [hc] at hx
          cases hx
          have hk := (List.getElem?_eq_some_iff.1 hc).1
          have htk : (regCells R).take (k + 1) = (regCells R).take k ++ [c] := take_get hc
          have hkl : ((regCells R).take k).length = k := by rw [List.length_take]; omega
          unfold S1 cellI
          rw [htk]
          generalize (regCells R).take k = Z at *
          have hZ16 : (Z.length + 1) * 16 ≤ 140737488355328 := by omega
          obtain ⟨x, y⟩ := c
          refine awr_region cx [] (fun s' h => by cases h.1) rfl fun K hK => ?_
          simp [push_cast]
          refine hK _ ⟨rfl, ?_⟩
          clear hK K
          refine awr_block (Q := fun s2 => Weak s2 _) ?_
          refine awr_region cx [] (fun s' h => by cases h.1) rfl fun K hK => ?_
          simp [push_cast, hZ16]
          refine hK _ ⟨rfl, ?_⟩
          clear hK K
          dsimp only
          refine weak_of [(1, some 1), (2, some 8)] rfl (by simp [upT, up, upL, push_cast, Cell.row]) (by simp [upH, upR, upL, up, push_cast, Cell.row]) (by simp [namesOk, push_cast]) (by simp [olds])
      · unfold S1 cellI
        have hl : (itemsOf R).length = (regCells R).length := by simp [itemsOf]
        rw [hl, List.take_length]
        (repeat (first | refine awm_seq ?_ | refine awm_block ?_ | refine awm_skip ?_ | refine awm_exit ?_ | refine awm_ret ?_ | refine sm_n ?_ | refine sm_r ?_ | refine sm_x ?_ | refine bm_n ?_ | refine bm_r ?_ | refine bm_x ?_ | refine bm_y rfl ?_))
        refine awm_region cx [] rfl fun K hK => ?_
        simp [push_cast]
        repeat (refine And.intro (by clear hK; intros; first | omega | (simp_all; done) | (simp_all <;> omega)) ?_)
        refine hK _ ?_; clear hK K; (try dsimp only); (repeat (first | refine awm_seq ?_ | refine awm_block ?_ | refine awm_skip ?_ | refine awm_exit ?_ | refine awm_ret ?_ | refine sm_n ?_ | refine sm_r ?_ | refine sm_x ?_ | refine bm_n ?_ | refine bm_r ?_ | refine bm_x ?_ | refine bm_y rfl ?_))
        have ht : List.take (regCells R).length ((regCells R).map Cell.row) = (regCells R).map Cell.row := List.take_of_length_le (by simp)
        simp [push_cast, ht]
theorem cells_ok (R : List Row) (hsm : smallR R) (hn : validR R = true → (regCells R).length ≤ 1000000) : PC Try.prog 31 [.agg (regRow R)] (.p (encCells (cellsOf R))) := (cells_own R hsm hn).data
end Go.Proofs.Ytagakfaiimaifaa
