/-
  Texts of this seat put together: AbsY, AbsD, AbsG, AbsJ, BW4, R2, R3, R4.
-/
import Derived.Test.YtdddknniooimmaaGreatI3
import Derived.Test.YtdddknniooimmaaGreatI4
set_option linter.unusedVariables false
set_option linter.unusedSectionVars false
set_option linter.unusedSimpArgs false
namespace Go.Abs
variable [Flag]

def effY (P : Program) (f : FuncId) (c : XC) (ti : List (Nat × Nat)) (obj : Nat → Option Ob) (args : List AV) : Eff :=
  { val := dn (swp ti) c.r, wr := gone c.σ ++ back (swp ti) c.hp' ti,
    ob := (rnsOk c.σ c.as args ∧ hpOk obj c.σ c.hp ∧ nodupB (c.σ.map (·.2)) = true ∧ c.σ.map (·.1) = c.hp.map (·.1) ∧ nodupB (ti.map (·.1)) = true ∧ nodupB (ti.map (·.2)) = true) ∧ PX P f c.as c.hp c.pin c.hp' c.r }

def AfterN (g : G) (obj : Nat → Option Ob) (w : World) (N : Nat → Prop) (e : Eff) (v : Value) (w' : World) : Prop :=
  ∃ g', HRel g' (updL obj e.wr) w' ∧ Step g w g' w' ∧ Later g w g' w' ∧ (∀ k, g'.used k → g.used k ∨ N k) ∧ RepA g' w' e.val v

theorem y_sound {P : Program} {f : FuncId} {g : G} {obj : Nat → Option Ob} {w : World} (h : HRel g obj w) {c : XC} {ti : List (Nat × Nat)} {N : Nat → Prop} (hid : ∀ x, N x → ¬ g.used x) (hti : ∀ x j, find ti x = some j → N x ∨ ∃ i, (i, j) ∈ c.pin ∧ find c.σ i = some x) {args : List AV} {us : List Value} (hargs : RepAs g w args us) (hob : (effY P f c ti obj args).ob) :
    Calls P f us.toArray w fun e w' => ∃ v, e = .returned v ∧ AfterN g obj w N (effY P f c ti obj args) v w' := by
  obtain ⟨⟨ha, hhp, hσ0, hdom, ht10, ht20⟩, _, hpx⟩ := hob
  have hσ := nodup_of hσ0
  have ht1 := nodup_of ht10
  have ht2 := nodup_of ht20
  have hin : ∀ {i x}, find c.σ i = some x → (find c.hp i).isSome = true := fun {i x} hi => by
    have := find_key hi
    rw [hdom] at this
    obtain ⟨v, hv⟩ := find_some_of_key this
    rw [hv]; rfl
  let g0 : G := via g c.σ c.hp
  have hloc0 : ∀ i x, find c.σ i = some x → g0.loc i = g.loc x := fun i x hi => via_loc hi
  have hused0 : ∀ i x, find c.σ i = some x → g0.used i := fun i x hi => hin hi
  have hl0 : ∀ i L, g0.loc i = some L → ∃ x, find c.σ i = some x ∧ g.loc x = some L := fun i L hL => via_loc' hL
  have hH0 : HRel g0 (objL c.hp) w := via_rel h hhp hσ hdom
  refine (hpx g0 w us hH0 (fun _ hk => hk) (rnsOk_rep hused0 hloc0 (fun _ hb => hb) ha hargs)).mono fun e w' ⟨v, g1, he, hH1, hr1, hs1, hp1⟩ => ⟨v, he, ?_⟩
  have hown0 : ∀ b, g0.owns b → ∃ x, x ∈ c.σ.map (·.2) ∧ ∃ L, g.loc x = some L ∧ L.virt = false ∧ L.blk = b := by
    rintro b ⟨i, L, hL, hv, hb⟩
    obtain ⟨x, h1, h2⟩ := hl0 i L hL
    exact ⟨x, find_val h1, L, h2, hv, hb⟩
  have hkeep : ∀ x L, x ∉ c.σ.map (·.2) → g.loc x = some L → L.virt = false → ¬ g0.owns L.blk := by
    rintro x L hx hL hv ho
    obtain ⟨y, hy, M, hM, hvM, hb⟩ := hown0 _ ho
    have := h.inj y x M L hM hL hvM hv hb
    exact hx (this ▸ hy)
  let g2 : G := ⟨g1.ro, fun x => match find ti x with | some j => g1.loc j | none => if x ∈ c.σ.map (·.2) then none else g.loc x, fun x => g.used x ∨ find ti x ≠ none⟩
  have hg2t : ∀ x j, find ti x = some j → g2.loc x = g1.loc j := fun x j hx => by simp only [g2, hx]
  have hg2n : ∀ x, find ti x = none → g2.loc x = if x ∈ c.σ.map (·.2) then none else g.loc x := fun x hx => by simp only [g2, hx]
  have hτ : ∀ i x, find (swp ti) i = some x → find ti x = some i := fun i x hi => swp_find ht1 ht2 hi
  have hlater : Later g w g2 w' := by
    refine ⟨fun b hb => ⟨hs1.ro b hb, ?_⟩, fun x hx => .inl hx, fun x hx => ?_⟩
    · refine hs1.block b (h.ro b hb) fun ho => ?_
      obtain ⟨y, hy, M, hM, hvM, hbb⟩ := hown0 b ho
      exact ((h.live y M hM).2 hvM).2 (hbb ▸ hb)
    · cases hf : find ti x with
      | none =>
        rw [hg2n x hf]
        split
        · exact .inr rfl
        · exact .inl rfl
      | some j =>
        rcases hti x j hf with hN | ⟨i, h1, h2⟩
        · exact absurd hx (hid x hN)
        · left
          rw [hg2t x j hf, hp1 i j h1, hloc0 i x h2]
  have hobj2 : ∀ x, updL obj (effY P f c ti obj args).wr x = match find ti x with
      | some j => (find c.hp' j).map fun o => ⟨o.elem, o.m, dnR (swp ti) o.rows⟩
      | none => if x ∈ c.σ.map (·.2) then none else obj x := by
    intro x
    simp only [effY]
    rw [updL_append, updL_get (by rw [back_keys]; exact ht1), updL_get (by rw [gone_keys]; exact hσ), back_find, gone_find]
    cases find ti x with
    | some j => rfl
    | none => simp only [Option.map_none, Option.getD_none]; split <;> rfl
  refine ⟨g2, ⟨?_, ?_, ?_, ?_, hH1.ro⟩, ?_, hlater, ?_, ?_⟩
  · intro x o ho
    rw [hobj2] at ho
    cases hf : find ti x with
    | some j =>
      rw [hf] at ho
      simp only [Option.map_eq_some_iff] at ho
      obtain ⟨o1, ho1, rfl⟩ := ho
      obtain ⟨L, hL, hok⟩ := hH1.own j o1 ho1
      refine ⟨L, by rw [hg2t x j hf]; exact hL, hok.m, hok.pos, by simpa only [dnR_length] using hok.len, fun hv => by simp [hok.virt hv, dnR], fun hv => ?_, fun hv => ⟨(hok.ents hv).1, (hok.ents hv).2.imp fun es he => he.imp fun clock he => ⟨he.1, he.2.1, dnR_ents (fun i y hy => Or.inr (by rw [hτ i y hy]; simp)) (fun i y hy => hg2t y i (hτ i y hy)) (fun _ hb => hb) _ _ he.2.2⟩⟩⟩
      obtain ⟨cur, c1, c2, c3, c5⟩ := hok.cells hv
      refine ⟨cur, c1, c2, c3, fun k row hi => ?_⟩
      obtain ⟨r0, hr0, rfl⟩ := dnR_get _ _ k row hi
      obtain ⟨d1, d2⟩ := c5 k r0 hr0
      refine ⟨by rw [dnL_length]; exact d1, fun q av hq => ?_⟩
      obtain ⟨a0, ha0, rfl⟩ := dnL_get _ _ q av hq
      obtain ⟨u, q1, q2, q3⟩ := d2 q a0 ha0
      exact ⟨u, q1, q2, dn_rep (fun i y hy => Or.inr (by rw [hτ i y hy]; simp)) (fun i y hy => hg2t y i (hτ i y hy)) (fun _ hb => hb) _ _ q3⟩
    | none =>
      rw [hf] at ho
      simp only at ho
      split at ho
      · cases ho
      · rename_i hx
        obtain ⟨L, hL, hok⟩ := h.own x o ho
        exact ⟨L, by rw [hg2n x hf, if_neg hx]; exact hL, hok.later hlater fun hv => hs1.block _ ((h.live x L hL).2 hv).1 (hkeep x L hx hL hv)⟩
  · intro x hx
    rw [hobj2] at hx
    cases hf : find ti x with
    | some j =>
      rw [hf] at hx
      rw [hg2t x j hf]
      simp only [Option.map_eq_none_iff] at hx
      exact hH1.gone j hx
    | none =>
      rw [hf] at hx
      simp only at hx
      rw [hg2n x hf]
      split
      · rfl
      · rename_i hn; rw [if_neg hn] at hx; exact h.gone x hx
  · intro x L hL
    cases hf : find ti x with
    | some j =>
      rw [hg2t x j hf] at hL
      exact ⟨.inr (by rw [hf]; simp), (hH1.live j L hL).2⟩
    | none =>
      rw [hg2n x hf] at hL
      split at hL
      · cases hL
      · rename_i hx
        refine ⟨.inl (h.live x L hL).1, fun hv => ⟨Nat.lt_of_lt_of_le ((h.live x L hL).2 hv).1 hs1.size, fun hro => ?_⟩⟩
        rcases hs1.ro' _ hro with h1 | h1 | h1
        · exact ((h.live x L hL).2 hv).2 h1
        · have := ((h.live x L hL).2 hv).1; omega
        · exact hkeep x L hx hL hv h1
  · intro x y L L' hL hL' hv hv' hb
    have mix : ∀ x y L L', (∃ j, find ti x = some j) → find ti y = none → g2.loc x = some L → g2.loc y = some L' → L.virt = false → L'.virt = false → L.blk = L'.blk → False := by
      rintro x y L L' ⟨j, hx⟩ hy hL hL' hv hv' hb
      rw [hg2t x j hx] at hL
      rw [hg2n y hy] at hL'
      split at hL'
      · cases hL'
      · rename_i hny
        rcases hs1.own L.blk ⟨j, L, hL, hv, rfl⟩ with h1 | h1
        · have := ((h.live y L' hL').2 hv').1; omega
        · exact hkeep y L' hny hL' hv' (hb ▸ h1)
    cases hx : find ti x with
    | some j =>
      cases hy : find ti y with
      | some k =>
        rw [hg2t x j hx] at hL
        rw [hg2t y k hy] at hL'
        have := hH1.inj j k L L' hL hL' hv hv' hb
        subst this
        exact find_inj2 ht2 hx hy
      | none => exact (mix x y L L' ⟨j, hx⟩ hy hL hL' hv hv' hb).elim
    | none =>
      cases hy : find ti y with
      | some k => exact (mix y x L' L ⟨k, hy⟩ hx hL' hL hv' hv hb.symm).elim
      | none =>
        rw [hg2n x hx] at hL
        rw [hg2n y hy] at hL'
        split at hL
        · cases hL
        · split at hL'
          · cases hL'
          · exact h.inj x y L L' hL hL' hv hv' hb
  · refine ⟨hs1.os, hs1.tape, hs1.output, hs1.size, fun b hb hn => hs1.block b hb fun ho => hn ?_, ?_, fun b hb => hs1.ro b hb, fun b hb => ?_⟩
    · obtain ⟨x, _, L, h1, h2, h3⟩ := hown0 b ho
      exact ⟨x, L, h1, h2, h3⟩
    · rintro b ⟨x, L, hL, hv, hb⟩
      cases hf : find ti x with
      | some j =>
        rw [hg2t x j hf] at hL
        rcases hs1.own b ⟨j, L, hL, hv, hb⟩ with h1 | h1
        · exact .inl h1
        · obtain ⟨y, _, M, q1, q2, q3⟩ := hown0 b h1
          exact .inr ⟨y, M, q1, q2, q3⟩
      | none =>
        rw [hg2n x hf] at hL
        split at hL
        · cases hL
        · exact .inr ⟨x, L, hL, hv, hb⟩
    · rcases hs1.ro' b hb with h1 | h1 | h1
      · exact .inl h1
      · exact .inr (.inl h1)
      · obtain ⟨y, _, M, q1, q2, q3⟩ := hown0 b h1
        exact .inr (.inr ⟨y, M, q1, q2, q3⟩)
  · intro k hk
    rcases hk with hk | hk
    · exact .inl hk
    · cases hf : find ti k with
      | none => exact absurd hf hk
      | some j =>
        rcases hti k j hf with hN | ⟨i, h1, h2⟩
        · exact .inr hN
        · have h3 := hin h2
          obtain ⟨o, ho⟩ := Option.isSome_iff_exists.1 h3
          obtain ⟨x', o', q1, q2, _⟩ := hpOk_find hhp i o ho
          rw [h2] at q1
          cases q1
          obtain ⟨L, hL, _⟩ := h.own k o' q2
          exact .inl (h.live k L hL).1
  · exact dn_rep (fun i y hy => Or.inr (by rw [hτ i y hy]; simp)) (fun i y hy => hg2t y i (hτ i y hy)) (fun _ hb => hb) _ _ hr1

theorem wpT_sound2 {P : Program} {ty : TypeId → Option TI} (hc : Ctx P ty) {orc : List (Nat × Res)} {gs : List (Option Tmp)} {ops : Array Oper} (hgs : ∀ j : Nat, gs[j]? = (ops[j]?).map fun o : Oper => o.dst) {base nxt : Nat} {Q : Exit → Act → World → Prop} {K : St → Prop} {g0 : G} {w0 : World}
    {l2 : List Oper} {en n0 : Nat} (hQ : ∀ s g a w, s.nxt = nxt → s.n = n0 → Rel (· < base + en) g s.get s.obj s.n a w → Step g0 w0 g w → K s → wpList P ops Q l2 a w) :
    ∀ (l : List Oper) (i : Nat) (s : St) (g : G) (a : Act) (w : World), i + l.length = en → s.nxt = nxt → s.n = n0 → Rel (· < base + i) g s.get s.obj s.n a w → Step g0 w0 g w → wpT ty P orc gs base i l s K → wpList P ops Q (l ++ l2) a w
  | [], i, s, g, a, w, hle, hnx, hn0, h, hs, hk => hQ s g a w hnx hn0 (by simp at hle; rw [← hle]; exact h) hs hk
  | o :: rest, i, s, g, a, w, hle, hnx, hn0, h, hs, hk => by
    simp only [List.length_cons] at hle
    have hargs : RepAs g w (o.op.operands.toList.map s.eval) (o.op.operands.toList.map a.eval) := by
      refine RepAs.of_get (by simp) fun j av hj => ?_
      rw [List.getElem?_map] at hj ⊢
      cases hx : o.op.operands.toList[j]? with
      | none => rw [hx] at hj; cases hj
      | some x => rw [hx] at hj; cases hj; exact ⟨a.eval x, rfl, eval_rep h (fun _ => rfl) x⟩
    have relapp : ∀ (e : Eff) (g' : G) (a' : Act) (w' : World), Rel (fun k => k < base + i ∨ k = base + i) g' (putG s.get o.dst e.val) (updL s.obj e.wr) s.n a' w' → Rel (· < base + (i + 1)) g' (s.app o.dst e).get (s.app o.dst e).obj (s.app o.dst e).n a' w' := by
      intro e g' a' w' hr
      have hn : (s.app o.dst e).n = s.n := by unfold St.app St.put; cases o.dst <;> rfl
      rw [hn]
      exact ⟨hr.defers, hr.size, fun t => by rw [app_get]; exact hr.tmp t, fun id hu => by
        have := hr.used id hu
        show id < base + (i + 1)
        rcases this with hh | hh <;> omega, by
        have : (s.app o.dst e).obj = updL s.obj e.wr := funext (app_obj s o.dst e)
        rw [this]; exact hr.heap⟩
    have hnapp : ∀ e, (s.app o.dst e).nxt = nxt := fun e => by rw [← hnx]; unfold St.app St.put; cases o.dst <;> rfl
    have hna : ∀ e, (s.app o.dst e).n = s.n := fun e => by unfold St.app St.put; cases o.dst <;> rfl
    have hnput : ∀ v, (s.put o.dst v).nxt = nxt := fun v => by rw [← hnx]; unfold St.put; cases o.dst <;> rfl
    have hnn : ∀ v, (s.put o.dst v).n = s.n := fun v => by unfold St.put; cases o.dst <;> rfl
    have relput : ∀ (v : AV) (g' : G) (a' : Act) (w' : World) (U : Nat → Prop), (∀ k, U k → k < base + (i + 1)) → Rel U g' (putG s.get o.dst v) s.obj s.n a' w' → Rel (· < base + (i + 1)) g' (s.put o.dst v).get (s.put o.dst v).obj (s.put o.dst v).n a' w' := by
      intro v g' a' w' U hU hr
      rw [hnn]
      have := hr.congr (get' := (s.put o.dst v).get) (obj' := (s.put o.dst v).obj) (fun t => St.get_put s o.dst v t) (fun id => put_obj s o.dst v id)
      exact ⟨this.defers, this.size, this.tmp, fun k hk => hU k (this.used k hk), this.heap⟩
    have skipped : ∀ v, (∀ d, o.dst = some d → d < s.n) → RepA g w v undef → wpT ty P orc gs base (i + 1) rest (s.put o.dst v) K → wpList P ops Q (rest ++ l2) (a.put o.dst undef) w := by
      intro v hd hv hrest
      have hr := rel_put (U' := (· < base + i)) (dst := o.dst) (v := v) (u := undef) h h.heap ⟨fun b hb => ⟨hb, rfl⟩, fun _ hx => hx, fun _ _ => .inl rfl⟩ (fun k hk => h.used k hk) hv hd
      exact wpT_sound2 (nxt := nxt) hc hgs hQ rest (i + 1) _ g _ w (by omega) (hnput v) ((hnn v).trans hn0) (relput v g _ w _ (fun k hk => by omega) hr) hs hrest
    simp only [List.cons_append, wpList]
    unfold wpT at hk
    split at hk
    · rename_i hg
      have hw : Region.wanted o (yielded ops a.tmps) = true := by simp [Region.wanted, hg]
      rw [if_pos hw]
      left
      unfold doOp at hk
      split at hk
      · rename_i e he
        obtain ⟨hob, hd, hrest⟩ := hk
        exact op_step hc (nid := base + i) h (by simp) hargs he hob (fun d hd' => by rw [hd'] at hd; exact hd) fun g' a' w' hr hst =>
          wpT_sound2 (nxt := nxt) hc hgs hQ rest (i + 1) (s.app o.dst e) g' a' w' (by omega) (hnapp e) ((hna e).trans hn0) (relapp e g' a' w' hr) (hs.trans hst) hrest
      · exact hk.elim
    · rename_i j want hg
      split at hk
      · rename_i x hgv
        have hw := guard_wanted (a := a) hgs h.tmp hg hgv
        rw [hw]
        obtain ⟨hd, hk⟩ := hk
        have hd' : ∀ d, o.dst = some d → d < s.n := fun d hd' => by rw [hd'] at hd; exact hd
        split at hk
        · rename_i e he
          split at hk
          · rename_i hwr
            obtain ⟨hexec, hrest⟩ := hk
            cases x with
            | true =>
              rw [if_pos rfl]
              left
              obtain ⟨hso, hob⟩ := hexec rfl
              refine op_step hc (nid := base + i) h (by simp) (strips_repG hargs hso) he hob hd' fun g' a' w' hr hst => ?_
              rw [hwr] at hr
              exact wpT_sound2 (nxt := nxt) hc hgs hQ rest (i + 1) _ g' a' w' (by omega) (hnput _) ((hnn _).trans hn0) (relput _ g' a' w' _ (fun k hk => by rcases hk with hh | hh <;> omega) hr.opt) (hs.trans hst) hrest
            | false =>
              rw [if_neg (by simp)]
              exact skipped _ hd' (by simp [RepA]) hrest
          · obtain ⟨rfl, hso, hob, hrest⟩ := hk
            rw [if_pos rfl]
            left
            exact op_step hc (nid := base + i) h (by simp) (strips_repG hargs hso) he hob hd' fun g' a' w' hr hst =>
              wpT_sound2 (nxt := nxt) hc hgs hQ rest (i + 1) (s.app o.dst e) g' a' w' (by omega) (hnapp e) ((hna e).trans hn0) (relapp e g' a' w' hr) (hs.trans hst) hrest
        · obtain ⟨rfl, hrest⟩ := hk
          rw [if_neg (by simp)]
          exact skipped _ hd' (by simp [RepA]) hrest
      · exact hk.elim


def freshOk (lo n : Nat) : List (Nat × Nat) → Prop
  | [] => True
  | (x, _) :: r => (lo ≤ x ∧ x < lo + n) ∧ freshOk lo n r
theorem freshOk_find {lo n x j : Nat} : ∀ {l : List (Nat × Nat)}, freshOk lo n l → find l x = some j → lo ≤ x ∧ x < lo + n
  | [], _, h => by simp [find] at h
  | (y, k) :: r, hl, h => by
    simp only [freshOk] at hl
    simp only [find] at h
    split at h
    · rename_i e; rw [← e]; exact hl.1
    · exact freshOk_find hl.2 h
theorem find_append' {α : Type} (x : Nat) : ∀ (a b : List (Nat × α)), find (a ++ b) x = (find a x).or (find b x)
  | [], b => by simp [find]
  | (y, k) :: r, b => by
    simp only [List.cons_append, find]
    split
    · rfl
    · exact find_append' x r b

end Go.Abs

namespace Go.Abs
variable [Flag]
open Go.RowKit

def dyn (e : TypeId) (m : Nat) : Nat → List (List (List D)) → List (Nat × Option Ob)
  | _, [] => []
  | k, r :: S => (1000000 + k, some ⟨e, m, dr r⟩) :: dyn e m (k + 1) S
def dynP (e : TypeId) (m : Nat) : Nat → List (List (List D)) → List (Nat × Ob)
  | _, [] => []
  | k, r :: S => (1000000 + k, ⟨e, m, dr r⟩) :: dynP e m (k + 1) S
def dynN : Nat → List Nat → List (Nat × Option Nat)
  | _, [] => []
  | k, x :: r => (1000000 + k, some x) :: dynN (k + 1) r
def dynI : Nat → Nat → List (Nat × Nat)
  | _, 0 => []
  | k, n + 1 => (1000000 + k, 1000000 + k) :: dynI (k + 1) n
def rowsAt (ids lens : List Nat) : List (List AV) := List.zipWith (fun x l => [AV.hs x 0 l]) ids lens
def idsN (n : Nat) : List Nat := (List.range n).map fun k => 1000000 + k

section
variable {e : TypeId} {m : Nat}
theorem find_dyn : ∀ (S : List (List (List D))) (k i : Nat), find (dyn e m k S) i = if 1000000 + k ≤ i then (S[i - (1000000 + k)]?).map (fun r => some ⟨e, m, dr r⟩) else none
  | [], k, i => by simp [dyn, find]
  | r :: S, k, i => by
    simp only [dyn, find]
    by_cases h : 1000000 + k = i
    · subst h; simp
    · rw [if_neg h, find_dyn S (k + 1) i]
      by_cases h2 : 1000000 + k ≤ i
      · rw [if_pos h2, if_pos (by omega), show i - (1000000 + k) = (i - (1000000 + (k + 1))) + 1 by omega, List.getElem?_cons_succ]
      · rw [if_neg h2, if_neg (by omega)]
theorem find_dyn0 (S : List (List (List D))) (j : Nat) : find (dyn e m 0 S) (1000000 + j) = (S[j]?).map (fun r => some ⟨e, m, dr r⟩) := by
  rw [find_dyn, if_pos (by omega), show 1000000 + j - (1000000 + 0) = j by omega]
theorem find_dynP : ∀ (S : List (List (List D))) (k i : Nat), find (dynP e m k S) i = if 1000000 + k ≤ i then (S[i - (1000000 + k)]?).map (fun r => ⟨e, m, dr r⟩) else none
  | [], k, i => by simp [dynP, find]
  | r :: S, k, i => by
    simp only [dynP, find]
    by_cases h : 1000000 + k = i
    · subst h; simp
    · rw [if_neg h, find_dynP S (k + 1) i]
      by_cases h2 : 1000000 + k ≤ i
      · rw [if_pos h2, if_pos (by omega), show i - (1000000 + k) = (i - (1000000 + (k + 1))) + 1 by omega, List.getElem?_cons_succ]
      · rw [if_neg h2, if_neg (by omega)]
theorem find_dynN : ∀ (S : List Nat) (k i : Nat), find (dynN k S) i = if 1000000 + k ≤ i then (S[i - (1000000 + k)]?).map some else none
  | [], k, i => by simp [dynN, find]
  | r :: S, k, i => by
    simp only [dynN, find]
    by_cases h : 1000000 + k = i
    · subst h; simp
    · rw [if_neg h, find_dynN S (k + 1) i]
      by_cases h2 : 1000000 + k ≤ i
      · rw [if_pos h2, if_pos (by omega), show i - (1000000 + k) = (i - (1000000 + (k + 1))) + 1 by omega, List.getElem?_cons_succ]
      · rw [if_neg h2, if_neg (by omega)]
theorem find_dynN0 (S : List Nat) (j : Nat) : find (dynN 0 S) (1000000 + j) = (S[j]?).map some := by
  rw [find_dynN, if_pos (by omega), show 1000000 + j - (1000000 + 0) = j by omega]
end

theorem find_app {α : Type} (x : Nat) : ∀ (a b : List (Nat × α)), find (a ++ b) x = (find a x).or (find b x) := find_append' x
theorem find_lowN {α : Type} {x b : Nat} : ∀ {l : List (Nat × α)}, (l.all fun y => Nat.blt y.1 b) = true → b ≤ x → find l x = none
  | [], _, _ => rfl
  | (k, v) :: r, h, hx => by
    simp only [List.all_cons, Bool.and_eq_true] at h
    have h1 : k < b := Nat.le_of_ble_eq_true h.1
    simp only [find]
    rw [if_neg (by omega)]
    exact find_lowN h.2 hx

theorem idsN_length (n : Nat) : (idsN n).length = n := by simp [idsN]
theorem idsN_get {n k : Nat} (h : k < n) : (idsN n)[k]? = some (1000000 + k) := by simp [idsN, h]
theorem idsN_get' {n k x : Nat} (h : (idsN n)[k]? = some x) : k < n ∧ x = 1000000 + k := by
  have hk : k < n := by have := (List.getElem?_eq_some_iff.1 h).1; simpa [idsN] using this
  rw [idsN_get hk] at h
  exact ⟨hk, by cases h; rfl⟩
theorem idsN_succ (n : Nat) : idsN (n + 1) = idsN n ++ [1000000 + n] := by simp [idsN, List.range_succ]
theorem idsN_mem {n x : Nat} : x ∈ idsN n ↔ 1000000 ≤ x ∧ x < 1000000 + n := by
  simp only [idsN, List.mem_map, List.mem_range]
  constructor
  · rintro ⟨k, hk, rfl⟩; omega
  · intro h; exact ⟨x - 1000000, by omega, by omega⟩
theorem idsN_nodup (n : Nat) : (idsN n).Nodup := by
  induction n with
  | zero => simp [idsN]
  | succ n ih =>
    rw [idsN_succ, List.nodup_append]
    exact ⟨ih, by simp, fun a ha b hb => by have := idsN_mem.1 ha; simp at hb; omega⟩
theorem upR_of {σ : List (Nat × Option Nat)} : ∀ {x y : List (List AV)}, x.length = y.length → (∀ (i : Nat) (r q : List AV), x[i]? = some r → y[i]? = some q → upL σ r = some q) → upR σ x = some y
  | [], [], _, _ => rfl
  | [], _ :: _, h, _ => by simp at h
  | _ :: _, [], h, _ => by simp at h
  | a :: x, b :: y, h, hg => by
    have h1 := hg 0 a b rfl rfl
    have h2 := upR_of (x := x) (y := y) (by simpa using h) fun i r q hr hq => hg (i + 1) r q (by simpa using hr) (by simpa using hq)
    simp [upR, h1, h2]
theorem rnR_of {σ : List (Nat × Nat)} : ∀ {x y : List (List AV)}, x.length = y.length → (∀ (i : Nat) (r q : List AV), x[i]? = some r → y[i]? = some q → rnL σ r = some q) → rnR σ x = some y
  | [], [], _, _ => rfl
  | [], _ :: _, h, _ => by simp at h
  | _ :: _, [], h, _ => by simp at h
  | a :: x, b :: y, h, hg => by
    have h1 := hg 0 a b rfl rfl
    have h2 := rnR_of (x := x) (y := y) (by simpa using h) fun i r q hr hq => hg (i + 1) r q (by simpa using hr) (by simpa using hq)
    simp [rnR, h1, h2]
theorem upH_app {σ : List (Nat × Option Nat)} {s : St} : ∀ {a b : List (Nat × Option Ob)}, upH σ s a → upH σ s b → upH σ s (a ++ b)
  | [], b, _, h => h
  | (k, some o) :: a, b, ha, hb => by
    simp only [List.cons_append, upH] at ha ⊢
    exact ⟨ha.1, upH_app ha.2 hb⟩
  | (k, none) :: a, b, ha, hb => by
    simp only [List.cons_append, upH] at ha ⊢
    exact upH_app ha hb
theorem upH_dyn {σ : List (Nat × Option Nat)} {s : St} {e : TypeId} {m : Nat} : ∀ {S : List (List (List D))} {k : Nat}, (∀ (j : Nat) (r : List (List D)), S[j]? = some r → ∃ x o0, find σ (1000000 + (k + j)) = some (some x) ∧ s.obj x = some o0 ∧ o0.elem = e ∧ o0.m = m ∧ o0.rows = dr r) → upH σ s (dyn e m k S)
  | [], k, _ => trivial
  | r :: S, k, h => by
    simp only [dyn, upH]
    obtain ⟨x, o0, h1, h2, h3, h4, h5⟩ := h 0 r rfl
    refine ⟨?_, upH_dyn fun j r' hr => ?_⟩
    · rw [Nat.add_zero] at h1
      rw [h1]
      exact ⟨o0, h2, h3, h4, by rw [h5]; exact upR_dr σ r⟩
    · have := h (j + 1) r' (by simpa using hr)
      rwa [show k + (j + 1) = k + 1 + j by omega] at this
theorem namesOk_app {s' : St} : ∀ {a b : List (Nat × Option Nat)}, namesOk s' a → namesOk s' b → namesOk s' (a ++ b)
  | [], b, _, h => h
  | (k, v) :: a, b, ha, hb => by
    simp only [List.cons_append, namesOk] at ha ⊢
    exact ⟨ha.1, ha.2.1, namesOk_app ha.2.2 hb⟩
theorem namesOk_dyn {s' : St} : ∀ {ns : List Nat} {k : Nat}, (∀ j, j < ns.length → (s'.obj (1000000 + (k + j))).isSome = true ∧ 1000000 + (k + j) < s'.nxt) → namesOk s' (dynN k ns)
  | [], k, _ => trivial
  | x :: r, k, h => by
    simp only [dynN, namesOk]
    have h0 := h 0 (by simp)
    refine ⟨h0.1, h0.2, namesOk_dyn fun j hj => ?_⟩
    have := h (j + 1) (by simpa using hj)
    rwa [show k + (j + 1) = k + 1 + j by omega] at this
theorem olds_app : ∀ (a b : List (Nat × Option Nat)), olds (a ++ b) = olds a ++ olds b
  | [], b => rfl
  | (k, some x) :: a, b => by simp [olds, olds_app a b]
  | (k, none) :: a, b => by simp [olds, olds_app a b]
theorem olds_dyn : ∀ (ns : List Nat) (k : Nat), olds (dynN k ns) = ns
  | [], k => rfl
  | x :: r, k => by simp [dynN, olds, olds_dyn r]

theorem weak_dyn {s : St} {n : Nat} {tm : List (Nat × AV)} {nxt : Nat} {e : TypeId} {m : Nat} (σ0 : List (Nat × Option Nat)) (ns : List Nat) (H0 : List (Nat × Option Ob)) (S : List (List (List D)))
    (hlow : (σ0.all fun x => Nat.blt x.1 1000000) = true) (hlow2 : (H0.all fun x => Nat.blt x.1 1000000) = true) (hnx : 1000000 + S.length ≤ nxt) (hlen : ns.length = S.length)
    (hn : n = s.n) (htm : upT (σ0 ++ dynN 0 ns) s tm) (hh : upH (σ0 ++ dynN 0 ns) s H0) (hnm : namesOk ⟨n, tm, H0, nxt⟩ σ0)
    (ho : (olds σ0).Nodup) (hns : ns.Nodup) (hd : ∀ x ∈ ns, x ∉ olds σ0)
    (hS : ∀ (j : Nat) (r : List (List D)) (x : Nat), S[j]? = some r → ns[j]? = some x → s.obj x = some ⟨e, m, dr r⟩) : Weak s ⟨n, tm, H0 ++ dyn e m 0 S, nxt⟩ := by
  have hget : ∀ x, find (σ0 ++ dynN 0 ns) x = (find σ0 x).or (find (dynN 0 ns) x) := fun x => find_app x _ _
  refine weak_of (σ0 ++ dynN 0 ns) hn htm (upH_app hh (upH_dyn fun j r hr => ?_)) (namesOk_app ?_ (namesOk_dyn fun j hj => ?_)) ?_
  · have hj : j < ns.length := by rw [hlen]; exact (List.getElem?_eq_some_iff.1 hr).1
    have hx : ns[j]? = some ns[j] := List.getElem?_eq_getElem hj
    refine ⟨ns[j], _, ?_, hS j r _ hr hx, rfl, rfl, rfl⟩
    rw [hget, find_lowN hlow (by omega), Nat.zero_add, find_dynN0, hx]; rfl
  · have key : ∀ (σ : List (Nat × Option Nat)), namesOk ⟨n, tm, H0, nxt⟩ σ → namesOk ⟨n, tm, H0 ++ dyn e m 0 S, nxt⟩ σ := by
      intro σ
      induction σ with
      | nil => intro _; trivial
      | cons p r ih =>
        obtain ⟨k, v⟩ := p
        intro h
        simp only [namesOk] at h ⊢
        refine ⟨?_, h.2.1, ih h.2.2⟩
        have h1 := h.1
        simp only [St.obj] at h1 ⊢
        rw [find_app]
        cases hf : find H0 k with
        | none => rw [hf] at h1; simp at h1
        | some o => rw [hf] at h1; simpa using h1
    exact key σ0 hnm
  · have hj' : j < S.length := by omega
    refine ⟨?_, by simp only; omega⟩
    simp only [St.obj]
    rw [find_app, find_lowN hlow2 (by omega), Nat.zero_add, find_dyn0, List.getElem?_eq_getElem hj']; rfl
  · rw [olds_app, olds_dyn, List.nodup_append]
    exact ⟨ho, hns, fun a ha b hb hab => hd b hb (hab ▸ ha)⟩

theorem weak_ext {s s' : St} (hn : s'.n = s.n) (h1 : ∀ t, s'.get t = s.get t) (h2 : ∀ x, s'.obj x = s.obj x) (h3 : s.nxt ≤ s'.nxt) : Weak s s' := by
  intro g a w hr
  refine ⟨g, ?_, Step.refl g w⟩
  have := Rel.congr hr h1 h2
  exact ⟨this.defers, by rw [hn]; exact this.size, this.tmp, fun id hu => Nat.lt_of_lt_of_le (this.used id hu) h3, this.heap⟩

theorem fzH_dyn {e : TypeId} {m : Nat} (id : Nat) (rs : List (List D)) : ∀ (S : List (List (List D))) (k : Nat), fzH id rs (dyn e m k S) = dyn e m k S
  | [], k => rfl
  | r :: S, k => by
    have h := fzH_dyn (e := e) (m := m) id rs S (k + 1)
    simp only [dyn, fzH] at h ⊢
    rw [h, fzO, fzR_dr]

def mixR (S : List (List (List D))) (k : Nat) : List (List AV) := dr ((S.take k).map fun r => [D.sl r]) ++ rowsAt ((idsN S.length).drop k) ((S.map List.length).drop k)
theorem fzR_appA (id : Nat) (rs : List (List D)) : ∀ (a b : List (List AV)), fzR id rs (a ++ b) = fzR id rs a ++ fzR id rs b
  | [], b => rfl
  | x :: a, b => by simp only [List.cons_append, fzR, fzR_appA id rs a b]
theorem fzR_keep (id : Nat) (rs : List (List D)) : ∀ {x : List (List AV)}, (∀ (i : Nat) (r : List AV), x[i]? = some r → fzL id rs r = r) → fzR id rs x = x
  | [], _ => rfl
  | a :: x, hg => by
    have h1 := hg 0 a rfl
    have h2 := fzR_keep id rs (x := x) fun i r hr => hg (i + 1) r (by simpa using hr)
    simp [fzR, h1, h2]
def tmLow : List (Nat × AV) → Bool
  | [] => true
  | (_, .d _) :: r => tmLow r
  | (_, .any) :: r => tmLow r
  | (_, .nl) :: r => tmLow r
  | (_, .hs i _ _) :: r => Nat.blt i 1000000 && tmLow r
  | (_, .ptr i _ _) :: r => Nat.blt i 1000000 && tmLow r
  | _ :: _ => false
inductive Tr where
  | leaf
  | stop
  | alt (i : Nat) (t u : Tr)
def Tr.heads : Tr → List Nat
  | .alt i _ u => i :: u.heads
  | _ => []
def seqOk (ops : Array Oper) : Nat → Array Bool → Nat → Bool
  | 0, listed, k => (Region.ready .any ops listed).isEmpty
  | f + 1, listed, k => decide (Region.ready .any ops listed = [k]) && seqOk ops f (listed.setIfInBounds k true) (k + 1)
def trOk (ops : Array Oper) (d m : Nat) : Bool → Nat → Array Bool → Tr → Bool
  | top, fuel, listed, .leaf => top && decide (fuel = m) && seqOk ops m listed d
  | top, fuel, listed, .stop => !top
  | top, f + 1, listed, .alt i t u => (!top || decide (Region.ready .any ops listed = i :: u.heads)) && trOk ops d m true f (listed.setIfInBounds i true) t && trOk ops d m false (f + 1) listed u
  | _, 0, _, .alt _ _ _ => false

section
variable (ty : TypeId → Option TI) (P : Program) (orc : List (Nat × Res)) (l : List Oper)
def stepE (i : Nat) (s : St) (K : St → Prop) : Prop :=
  match l[i]? with
  | some o => o.guard = none ∧ (match eff ty P (find orc i) o.op s.obj s.nxt (o.op.operands.toList.map s.eval) with
    | some e => e.ob ∧ (match o.dst with | some d => d < s.n | none => True) ∧ K { s.app o.dst e with nxt := s.nxt + 1 }
    | none => False)
  | none => False
def wpTr : Tr → St → (St → Prop) → Prop
  | .leaf, s, K => K s
  | .stop, _, _ => True
  | .alt i t u, s, K => stepE ty P orc l i s (fun s' => wpTr t s' K) ∧ wpTr u s K
end

theorem nodupB_of : ∀ {l : List Nat}, l.Nodup → nodupB l = true
  | [], _ => rfl
  | a :: r, h => by
    have h' := List.nodup_cons.1 h
    simp only [nodupB, Bool.and_eq_true, List.all_eq_true, Bool.not_eq_true']
    refine ⟨fun b hb => ?_, nodupB_of h'.2⟩
    cases hab : Nat.beq a b with
    | false => rfl
    | true => exact absurd (Nat.eq_of_beq_eq_true hab ▸ hb) h'.1
theorem dynP_fst {e : TypeId} {m : Nat} : ∀ (S : List (List (List D))) (k : Nat), (dynP e m k S).map (·.1) = List.range' (1000000 + k) S.length
  | [], k => rfl
  | r :: S, k => by simp [dynP, dynP_fst S (k + 1), List.range'_succ]; omega
def nestP (eo e m : Nat) (S : List (List (List D))) : List (Nat × Ob) := (0, ⟨eo, 1, rowsAt (idsN S.length) (S.map List.length)⟩) :: dynP e m 0 S
def nestH (eo e m : Nat) (S : List (List (List D))) : List (Nat × Option Ob) := (999999, some ⟨eo, 1, rowsAt (idsN S.length) (S.map List.length)⟩) :: dyn e m 0 S

section
variable {P : Program} {ty : TypeId → Option TI} {orc : List (Nat × Res)} {l pre post : List Oper} {o : Oper} {cl : Call} {fo : Operand} {I s1 : St} {f : FuncId} {caps av : List AV} {eo e m : Nat} {S : List (List (List D))} {Q : Exit → St → Prop} {g g1 : G} {w w1 : World} {a1 : Act}
end

end Go.Abs

namespace Go.Abs
variable [Flag]
open Go.RowKit

section
variable {P : Program} {g : G} {w : World} {t kt et : TypeId} {kti eti : TI}

theorem entry_run {obj : Nat → Option Ob} (h : HRel g obj w) (hu : P.underlying t = some (.map kt et)) (hk : TOk P kt kti) (het : TOk P et eti) (hz : zeroA eti = .nl) {id : Nat} {o : Ob} (ho : obj id = some o) {L : Loc} (hL : g.loc id = some L) (hv : L.virt = false ∧ L.map = true)
    {k : D} {kv : Value} (hf : keyFits kti k = true) (hkv : RepD g.ro w k kv) {r : Option AV} (hl : lookA k o.rows = some r) {rows1 : List (List AV)} (hp : putR k (r.getD .nl) o.rows = some rows1) :
    ∃ w1 g1 val es1 clock1 j e, (Instr.mapEntry t (.map (some L.blk)) kv).run P w = .ok (.tuple #[val, goInt e.born]) w1 ∧ HRel g1 (upd1 obj id (some ⟨o.elem, o.m, rows1⟩)) w1 ∧ Step g w g1 w1 ∧ Later g w g1 w1 ∧ (∀ k, g1.used k → g.used k) ∧ g1.loc id = some L ∧
      w1.heap[L.blk]? = some (.map es1 clock1) ∧ MapKept.Stamped es1 clock1 ∧ es1[j]? = some e ∧ e.key = kv ∧ RepA g1 w1 (r.getD .nl) val ∧ posR k rows1 = some (some j) := by
  obtain ⟨L', hL', hok⟩ := h.own id o ho
  rw [hL] at hL'; cases hL'
  obtain ⟨_, es, clock, hb, hst, hes⟩ := hok.ents hv
  have hlt : L.blk < w.heap.size := ((h.live id L hL).2 hv.1).1
  unfold lookA at hl
  unfold putR at hp
  have locs : ∀ {g1 : G} {w1 : World}, Later g w g1 w1 → HRel g1 (upd1 obj id (some ⟨o.elem, o.m, rows1⟩)) w1 → g1.loc id = some L := by
    intro g1 w1 hlat hrel
    obtain ⟨M, hM, _⟩ := hrel.own id ⟨o.elem, o.m, rows1⟩ (by simp [upd1])
    rcases hlat.loc id (h.live id L hL).1 with e | e
    · rw [e, hL]
    · rw [hM] at e; cases e
  cases hq : posR k o.rows with
  | none => rw [hq] at hp; cases hp
  | some q =>
    rw [hq] at hp hl
    have hs := pos_sound hkv hes hq
    have hrun := findKey_run hk hf hkv hes hq
    cases q with
    | none =>
      simp only [Option.some.injEq] at hl
      subst hl
      simp only [Option.getD_none, Option.some.injEq] at hp ⊢
      subst hp
      obtain ⟨z, hzr, hzrep⟩ := het.zeroOne hz (by simp) g w
      have hst' := MapKept.stamped_push hst (key := kv) (val := z) hs
      obtain ⟨g', h1, h2, h3, h4⟩ := map_write h ho hL hok hv hb hst' (o.rows ++ [[.d k, .nl]]) (by rw [Array.toList_push]; exact hes.append (by simp only [EntsA, RepAs]; exact ⟨_, [], rfl, ⟨kv, _, rfl, by simpa only [RepA] using hkv, z, _, rfl, hzrep, rfl⟩, rfl⟩))
      refine ⟨_, g', z, _, _, es.size, ⟨kv, z, clock⟩, ?_, h1, h2, h3, h4, locs h3 h1, (MapKept.heap_set hb).1, hst', by simp, rfl, RepA.later h3 _ _ hzrep, ?_⟩
      · simp [Instr.mapEntry, run_underlying hu, MapKept.run_getObj_map hb, checkKey_run hk hf hkv, hrun, hzr, MapKept.run_setObj_map _ hb, Result.andThen]
      · have hlen : o.rows.length = es.size := by
          have : ∀ {rows : List (List AV)} {l : List MapEntry}, EntsA g w rows l → rows.length = l.length := by
            intro rows
            induction rows with
            | nil => intro l hl; simp only [EntsA] at hl; simp [hl]
            | cons r rs ih => intro l hl; simp only [EntsA] at hl; obtain ⟨e, l', rfl, _, h2⟩ := hl; simp [ih h2]
          simpa using this hes
        rw [← hlen]
        have hself : eqK k k = some true := by
          cases k with
          | int q a => simp [eqK]
          | agg cs =>
            simp only [eqK]
            simp only [keyFits] at hf
            split at hf
            · simp only [Bool.and_eq_true] at hf
              have : ∀ l : List D, l.all isInt = true → eqD 1 l l = some true := by
                intro l
                induction l with
                | nil => intro _; rfl
                | cons x l ih =>
                  intro hx
                  simp only [List.all_cons, Bool.and_eq_true] at hx
                  cases x with
                  | int q a => simp [eqD, ih hx.2]
                  | _ => simp [isInt] at hx
              exact this cs hf.2
            · cases hf
          | _ => simp [keyFits] at hf
        have app : ∀ (rows : List (List AV)), posR k rows = some none → posR k (rows ++ [[.d k, .nl]]) = some (some rows.length) := by
          intro rows
          induction rows with
          | nil => intro _; simp [posR, hself]
          | cons r rs ih =>
            intro hr
            rw [List.cons_append]
            unfold posR at hr ⊢
            split at hr
            · rename_i k' a
              split at hr
              · cases hr
              · rename_i hq2
                simp only [Option.map_eq_some_iff] at hr
                obtain ⟨x, hx, hx2⟩ := hr
                cases x with
                | some x => cases hx2
                | none => simp [hq2, ih hx]
              · cases hr
            · cases hr
        exact app _ hq
    | some j =>
      obtain ⟨e, a, e1, e2, ⟨k', e3⟩, e4⟩ := hs
      simp only [e3, Option.some.injEq] at hl
      subst hl
      simp only [Option.getD_some, Option.some.injEq] at hp ⊢
      subst hp
      have hj : es[j]? = some e := by simpa using e1
      have hmod : (es.modify j fun e => { e with key := kv }).toList = es.toList.set j { e with key := kv } := by rw [Array.toList_modify, ChangeMaps.modify_eq_set _ _ _ _ e1]
      have hst' := MapKept.stamped_modify hst j (fun e => { e with key := kv }) (fun _ _ => rfl) (fun e' _ he' => by rw [hj] at he'; cases he'; exact e2.symm)
      obtain ⟨g', h1, h2, h3, h4⟩ := map_write h ho hL hok hv hb hst' (o.rows.set j [.d k, a]) (by rw [hmod]; exact EntsA.set (by simp only [RepAs]; exact ⟨kv, _, rfl, by simpa only [RepA] using hkv, e.val, _, rfl, e4, rfl⟩) j hes)
      have hjl : j < es.size := (Array.getElem?_eq_some_iff.1 hj).1
      refine ⟨_, g', e.val, _, _, j, { e with key := kv }, ?_, h1, h2, h3, h4, locs h3 h1, (MapKept.heap_set hb).1, hst', by simp [Array.getElem?_modify, hj], rfl, RepA.later h3 _ _ e4, ?_⟩
      · simp [Instr.mapEntry, run_underlying hu, MapKept.run_getObj_map hb, checkKey_run hk hf hkv, hrun, hj, e2, stays_run hf hkv, MapKept.run_setObj_map _ hb, Result.andThen]
      · have hself : eqK k k = some true := by
          cases k with
          | int q a => simp [eqK]
          | agg cs =>
            simp only [eqK]
            simp only [keyFits] at hf
            split at hf
            · simp only [Bool.and_eq_true] at hf
              have : ∀ l : List D, l.all isInt = true → eqD 1 l l = some true := by
                intro l
                induction l with
                | nil => intro _; rfl
                | cons x l ih =>
                  intro hx
                  simp only [List.all_cons, Bool.and_eq_true] at hx
                  cases x with
                  | int q a => simp [eqD, ih hx.2]
                  | _ => simp [isInt] at hx
              exact this cs hf.2
            · cases hf
          | _ => simp [keyFits] at hf
        have sets : ∀ (rows : List (List AV)) (j : Nat), posR k rows = some (some j) → posR k (rows.set j [.d k, a]) = some (some j) := by
          intro rows
          induction rows with
          | nil => intro j hr; simp [posR] at hr
          | cons r rs ih =>
            intro j hr
            unfold posR at hr
            split at hr
            · rename_i k' a'
              split at hr
              · cases hr
                simp [posR, hself]
              · rename_i hq2
                simp only [Option.map_eq_some_iff] at hr
                obtain ⟨_, hx, x, rfl, rfl⟩ := hr
                simp only [List.set_cons_succ]
                unfold posR
                simp [hq2, ih x hx]
              · cases hr
            · cases hr
        exact sets _ _ hq

theorem entry_store {obj : Nat → Option Ob} (h : HRel g obj w) {id : Nat} {o : Ob} (ho : obj id = some o) {L : Loc} (hL : g.loc id = some L) (hv : L.virt = false ∧ L.map = true) {es : Array MapEntry} {clock : Nat} (hb : w.heap[L.blk]? = some (.map es clock)) {j : Nat} {e : MapEntry} (hj : es[j]? = some e)
    {k : D} {kv : Value} (hkv : RepD g.ro w k kv) (he : e.key = kv) {x : AV} {v : Value} (hx : RepA g w x v) (hp : posR k o.rows = some (some j)) :
    ∃ w' g', (Instr.entryStore t (.map (some L.blk)) (goInt e.born) v).run P w = .ok () w' ∧ HRel g' (upd1 obj id (some ⟨o.elem, o.m, o.rows.set j [.d k, x]⟩)) w' ∧ Step g w g' w' ∧ Later g w g' w' ∧ (∀ k, g'.used k → g.used k) := by
  obtain ⟨L', hL', hok⟩ := h.own id o ho
  rw [hL] at hL'; cases hL'
  obtain ⟨_, es', clock', hb', hst, hes⟩ := hok.ents hv
  rw [hb] at hb'; cases hb'
  have hfind : es.findIdx? (fun x => (x.born : Int) == (e.born : Int)) = some j := by
    rw [Array.findIdx?_eq_some_iff_getElem]
    obtain ⟨hlt, rfl⟩ := Array.getElem?_eq_some_iff.1 hj
    refine ⟨hlt, by simp, fun i hi => ?_⟩
    have hnd := hst.2.1
    have := List.pairwise_iff_getElem.1 hnd i j (by simp; omega) (by simpa using hlt) hi
    simp only [List.getElem_map, Array.getElem_toList] at this
    simp; omega
  have e1 : es.toList[j]? = some e := by simpa using hj
  have hmod : (es.modify j fun e => { e with val := v }).toList = es.toList.set j { e with val := v } := by rw [Array.toList_modify, ChangeMaps.modify_eq_set _ _ _ _ e1]
  have hst' := MapKept.stamped_modify hst j (fun e => { e with val := v }) (fun _ _ => rfl) (fun e' _ he' => rfl)
  obtain ⟨g', h1, h2, h3, h4⟩ := map_write h ho hL hok hv hb hst' (o.rows.set j [.d k, x]) (by rw [hmod]; exact EntsA.set (by simp only [RepAs]; exact ⟨_, _, rfl, by simp only [RepA]; rw [he]; exact hkv, v, _, rfl, hx, rfl⟩) j hes)
  refine ⟨_, g', ?_, h1, h2, h3, h4⟩
  simp [Instr.entryStore, MapKept.run_getObj_map hb, asInt, asIntOf, goInt, hfind, MapKept.run_setObj_map _ hb, Result.andThen]
end

theorem put_get_same {a : Act} {t : Tmp} {v : Value} (h : t < a.tmps.size) : (a.put (some t) v).tmps.getD t undef = v := by
  simp [Act.put, Array.getD_eq_getD_getElem?, Array.getElem?_setIfInBounds, h]
theorem put_get_ne {a : Act} {t u : Tmp} {v : Value} (h : u ≠ t) : (a.put (some t) v).tmps.getD u undef = a.tmps.getD u undef := by
  simp [Act.put, Array.getD_eq_getD_getElem?, Array.getElem?_setIfInBounds_ne (Ne.symm h)]
theorem put_size {a : Act} {t : Option Tmp} {v : Value} : (a.put t v).tmps.size = a.tmps.size := by cases t <;> simp [Act.put]

theorem awp_region_entry {P : Program} {ty : TypeId → Option TI} (hc : Ctx P ty) (orc : List (Nat × Res)) {rid : Nat} {l : List Oper} (pre : List Oper) (o1 o2 o3 o4 o5 : Oper) (hl : l = pre ++ [o1, o2, o3, o4, o5])
    {T S kt et e : TypeId} {tm tk tx t1 t2 t3 t4 : Tmp} {c : Call} (g1 : o1.guard = none) (g2 : o2.guard = none) (g3 : o3.guard = none) (g4 : o4.guard = none) (g5 : o5.guard = none)
    (h1 : o1.op = .mapEntry T (.tmp tm) (.tmp tk)) (d1 : o1.dst = some t1) (h2 : o2.op = .extract (.tmp t1) 0) (d2 : o2.dst = some t2)
    (h3 : o3.op = .call c) (hcb : c.callee = .builtin .append) (hca : c.argTypes = #[S, S]) (hcx : c.args = #[.tmp t2, .tmp tx]) (d3 : o3.dst = some t3)
    (h4 : o4.op = .extract (.tmp t1) 1) (d4 : o4.dst = some t4) (h5 : o5.op = .entryStore T (.tmp tm) (.tmp t4) (.tmp t3)) (d5 : o5.dst = none)
    (ht : tm ≠ t1 ∧ tm ≠ t2 ∧ tm ≠ t3 ∧ tm ≠ t4 ∧ tx ≠ t1 ∧ tx ≠ t2 ∧ t2 ≠ t1 ∧ t3 ≠ t1 ∧ t3 ≠ t2 ∧ t4 ≠ t1 ∧ t4 ≠ t2 ∧ t4 ≠ t3)
    {ti kti eti si te : TI} (hT : ty T = some ti) (hTk : ti.kind = .map kt et) (hkt : ty kt = some kti) (het : ty et = some eti) (hz : zeroA eti = .nl) (hS : ty S = some si) (hSk : si.kind = .slice e) (he : ty e = some te) (hpos : 0 < te.size) (hbpos : 0 < te.bytes)
    (I : St) {id : Nat} {o : Ob} {k : D} {r : Option AV} {rows1 rows3 r1 r2 : List (List AV)} {wr : List (Nat × Option Ob)} {p1 p2 : Prop} (hm : I.get tm = .hm id) (hk : I.get tk = .d k) (hf : keyFits kti k = true) (ho : I.obj id = some o)
    (hr : r = none ∨ ∃ i n', r = some (.hs i 0 (n' + 1))) (hlk : lookA k o.rows = some r) (hp : putR k (r.getD .nl) o.rows = some rows1)
    (hd : dstRows (upd1 I.obj id (some ⟨o.elem, o.m, rows1⟩)) e te.size (r.getD .nl) = some (r1, wr, p1)) (hp1 : p1) (hsrc : srcRows (upd1 I.obj id (some ⟨o.elem, o.m, rows1⟩)) te.size (I.get tx) = some (r2, p2)) (hp2 : p2)
    (hb : (r1.length + r2.length) * te.bytes ≤ 140737488355328) (hp3 : putR k (.hs I.nxt 0 (r1.length + r2.length)) rows1 = some rows3) (hwr : updL (upd1 I.obj id (some ⟨o.elem, o.m, rows1⟩)) (wr ++ [(I.nxt, some ⟨e, te.size, r1 ++ r2⟩)]) id = some ⟨o.elem, o.m, rows1⟩)
    (hn : t1 < I.n ∧ t2 < I.n ∧ t3 < I.n ∧ t4 < I.n) {Q : Exit → St → Prop} {s : St}
    (hw : ∀ K : St → Prop, (∀ s', Weak s' I → K s') → wpT ty P orc (l.map (·.dst)) s.nxt 0 pre { s with nxt := s.nxt + l.length } K)
    (hQ : Q .normal ⟨I.n, (t4, .any) :: (t3, .hs I.nxt 0 (r1.length + r2.length)) :: (t2, .any) :: (t1, .any) :: I.tm, (id, some ⟨o.elem, o.m, rows3⟩) :: pushL ((id, some ⟨o.elem, o.m, rows1⟩) :: I.hp) (wr ++ [(I.nxt, some ⟨e, te.size, r1 ++ r2⟩)]), I.nxt + 1⟩) : AWp P (.region rid l.toArray false) Q s := by
  intro g a w hrel0
  refine wp_region ?_
  have hgs : ∀ j : Nat, (l.map (·.dst))[j]? = (l.toArray[j]?).map fun o : Oper => o.dst := by intro j; simp
  have hlen : l.length = pre.length + 5 := by rw [hl]; simp
  have key : wpList P l.toArray (fun e a' w' => ∃ s' g', RelS s' g' a' w' ∧ Step g w g' w' ∧ Q e s') l a w := by
    have h3' := wpT_sound2 (P := P) hc (orc := orc) (gs := l.map (·.dst)) (ops := l.toArray) hgs (base := s.nxt) (nxt := s.nxt + l.length)
      (Q := fun e a' w' => ∃ s' g', RelS s' g' a' w' ∧ Step g w g' w' ∧ Q e s') (g0 := g) (w0 := w) (l2 := [o1, o2, o3, o4, o5]) (en := pre.length) (n0 := s.n) (K := fun s1 => Weak s1 I) ?_ pre 0 { s with nxt := s.nxt + l.length } g a w (by simp) rfl rfl ⟨hrel0.defers, hrel0.size, hrel0.tmp, fun id hu => by have := hrel0.used id hu; simpa using this, hrel0.heap⟩ (Step.refl g w) (hw _ fun _ hq => hq)
    · rw [← hl] at h3'; exact h3'
    · intro s1 ga aa wa hnx1 hn0 hrel hst hwk
      have hr1 : RelS s1 ga aa wa := ⟨hrel.defers, hrel.size, hrel.tmp, fun id hu => by have := hrel.used id hu; show id < s1.nxt; rw [hnx1]; omega, hrel.heap⟩
      obtain ⟨gb, R0, hsb⟩ := hwk ga aa wa hr1
      have hstb := hst.trans hsb
      -- the temporaries
      obtain ⟨n1, n2, n3, n4, n5, n6, n7, n8, n9, n10, n11, n12⟩ := ht
      have hsz := R0.size
      have htm0 := R0.tmp tm
      have htk0 := R0.tmp tk
      have htx0 := R0.tmp tx
      rw [hm] at htm0
      rw [hk] at htk0
      obtain ⟨L, hL, hok⟩ := R0.heap.own id o ho
      have hmv : (L.virt = false ∧ L.map = true) ∧ aa.tmps.getD tm undef = .map (some L.blk) := by
        simp only [RepA] at htm0
        exact htm0.2 L hL
      obtain ⟨hv, hmv⟩ := hmv
      have hu : P.underlying T = some (.map kt et) := kind_map (hc.ok T ti hT) hTk
      have hkv : RepD gb.ro wa k (aa.tmps.getD tk undef) := by simpa only [RepA] using htk0
      -- the entry
      obtain ⟨w1, gc, val, es1, clock1, j, en, run1, H1, S1, L1, U1, hL1, hb1, hst1, hj1, hkey1, hval1, hpos1⟩ := entry_run R0.heap hu (hc.ok kt kti hkt) (hc.ok et eti het) hz ho hL hv hf hkv hlk hp
      have ex1 : (execOp aa.eval o1).run P wa = .ok (.value (.tuple #[val, goInt en.born])) w1 := by
        simp only [execOp, h1, Act.eval, hmv, Sem.run_bind, run1, Result.andThen_ok, Sem.run_pure]
      have R1 := rel_put (U' := (· < I.nxt)) (dst := some t1) (v := .any) (u := .tuple #[val, goInt en.born]) R0 H1 L1 (fun k hk => R0.used k (U1 k hk)) (by simp [RepA]) (fun d hd => by cases hd; exact hn.1)
      -- its value
      have ev1 : (aa.put (some t1) (.tuple #[val, goInt en.born])).tmps.getD t1 undef = .tuple #[val, goInt en.born] := put_get_same (by rw [hsz]; exact hn.1)
      have ex2 : (execOp (aa.put (some t1) (.tuple #[val, goInt en.born])).eval o2).run P w1 = .ok (.value val) w1 := by
        simp only [execOp, h2, Act.eval, ev1]
        simp [Instr.extract]
      have same1 : Later gc w1 gc w1 := ⟨fun b hb => ⟨hb, rfl⟩, fun _ hx => hx, fun _ _ => .inl rfl⟩
      have R2 := rel_put (U' := (· < I.nxt)) (dst := some t2) (v := .any) (u := val) R1 R1.heap same1 (fun k hk => R1.used k hk) (by simp [RepA]) (fun d hd => by cases hd; exact hn.2.1)
      -- the append
      have hxv : RepA gc w1 (I.get tx) (aa.tmps.getD tx undef) := RepA.later L1 _ _ (R0.tmp tx)
      have hnid : ¬ gc.used I.nxt := fun hx => absurd (R1.used _ hx) (Nat.lt_irrefl _)
      obtain ⟨v', w2, run3, hfr, gd, H3, S3, L3, U3, hv3⟩ := append_sound_fr (ty := 0) (hc.ok S si hS) hSk (hc.ok e te he) hpos hbpos R1.heap hnid hval1 hxv hd hp1 hsrc hp2 hb
      have ev2 : ((aa.put (some t1) (.tuple #[val, goInt en.born])).put (some t2) val).tmps.getD t2 undef = val := put_get_same (by rw [put_size, hsz]; exact hn.2.1)
      have evx : ((aa.put (some t1) (.tuple #[val, goInt en.born])).put (some t2) val).tmps.getD tx undef = aa.tmps.getD tx undef := by rw [put_get_ne n6, put_get_ne n5]
      have ex3 : (execOp ((aa.put (some t1) (.tuple #[val, goInt en.born])).put (some t2) val).eval o3).run P w1 = .ok (.value v') w2 := by
        have hb : ∀ t cs, builtin .append c.argTypes t cs (c.args.map ((aa.put (some t1) (.tuple #[val, goInt en.born])).put (some t2) val).eval) = (do pure (.value (← Builtin.append_ #[S, S] 0 #[val, aa.tmps.getD tx undef]))) := by
          intro t cs
          have : c.args.map ((aa.put (some t1) (.tuple #[val, goInt en.born])).put (some t2) val).eval = #[val, aa.tmps.getD tx undef] := by
            rw [hcx]
            simp only [List.map_toArray, List.map_cons, List.map_nil, Act.eval, ev2, evx]
          rw [this]
          simp only [builtin, hca]
          rfl
        simp only [execOp, h3, resolve, hcb, pure_bind, invoke, hb, Sem.run_bind, run3, Result.andThen_ok, Sem.run_pure]
      have R3 := rel_put (U' := (· < I.nxt + 1)) (dst := some t3) (v := .hs I.nxt 0 (r1.length + r2.length)) (u := v') R2 H3 L3 (fun k hk => (U3 k hk).elim (fun h => by have h9 : k < I.nxt := R1.used k h; omega) fun h => by omega) hv3 (fun d hd => by cases hd; exact hn.2.2.1)
      -- the stamp
      have ev3 : (((aa.put (some t1) (.tuple #[val, goInt en.born])).put (some t2) val).put (some t3) v').tmps.getD t1 undef = .tuple #[val, goInt en.born] := by rw [put_get_ne n8.symm, put_get_ne n7.symm, ev1]
      have ex4 : (execOp (((aa.put (some t1) (.tuple #[val, goInt en.born])).put (some t2) val).put (some t3) v').eval o4).run P w2 = .ok (.value (goInt en.born)) w2 := by
        simp only [execOp, h4, Act.eval, ev3]
        simp [Instr.extract]
      have same2 : Later gd w2 gd w2 := ⟨fun b hb => ⟨hb, rfl⟩, fun _ hx => hx, fun _ _ => .inl rfl⟩
      have R4 := rel_put (U' := (· < I.nxt + 1)) (dst := some t4) (v := .any) (u := goInt en.born) R3 R3.heap same2 (fun k hk => R3.used k hk) (by simp [RepA]) (fun d hd => by cases hd; exact hn.2.2.2)
      -- the store
      have hLb : L.blk < wa.heap.size := ((R0.heap.live id L hL).2 hv.1).1
      have hne : some L.blk ≠ val.ownBlock := by
        rcases hr with rfl | ⟨i, n', rfl⟩
        · simp only [Option.getD_none, RepA] at hval1
          rw [hval1]; simp [Value.ownBlock]
        · simp only [Option.getD_some] at hval1
          simp only [RepA] at hval1
          cases hgi : gc.loc i with
          | none =>
            simp only [Option.getD_some, dstRows] at hd
            cases hoi : upd1 I.obj id (some ⟨o.elem, o.m, rows1⟩) i with
            | none => rw [hoi] at hd; cases hd
            | some oi =>
              obtain ⟨M, hM, _⟩ := H1.own i oi hoi
              rw [hgi] at hM; cases hM
          | some M =>
            rcases hval1.2 M hgi with ⟨_, _, h0, _⟩ | ⟨hMv, _, hval⟩
            · omega
            · rw [hval]
              simp only [Value.ownBlock, ne_eq, Option.some.injEq]
              intro e
              have : id = i := H1.inj id i L M hL1 hgi hv.1 hMv.1 e
              subst this
              rw [hL1] at hgi; cases hgi
              rw [hv.2] at hMv; cases hMv.2
      have hb2 : w2.heap[L.blk]? = some (.map es1 clock1) := by rw [hfr L.blk (Nat.lt_of_lt_of_le hLb S1.size) hne, hb1]
      have hL2 : gd.loc id = some L := by
        rcases L3.loc id (H1.live id L hL1).1 with e' | e'
        · rw [e', hL1]
        · obtain ⟨M, hM, _⟩ := H3.own id _ hwr
          rw [hM] at e'; cases e'
      have hkv2 : RepD gd.ro w2 k (aa.tmps.getD tk undef) := by
        have h9 := RepA.later L3 _ _ (RepA.later L1 _ _ htk0)
        simpa only [RepA] using h9
      obtain ⟨w3, gf, run5, H5, S5, L5, U5⟩ := entry_store (t := T) H3 hwr hL2 hv hb2 hj1 hkv2 hkey1 hv3 hpos1
      have hrows3 : rows1.set j [.d k, .hs I.nxt 0 (r1.length + r2.length)] = rows3 := by
        unfold putR at hp3
        rw [hpos1] at hp3
        simpa using hp3
      simp only at H5
      rw [hrows3] at H5
      have evs : ((((aa.put (some t1) (.tuple #[val, goInt en.born])).put (some t2) val).put (some t3) v').put (some t4) (goInt en.born)).tmps.getD t4 undef = goInt en.born := put_get_same (by rw [put_size, put_size, put_size, hsz]; exact hn.2.2.2)
      have evv : ((((aa.put (some t1) (.tuple #[val, goInt en.born])).put (some t2) val).put (some t3) v').put (some t4) (goInt en.born)).tmps.getD t3 undef = v' := by
        rw [put_get_ne n12.symm]; exact put_get_same (by rw [put_size, put_size, hsz]; exact hn.2.2.1)
      have evm : ((((aa.put (some t1) (.tuple #[val, goInt en.born])).put (some t2) val).put (some t3) v').put (some t4) (goInt en.born)).tmps.getD tm undef = .map (some L.blk) := by
        rw [put_get_ne n4, put_get_ne n3, put_get_ne n2, put_get_ne n1, hmv]
      have ex5 : (execOp ((((aa.put (some t1) (.tuple #[val, goInt en.born])).put (some t2) val).put (some t3) v').put (some t4) (goInt en.born)).eval o5).run P w2 = .ok .skip w3 := by
        simp only [execOp, h5, Act.eval, evs, evv, evm, Sem.run_bind]
        rw [run5]
        rfl
      have R5 := rel_put (U' := (· < I.nxt + 1)) (dst := none) (v := .any) (u := undef) R4 H5 L5 (fun k hk => R4.used k (U5 k hk)) (by simp [RepA]) (fun d hd => by cases hd)
      simp only [wpList]
      rw [if_pos (by simp [Region.wanted, g1])]
      left
      unfold Oper.wp
      rw [ex1, Oper.upon_value, d1]
      rw [if_pos (by simp [Region.wanted, g2])]
      left
      rw [ex2, Oper.upon_value, d2]
      rw [if_pos (by simp [Region.wanted, g3])]
      left
      rw [ex3, Oper.upon_value, d3]
      rw [if_pos (by simp [Region.wanted, g4])]
      left
      rw [ex4, Oper.upon_value, d4]
      rw [if_pos (by simp [Region.wanted, g5])]
      left
      rw [ex5, Oper.upon_skip, d5]
      refine ⟨_, gf, ?_, ((hstb.trans S1).trans S3).trans S5, hQ⟩
      refine R5.congr (fun t => ?_) fun x => ?_
      · simp only [putG, St.get, find, Option.some.injEq, reduceCtorEq, if_false]
        by_cases e4 : t4 = t
        · subst e4; simp
        · simp only [e4, if_false]
          by_cases e3 : t3 = t
          · simp [e3]
          · simp only [e3, if_false]
            by_cases e2 : t2 = t
            · simp [e2]
            · simp only [e2, if_false]
              by_cases e1 : t1 = t <;> simp [e1]
      · simp only [St.obj, find]
        unfold upd1
        by_cases ex : id = x
        · subst ex; simp
        · rw [if_neg ex, if_neg (Ne.symm ex)]
          have := find_pushL (wr ++ [(I.nxt, some ⟨e, te.size, r1 ++ r2⟩)]) ((id, some ⟨o.elem, o.m, rows1⟩) :: I.hp) x
          rw [this]
          congr 1
          funext y
          simp only [find, upd1, St.obj]
          by_cases ey : id = y
          · subst ey; simp
          · rw [if_neg ey, if_neg (Ne.symm ey)]
  have := wpOps_eq_wpList (P := P) (ops := l.toArray) (Q := fun e a' w' => ∃ s' g', RelS s' g' a' w' ∧ Step g w g' w' ∧ Q e s') l 0 (by intro j; simp)
  rw [show List.range l.toArray.size = List.range' 0 l.length by simp [List.range_eq_range'], this]
  exact key
end Go.Abs

namespace Go.Abs
variable [Flag]
open Go.RowKit

abbrev KL := List (D × List (List D))
def mrows (ids : List Nat) (A : KL) : List (List AV) := List.zipWith (fun x p => [AV.d p.1, AV.hs x 0 p.2.length]) ids A
def SA (A : KL) : List (List (List D)) := A.map (·.2)
def mdata (A : KL) : List (List D) := A.map fun p => [p.1, .sl p.2]
theorem SA_length (A : KL) : (SA A).length = A.length := by simp [SA]
theorem mrows_length {ids : List Nat} {A : KL} (h : ids.length = A.length) : (mrows ids A).length = A.length := by simp [mrows, h]
theorem mrows_get {ids : List Nat} {A : KL} {k x : Nat} {p : D × List (List D)} (h1 : ids[k]? = some x) (h2 : A[k]? = some p) : (mrows ids A)[k]? = some [.d p.1, .hs x 0 p.2.length] := by
  simp [mrows, List.getElem?_zipWith, h1, h2]
theorem mrows_get' {ids : List Nat} {A : KL} {k : Nat} {r : List AV} (h : (mrows ids A)[k]? = some r) : ∃ x p, ids[k]? = some x ∧ A[k]? = some p ∧ r = [.d p.1, .hs x 0 p.2.length] := by
  unfold mrows at h
  rw [List.getElem?_zipWith] at h
  cases h1 : ids[k]? with
  | none => rw [h1] at h; simp at h
  | some x =>
    cases h2 : A[k]? with
    | none => rw [h1, h2] at h; simp at h
    | some p => rw [h1, h2] at h; simp at h; exact ⟨x, p, rfl, rfl, h.symm⟩
theorem upR_m {σ0 : List (Nat × Option Nat)} (hlow : (σ0.all fun x => Nat.blt x.1 1000000) = true) {ns : List Nat} {A : KL} (h : ns.length = A.length) : upR (σ0 ++ dynN 0 ns) (mrows (idsN A.length) A) = some (mrows ns A) := by
  refine upR_of (by rw [mrows_length (by rw [idsN_length]), mrows_length h]) fun i r q hr hq => ?_
  obtain ⟨x, l, h1, h2, rfl⟩ := mrows_get' hr
  obtain ⟨y, l', h3, h4, rfl⟩ := mrows_get' hq
  obtain ⟨hk, rfl⟩ := idsN_get' h1
  rw [h2] at h4
  cases h4
  simp [upL, up, find_app, find_lowN hlow (show 1000000 ≤ 1000000 + i by omega), find_dynN0, h3]
def dynM : Nat → List Nat → List (Nat × Nat)
  | _, [] => []
  | k, x :: r => (1000000 + k, x) :: dynM (k + 1) r
theorem find_dynM : ∀ (S : List Nat) (k i : Nat), find (dynM k S) i = if 1000000 + k ≤ i then S[i - (1000000 + k)]? else none
  | [], k, i => by simp [dynM, find]
  | x :: S, k, i => by
    simp only [dynM, find]
    by_cases h : 1000000 + k = i
    · rw [if_pos h, if_pos (by omega), show i - (1000000 + k) = 0 by omega]; rfl
    · rw [if_neg h, find_dynM S (k + 1) i]
      by_cases h2 : 1000000 + (k + 1) ≤ i
      · rw [if_pos h2, if_pos (by omega), show i - (1000000 + k) = (i - (1000000 + (k + 1))) + 1 by omega]; rfl
      · rw [if_neg h2, if_neg (by omega)]
theorem find_dynM0 (S : List Nat) (j : Nat) : find (dynM 0 S) (1000000 + j) = S[j]? := by
  rw [find_dynM, if_pos (by omega), show 1000000 + j - (1000000 + 0) = j by omega]
theorem dynM_fst : ∀ (S : List Nat) (k : Nat), (dynM k S).map (·.1) = List.range' (1000000 + k) S.length
  | [], k => rfl
  | x :: S, k => by simp only [dynM, List.map_cons, List.length_cons, List.range'_succ, dynM_fst S (k + 1)]; rfl
theorem dynM_snd : ∀ (S : List Nat) (k : Nat), (dynM k S).map (·.2) = S
  | [], k => rfl
  | x :: S, k => by simp [dynM, dynM_snd S]
theorem rnR_m {ρ0 : List (Nat × Nat)} (hlow : ∀ x, 1000000 ≤ x → find ρ0 x = none) {ns : List Nat} {A : KL} (h : ns.length = A.length) : rnR (ρ0 ++ dynM 0 ns) (mrows (idsN A.length) A) = some (mrows ns A) := by
  refine rnR_of (by rw [mrows_length (by rw [idsN_length]), mrows_length h]) fun i r q hr hq => ?_
  obtain ⟨x, l, h1, h2, rfl⟩ := mrows_get' hr
  obtain ⟨y, l', h3, h4, rfl⟩ := mrows_get' hq
  obtain ⟨hk, rfl⟩ := idsN_get' h1
  rw [h2] at h4
  cases h4
  simp [rnL, rn, find_app, hlow (1000000 + i) (by omega), find_dynM0, h3]

def mapP (eo e m : Nat) (A : KL) : List (Nat × Ob) := (0, ⟨eo, mapM, mrows (idsN A.length) A⟩) :: dynP e m 0 (SA A)

theorem rx_map {ty : TypeId → Option TI} {rs : List ResultVar} {n : Nat} {Ls : Nat → Loc} {s : St} {eo e m : Nat} {A : KL} {ns : List Nat} {rows : List (List AV)} {r : AV} {ex : Exit} (hex : ex = .ret ∨ ex = .normal) (hl : ∃ l, resAs ty s rs = some l ∧ ∀ ρ, rnsOk ρ [r] [oneOf l]) (hO : s.obj 0 = some ⟨eo, mapM, rows⟩) (hlen : ns.length = A.length) (hrows : rows = mrows ns A)
    (hns : ns.Nodup) (h0 : 0 ∉ ns) (hS : ∀ (j : Nat) (x : Nat) (p : D × List (List D)), ns[j]? = some x → A[j]? = some p → s.obj x = some ⟨e, m, dr p.2⟩) (hpin : s.get (n + 0) = .pin 0 (Ls 0)) : retX ty rs n [(0, 0)] (mapP eo e m A) r Ls ex s := by
  subst hrows
  have main : ∃ ρ : List (Nat × Nat), match resAs ty s rs with
    | some l => rnsOk ρ [r] [oneOf l] ∧ hpOk s.obj ρ (mapP eo e m A) ∧ nodupB (ρ.map (·.2)) = true ∧ ρ.map (·.1) = (mapP eo e m A).map (·.1) ∧ pinsOk s ρ n Ls [(0, 0)]
    | none => False := by
    refine ⟨[(0, 0)] ++ dynM 0 ns, ?_⟩
    obtain ⟨l, hl1, hl2⟩ := hl
    rw [hl1]
    refine ⟨hl2 _, ?_, ?_, ?_, ?_⟩
    · simp only [mapP, hpOk]
      refine ⟨?_, ?_⟩
      · simp only [List.cons_append, find, if_true, hO]
        refine ⟨trivial, trivial, ?_⟩
        have := rnR_m (ρ0 := [(0, 0)]) (fun x hx => by simp only [find]; rw [if_neg (by omega)]) hlen
        exact this
      · have key : ∀ (T : KL) (k : Nat), (∀ j p, T[j]? = some p → ∃ x, ns[k + j]? = some x ∧ s.obj x = some ⟨e, m, dr p.2⟩) → hpOk s.obj ([(0, 0)] ++ dynM 0 ns) (dynP e m k (SA T)) := by
          intro T
          induction T with
          | nil => intro k _; trivial
          | cons p T ih =>
            intro k hk
            simp only [SA, List.map_cons, dynP, hpOk]
            refine ⟨?_, ih (k + 1) (fun j p' hp => by have := hk (j + 1) p' (by simpa using hp); rwa [show k + (j + 1) = k + 1 + j by omega] at this)⟩
            obtain ⟨x, hx, ho⟩ := hk 0 p rfl
            have hf : find ([(0, 0)] ++ dynM 0 ns) (1000000 + k) = some x := by
              simp only [List.cons_append, List.nil_append, find]
              rw [if_neg (by omega), find_dynM0]
              simpa using hx
            rw [hf]
            simp only [ho]
            exact ⟨trivial, trivial, rnR_dr _ _⟩
        refine key A 0 fun j p hp => ?_
        have hj : j < ns.length := by rw [hlen]; exact (List.getElem?_eq_some_iff.1 hp).1
        exact ⟨_, by rw [Nat.zero_add]; exact List.getElem?_eq_getElem hj, hS j _ p (List.getElem?_eq_getElem hj) hp⟩
    · refine nodupB_of ?_
      rw [List.map_append, dynM_snd]
      exact List.nodup_cons.2 ⟨h0, hns⟩
    · simp only [mapP, List.map_append, List.map_cons, List.map_nil, dynM_fst, dynP_fst, SA_length, hlen]; rfl
    · simp only [pinsOk, List.cons_append, find, if_true]
      exact ⟨⟨hpin, by rw [hO]; rfl⟩, trivial⟩
  rcases hex with rfl | rfl
  · exact main
  · exact main

theorem px_of_awp_map {P : Program} {ty : TypeId → Option TI} (hc : Ctx P ty) {f : FuncId} {fn : Func} {c : Code} {avs : List AV} {eo e m : Nat} {A : KL} {hp' : List (Nat × Ob)} {r : AV}
    (hf : P.funcs[f]? = some fn) (hb : fn.body = some c) (hname : (fn.name == "runtime.NumGoroutine") = false) (hn : avs.length ≤ fn.ntmps) (hA : A.length ≤ 1000000000)
    (h : ∀ Ls : Nat → Loc, AWp P c (retX ty fn.results.toList fn.ntmps [(0, 0)] hp' r Ls) ⟨fn.ntmps, addAVs 0 avs (pinTm fn.ntmps Ls [(0, 0)]), (0, some ⟨eo, mapM, mrows (idsN A.length) A⟩) :: dyn e m 0 (SA A), 1000000000000⟩) : PX P f avs (mapP eo e m A) [(0, 0)] hp' r := by
  refine px_of_awp hc 1000000000000 hf hb hname hn ?_ rfl fun Ls => ?_
  · rw [List.all_eq_true]
    intro x hx
    simp only [mapP, List.mem_cons] at hx
    rcases hx with rfl | hx
    · rfl
    · have h1 : x.1 ∈ (dynP e m 0 (SA A)).map (·.1) := List.mem_map.2 ⟨x, hx, rfl⟩
      rw [dynP_fst] at h1
      obtain ⟨i, h2, h3⟩ := List.mem_range'.1 h1
      rw [SA_length] at h2
      exact Nat.ble_eq_true_of_le (by omega)
  · refine awp_weak (weak_ext (s' := ⟨fn.ntmps, addAVs 0 avs (pinTm fn.ntmps Ls [(0, 0)]), (0, some ⟨eo, mapM, mrows (idsN A.length) A⟩) :: dyn e m 0 (SA A), 1000000000000⟩) rfl (fun t => rfl) (fun x => ?_) (Nat.le_refl _)) (h Ls)
    simp only [St.obj, startX, obs_find, mapP, find]
    by_cases h0 : 0 = x
    · subst h0; simp
    · rw [if_neg h0, if_neg h0]
      rw [find_dyn, find_dynP]
      split
      · cases (SA A)[x - (1000000 + 0)]? <;> rfl
      · rfl

theorem weak_map {s : St} {n : Nat} {tm : List (Nat × AV)} {eo e m : Nat} {A : KL} (σ0 : List (Nat × Option Nat)) (ns : List Nat) (H0 : List (Nat × Option Ob)) (M M0 : Nat)
    (hlow : (σ0.all fun x => Nat.blt x.1 1000000) = true) (hlow1 : Nat.blt M 1000000 = true) (hlow2 : (H0.all fun x => Nat.blt x.1 1000000) = true) (hA : A.length ≤ 1000000000) (hlen : ns.length = A.length) (hn : n = s.n)
    (htm : upT (σ0 ++ dynN 0 ns) s tm) (hM : find σ0 M = some (some M0)) (hobj : s.obj M0 = some ⟨eo, mapM, mrows ns A⟩) (hh : upH (σ0 ++ dynN 0 ns) s H0) (hnm : namesOk ⟨n, tm, (M, some ⟨eo, mapM, mrows (idsN A.length) A⟩) :: H0, 1000000000000⟩ σ0)
    (ho : (olds σ0).Nodup) (hns : ns.Nodup) (hd : ∀ x ∈ ns, x ∉ olds σ0) (hS : ∀ (j : Nat) (x : Nat) (p : D × List (List D)), ns[j]? = some x → A[j]? = some p → s.obj x = some ⟨e, m, dr p.2⟩) :
    Weak s ⟨n, tm, (M, some ⟨eo, mapM, mrows (idsN A.length) A⟩) :: H0 ++ dyn e m 0 (SA A), 1000000000000⟩ := by
  refine weak_dyn σ0 ns ((M, some ⟨eo, mapM, mrows (idsN A.length) A⟩) :: H0) (SA A) hlow ?_ (by rw [SA_length]; omega) (by rw [hlen, SA_length]) hn htm ?_ hnm ho hns hd ?_
  · simp only [List.all_cons, Bool.and_eq_true]; exact ⟨hlow1, hlow2⟩
  · simp only [upH]
    refine ⟨?_, hh⟩
    have hf : find (σ0 ++ dynN 0 ns) M = some (some M0) := by rw [find_app, hM]; rfl
    rw [hf]
    exact ⟨_, hobj, rfl, rfl, upR_m hlow hlen⟩
  · intro j r x hr hx
    simp only [SA, List.getElem?_map, Option.map_eq_some_iff] at hr
    obtain ⟨p, hp, rfl⟩ := hr
    exact hS j x p hx hp

def dynF (B : Nat) : Nat → Nat → List (Nat × Nat)
  | _, 0 => []
  | k, n + 1 => (B + k, 1000000 + k) :: dynF B (k + 1) n
theorem find_dynF (B : Nat) : ∀ (n k x : Nat), find (dynF B k n) x = if B + k ≤ x ∧ x < B + k + n then some (1000000 + (x - B)) else none
  | 0, k, x => by simp only [dynF, find]; rw [if_neg (by omega)]
  | n + 1, k, x => by
    simp only [dynF, find]
    by_cases h : B + k = x
    · rw [if_pos h, if_pos (by omega), show x - B = k by omega]
    · rw [if_neg h, find_dynF B n (k + 1) x]
      by_cases h2 : B + (k + 1) ≤ x ∧ x < B + (k + 1) + n
      · rw [if_pos h2, if_pos (by omega)]
      · rw [if_neg h2, if_neg (by omega)]
theorem dynF_fst (B : Nat) : ∀ (n k : Nat), (dynF B k n).map (·.1) = List.range' (B + k) n
  | 0, k => rfl
  | n + 1, k => by simp only [dynF, List.map_cons, List.range'_succ, dynF_fst B n (k + 1)]; rfl
theorem dynF_snd (B : Nat) : ∀ (n k : Nat), (dynF B k n).map (·.2) = List.range' (1000000 + k) n
  | 0, k => rfl
  | n + 1, k => by simp only [dynF, List.map_cons, List.range'_succ, dynF_snd B n (k + 1)]; rfl
theorem swp_dynF (B : Nat) : ∀ (n k x : Nat), find (swp (dynF B k n)) x = if 1000000 + k ≤ x ∧ x < 1000000 + k + n then some (B + (x - 1000000)) else none
  | 0, k, x => by simp only [dynF, swp, find]; rw [if_neg (by omega)]
  | n + 1, k, x => by
    simp only [dynF, swp, find]
    by_cases h : 1000000 + k = x
    · rw [if_pos h, if_pos (by omega), show x - 1000000 = k by omega]
    · rw [if_neg h, swp_dynF B n (k + 1) x]
      by_cases h2 : 1000000 + (k + 1) ≤ x ∧ x < 1000000 + (k + 1) + n
      · rw [if_pos h2, if_pos (by omega)]
      · rw [if_neg h2, if_neg (by omega)]
def idsB (B n : Nat) : List Nat := (List.range n).map fun k => B + k
theorem idsB_get {B n k : Nat} (h : k < n) : (idsB B n)[k]? = some (B + k) := by simp [idsB, h]
theorem idsB_get' {B n k x : Nat} (h : (idsB B n)[k]? = some x) : k < n ∧ x = B + k := by
  have hk : k < n := by have := (List.getElem?_eq_some_iff.1 h).1; simpa [idsB] using this
  rw [idsB_get hk] at h
  cases h; exact ⟨hk, rfl⟩
theorem idsB_length (B n : Nat) : (idsB B n).length = n := by simp [idsB]
theorem upH_congr {σ : List (Nat × Option Nat)} {s s' : St} : ∀ {H : List (Nat × Option Ob)}, (∀ k old, (∃ o, (k, some o) ∈ H) → find σ k = some (some old) → s'.obj old = s.obj old) → upH σ s H → upH σ s' H
  | [], _, _ => trivial
  | (k, none) :: H, h, hu => by
    simp only [upH] at hu ⊢
    exact upH_congr (fun k' old ⟨o, hm⟩ hf => h k' old ⟨o, by simp [hm]⟩ hf) hu
  | (k, some o) :: H, h, hu => by
    simp only [upH] at hu ⊢
    refine ⟨?_, upH_congr (fun k' old ⟨o, hm⟩ hf => h k' old ⟨o, by simp [hm]⟩ hf) hu.2⟩
    cases hf : find σ k with
    | none => have := hu.1; rw [hf] at this; exact this
    | some q =>
      cases q with
      | none => have := hu.1; rw [hf] at this; exact this
      | some old =>
        have := hu.1
        rw [hf] at this
        simp only at this ⊢
        obtain ⟨o0, k1, k2⟩ := this
        exact ⟨o0, by rw [h k old ⟨o, by simp⟩ hf]; exact k1, k2⟩
theorem upT_congr {σ : List (Nat × Option Nat)} {s s' : St} (h : ∀ t, s'.get t = s.get t) : ∀ {tm : List (Nat × AV)}, upT σ s tm → upT σ s' tm
  | [], _ => trivial
  | (t, v) :: r, hu => by
    simp only [upT] at hu ⊢
    refine ⟨?_, upT_congr h hu.2⟩
    have := hu.1
    cases v <;> simp only [h] at this ⊢ <;> exact this

theorem awp_region_map {P : Program} {ty : TypeId → Option TI} (hc : Ctx P ty) (orc : List (Nat × Res)) {id : Nat} {l : List Oper} (pre : List Oper) (o : Oper) (hl : l = pre ++ [o]) (hg : o.guard = none) {cl : Call} {fo : Operand} (ho : o.op = .call cl) (hcal : cl.callee = .value fo)
    (I : St) (f : FuncId) (caps : List AV) (hf : calleeA (I.eval fo) = some (f, caps)) (av : List AV) {eo e m : Nat} (A A' : KL) (M : Nat)
    (hobjM : I.obj M = some ⟨eo, mapM, mrows (idsN A.length) A⟩) (hMl : M < 1000000) (hobjS : ∀ j, I.obj (1000000 + j) = ((SA A)[j]?).map fun r => ⟨e, m, dr r⟩) (hnx : 1000000000000 ≤ I.nxt)
    (hpx : PX P f av (mapP eo e m A) [(0, 0)] (mapP eo e m A') (.tup [])) (hA : A.length ≤ 1000000000) (hA' : A'.length ≤ 1000000000) (has : rnsOk ((0, M) :: dynM 0 (idsN A.length)) av (cl.args.toList.map I.eval ++ caps)) (hd : match o.dst with | some d => d < I.n | none => True)
    (σ0 : List (Nat × Option Nat)) (tm' : List (Nat × AV)) (H' : List (Nat × Option Ob)) (hlow : (σ0.all fun x => Nat.blt x.1 1000000) = true) (hlowo : ((olds σ0).all fun x => Nat.blt x 1000000) = true) (hlow2 : (H'.all fun x => Nat.blt x.1 1000000) = true) (hMσ : find σ0 M = some (some M)) (hHM : ∀ k, k ≠ M → find σ0 k ≠ some (some M))
    (hHk : (H'.all fun x => !Nat.beq x.1 M) = true)
    (htm : upT (σ0 ++ dynN 0 (idsB I.nxt A'.length)) (I.put o.dst (.tup [])) tm') (hh : upH (σ0 ++ dynN 0 (idsB I.nxt A'.length)) I H')
    (hnm : namesOk ⟨I.n, tm', (M, some ⟨eo, mapM, mrows (idsN A'.length) A'⟩) :: H', 1000000000000⟩ σ0) (hod : (olds σ0).Nodup) {Q : Exit → St → Prop} {s : St}
    (h1 : ∀ K : St → Prop, (∀ s', Weak s' I → K s') → wpT ty P orc (l.map (·.dst)) s.nxt 0 pre { s with nxt := s.nxt + l.length } K)
    (h2 : Q .normal ⟨I.n, tm', (M, some ⟨eo, mapM, mrows (idsN A'.length) A'⟩) :: H' ++ dyn e m 0 (SA A'), 1000000000000⟩) : AWp P (.region id l.toArray false) Q s := by
  intro g a w hr
  refine wp_region ?_
  have hgs : ∀ j : Nat, (l.map (·.dst))[j]? = (l.toArray[j]?).map fun o : Oper => o.dst := by intro j; simp
  have hlen : l.length = pre.length + 1 := by rw [hl]; simp
  have key : wpList P l.toArray (fun e a' w' => ∃ s' g', RelS s' g' a' w' ∧ Step g w g' w' ∧ Q e s') l a w := by
    have h3 := wpT_sound2 (P := P) hc (orc := orc) (gs := l.map (·.dst)) (ops := l.toArray) hgs (base := s.nxt) (nxt := s.nxt + l.length)
      (Q := fun e a' w' => ∃ s' g', RelS s' g' a' w' ∧ Step g w g' w' ∧ Q e s') (g0 := g) (w0 := w) (l2 := [o]) (en := pre.length) (n0 := s.n) (K := fun s1 => Weak s1 I) ?_ pre 0 { s with nxt := s.nxt + l.length } g a w (by simp) rfl rfl ⟨hr.defers, hr.size, hr.tmp, fun id hu => by have := hr.used id hu; simpa using this, hr.heap⟩ (Step.refl g w) (h1 _ fun _ hq => hq)
    · rw [← hl] at h3; exact h3
    · intro s1 g1 a1 w1 hnx1 hn0 hrel hst hk
      simp only [wpList]
      rw [if_pos (by simp [Region.wanted, hg])]
      left
      have hr1 : RelS s1 g1 a1 w1 := ⟨hrel.defers, hrel.size, hrel.tmp, fun id hu => by have := hrel.used id hu; show id < s1.nxt; rw [hnx1]; omega, hrel.heap⟩
      obtain ⟨g2, hr2, hs2'⟩ := hk g1 a1 w1 hr1
      have hev : ∀ x : Operand, RepA g2 w1 (I.eval x) (a1.eval x) := fun x => eval_rep hr2 (fun _ => rfl) x
      have hargs : RepAs g2 w1 (cl.args.toList.map I.eval) (cl.args.toList.map a1.eval) := by
        refine RepAs.of_get (by simp) fun j av hj => ?_
        rw [List.getElem?_map] at hj ⊢
        cases hx : cl.args.toList[j]? with
        | none => rw [hx] at hj; cases hj
        | some x => rw [hx] at hj; cases hj; exact ⟨a1.eval x, rfl, hev x⟩
      have hfv : ∃ cs : List Value, a1.eval fo = .func (.func f) #[] cs.toArray ∧ RepAs g2 w1 caps cs := by
        have hfv := hev fo
        unfold calleeA at hf
        split at hf
        · rename_i heq
          cases hf
          rw [heq] at hfv
          simp only [RepA, RepD] at hfv
          obtain ⟨cs, h1, h2⟩ := hfv
          exact ⟨cs, h1, RepAs.of_ds h2⟩
        · rename_i heq
          split at hf
          case isFalse => cases hf
          rename_i hok
          cases hf
          rw [heq] at hfv
          exact clo_plain hok hfv
        · cases hf
      obtain ⟨cs, hcs, hrc⟩ := hfv
      obtain ⟨fn, hfn, hname, hbody⟩ := hpx.1
      have hrun : (execOp a1.eval o).run P w1 = .ok (.enter f ((cl.args.toList.map a1.eval) ++ cs).toArray) w1 := by
        unfold execOp
        simp only [ho, resolve, hcal, Deferred.ofValue, hcs, Sem.run_bind, Sem.run_pure, Result.andThen_ok, invoke, callFunc, run_program, hfn, hname, hbody, Bool.false_eq_true, if_false]
        congr 2
        simp
      have hMB : M < I.nxt := by omega
      have hsf : ∀ i, i < A.length → find ((0, M) :: dynM 0 (idsN A.length)) (1000000 + i) = some (1000000 + i) := fun i hi => by
        simp only [find]
        rw [if_neg (by omega), find_dynM0, idsN_get hi]
      have ht1 : ((dynF I.nxt 0 A'.length ++ [(M, 0)] : List (Nat × Nat)).map (·.1)).Nodup := by
        rw [List.map_append, dynF_fst, List.nodup_append]
        refine ⟨List.nodup_range', by simp, fun x hx y hy => ?_⟩
        obtain ⟨i, h3, h4⟩ := List.mem_range'.1 hx
        simp at hy; subst hy; omega
      have ht2 : ((dynF I.nxt 0 A'.length ++ [(M, 0)] : List (Nat × Nat)).map (·.2)).Nodup := by
        rw [List.map_append, dynF_snd, List.nodup_append]
        refine ⟨List.nodup_range', by simp, fun x hx y hy => ?_⟩
        obtain ⟨i, h3, h4⟩ := List.mem_range'.1 hx
        simp at hy; subst hy; omega
      have hs2 : (((0, M) :: dynM 0 (idsN A.length) : List (Nat × Nat)).map (·.2)).Nodup := by
        rw [List.map_cons, dynM_snd]
        refine List.nodup_cons.2 ⟨fun h => ?_, idsN_nodup _⟩
        have := idsN_mem.1 h
        simp only at this; omega
      have hob : (effY P f ⟨(0, M) :: dynM 0 (idsN A.length), av, mapP eo e m A, [(0, 0)], none, mapP eo e m A', .tup []⟩ (dynF I.nxt 0 A'.length ++ [(M, 0)]) I.obj (cl.args.toList.map I.eval ++ caps)).ob := by
        refine ⟨⟨has, ?_, nodupB_of hs2, ?_, nodupB_of ht1, nodupB_of ht2⟩, hpx⟩
        · simp only [mapP, hpOk]
          refine ⟨?_, ?_⟩
          · simp only [find, if_true, hobjM]
            refine ⟨trivial, trivial, ?_⟩
            exact rnR_m (ρ0 := [(0, M)]) (fun x hx => by simp only [find]; rw [if_neg (by omega)]) (idsN_length _)
          · have key : ∀ (T : KL) (k : Nat), (∀ j p, T[j]? = some p → A[k + j]? = some p) → hpOk I.obj ((0, M) :: dynM 0 (idsN A.length)) (dynP e m k (SA T)) := by
              intro T
              induction T with
              | nil => intro k _; trivial
              | cons p T ih =>
                intro k hk
                simp only [SA, List.map_cons, dynP, hpOk]
                refine ⟨?_, ih (k + 1) (fun j p' hp => by have := hk (j + 1) p' (by simpa using hp); rwa [show k + (j + 1) = k + 1 + j by omega] at this)⟩
                have h0 := hk 0 p rfl
                rw [Nat.add_zero] at h0
                have hkl : k < A.length := (List.getElem?_eq_some_iff.1 h0).1
                have hok : I.obj (1000000 + k) = some ⟨e, m, dr p.2⟩ := by rw [hobjS k]; simp [SA, h0]
                rw [hsf k hkl]
                simp only [hok]
                exact ⟨trivial, trivial, rnR_dr _ _⟩
            exact key A 0 fun j p hp => by rw [Nat.zero_add]; exact hp
        · simp only [mapP, List.map_cons, dynM_fst, dynP_fst, SA_length, idsN_length]
      have hys := y_sound (N := fun x => I.nxt ≤ x ∧ x < I.nxt + A'.length) hr2.heap (fun x hx hu => by have h3 : x < I.nxt := hr2.used x hu; omega) (c := ⟨(0, M) :: dynM 0 (idsN A.length), av, mapP eo e m A, [(0, 0)], none, mapP eo e m A', .tup []⟩) (ti := dynF I.nxt 0 A'.length ++ [(M, 0)]) (fun x j hx => by
        rw [find_app, find_dynF] at hx
        by_cases h3 : I.nxt + 0 ≤ x ∧ x < I.nxt + 0 + A'.length
        · exact .inl (by omega)
        · rw [if_neg h3] at hx
          simp only [Option.none_or, find] at hx
          split at hx
          · rename_i e0
            cases hx
            exact .inr ⟨0, by simp, by rw [← e0]; simp [find]⟩
          · cases hx) (hargs.append hrc) hob
      refine does_calls hrun hys _ _ fun v w2 hAf => ?_
      obtain ⟨g3, k1, k2, k3, k4, k5⟩ := hAf
      have hput := rel_put (U' := fun x => x < I.nxt + A'.length) (dst := o.dst) hr2 k1 k3 (fun x hx => by
        rcases k4 x hx with hx | hx
        · have h3 : x < I.nxt := hr2.used x hx
          omega
        · omega) k5 (fun d hd' => by rw [hd'] at hd; exact hd)
      have hval : (effY P f ⟨(0, M) :: dynM 0 (idsN A.length), av, mapP eo e m A, [(0, 0)], none, mapP eo e m A', .tup []⟩ (dynF I.nxt 0 A'.length ++ [(M, 0)]) I.obj (cl.args.toList.map I.eval ++ caps)).val = .tup [] := by
        simp [effY, dn, dnL]
      rw [hval] at hput
      -- the objects behind the call
      have hobj2 : ∀ x, updL I.obj (gone ((0, M) :: dynM 0 (idsN A.length)) ++ back (swp (dynF I.nxt 0 A'.length ++ [(M, 0)])) (mapP eo e m A') (dynF I.nxt 0 A'.length ++ [(M, 0)])) x = match find (dynF I.nxt 0 A'.length ++ [(M, 0)]) x with
          | some j => (find (mapP eo e m A') j).map fun o => ⟨o.elem, o.m, dnR (swp (dynF I.nxt 0 A'.length ++ [(M, 0)])) o.rows⟩
          | none => if x ∈ ((0, M) :: dynM 0 (idsN A.length) : List (Nat × Nat)).map (·.2) then none else I.obj x := by
        intro x
        rw [updL_append, updL_get (by rw [back_keys]; exact ht1), updL_get (by rw [gone_keys]; exact hs2), back_find, gone_find]
        cases find (dynF I.nxt 0 A'.length ++ [(M, 0)]) x with
        | some j => rfl
        | none => simp only [Option.map_none, Option.getD_none]; split <;> rfl
      generalize hwr : (gone ((0, M) :: dynM 0 (idsN A.length)) ++ back (swp (dynF I.nxt 0 A'.length ++ [(M, 0)])) (mapP eo e m A') (dynF I.nxt 0 A'.length ++ [(M, 0)])) = wr at hobj2
      have hput' : Rel (fun x => x < I.nxt + A'.length) g3 (putG I.get o.dst (.tup [])) (updL I.obj wr) I.n (a1.put o.dst v) w2 := by
        have : (effY P f ⟨(0, M) :: dynM 0 (idsN A.length), av, mapP eo e m A, [(0, 0)], none, mapP eo e m A', .tup []⟩ (dynF I.nxt 0 A'.length ++ [(M, 0)]) I.obj (cl.args.toList.map I.eval ++ caps)).wr = wr := hwr
        rw [this] at hput
        exact hput
      have hnI : (I.put o.dst (.tup [])).n = I.n := by unfold St.put; cases o.dst <;> rfl
      have hgI : ∀ t, (⟨I.n, (I.put o.dst (.tup [])).tm, pushL I.hp wr, I.nxt + A'.length⟩ : St).get t = (I.put o.dst (.tup [])).get t := fun t => rfl
      have hoI : ∀ x, (⟨I.n, (I.put o.dst (.tup [])).tm, pushL I.hp wr, I.nxt + A'.length⟩ : St).obj x = updL I.obj wr x := fun x => by
        simp only [St.obj]
        exact find_pushL wr I.hp x
      have R2 : RelS ⟨I.n, (I.put o.dst (.tup [])).tm, pushL I.hp wr, I.nxt + A'.length⟩ g3 (a1.put o.dst v) w2 :=
        hput'.congr (fun t => by rw [hgI, St.get_put]) hoI
      have low : ∀ x, x < 1000000 → x ≠ M → updL I.obj wr x = I.obj x := fun x hx hxM => by
        rw [hobj2, find_app, find_dynF, if_neg (by omega)]
        simp only [Option.none_or, find]
        rw [if_neg (Ne.symm hxM)]
        simp only
        rw [if_neg]
        rw [List.map_cons, dynM_snd]
        intro h
        rcases List.mem_cons.1 h with h | h
        · exact hxM h
        · have := idsN_mem.1 h; omega
      have atM : updL I.obj wr M = some ⟨eo, mapM, mrows (idsB I.nxt A'.length) A'⟩ := by
        rw [hobj2, find_app, find_dynF, if_neg (by omega)]
        simp only [Option.none_or, find, if_true, mapP, Option.map_some]
        congr 2
        -- the names in the map's rows
        have : ∀ (x : List (List AV)) (y : List (List AV)), x.length = y.length → (∀ (i : Nat) (r q : List AV), x[i]? = some r → y[i]? = some q → dnL (swp (dynF I.nxt 0 A'.length ++ [(M, 0)])) r = q) → dnR (swp (dynF I.nxt 0 A'.length ++ [(M, 0)])) x = y := by
          intro x
          induction x with
          | nil => intro y hl _; cases y with
            | nil => rfl
            | cons b y => simp at hl
          | cons a x ih =>
            intro y hl hg
            cases y with
            | nil => simp at hl
            | cons b y =>
              have h1 := hg 0 a b rfl rfl
              have h2 := ih y (by simpa using hl) fun i r q hr hq => hg (i + 1) r q (by simpa using hr) (by simpa using hq)
              simp [dnR, h1, h2]
        refine this _ _ (by rw [mrows_length (idsN_length _), mrows_length (idsB_length _ _)]) fun i r q hr hq => ?_
        obtain ⟨x, p, h3, h4, rfl⟩ := mrows_get' hr
        obtain ⟨y, p', h5, h6, rfl⟩ := mrows_get' hq
        obtain ⟨hi, rfl⟩ := idsN_get' h3
        obtain ⟨_, rfl⟩ := idsB_get' h5
        rw [h4] at h6; cases h6
        have hsw : find (swp (dynF I.nxt 0 A'.length ++ [(M, 0)])) (1000000 + i) = some (I.nxt + i) := by
          have app : ∀ (a b : List (Nat × Nat)) (x : Nat), find (swp (a ++ b)) x = (find (swp a) x).or (find (swp b) x) := by
            intro a b x
            induction a with
            | nil => simp [swp, find]
            | cons y a ih =>
              simp only [List.cons_append, swp, find]
              split
              · rfl
              · exact ih
          rw [app, swp_dynF, if_pos (by omega)]
          simp
        simp only [dnL, dn, hsw]
      have atB : ∀ j, j < A'.length → ∀ p, A'[j]? = some p → updL I.obj wr (I.nxt + j) = some ⟨e, m, dr p.2⟩ := fun j hj p hp => by
        rw [hobj2, find_app, find_dynF, if_pos (by omega)]
        simp only [Option.some_or, mapP, find]
        rw [if_neg (by omega), show 1000000 + (I.nxt + j - I.nxt) = 1000000 + j by omega, find_dynP, if_pos (by omega), show 1000000 + j - (1000000 + 0) = j by omega]
        simp [SA, hp, dnR_dr]
      have hW := weak_map (s := ⟨I.n, (I.put o.dst (.tup [])).tm, pushL I.hp wr, I.nxt + A'.length⟩) (n := I.n) (tm := tm') (eo := eo) (e := e) (m := m) (A := A') σ0 (idsB I.nxt A'.length) H' M M hlow (Nat.ble_eq_true_of_le hMl) hlow2 hA' (idsB_length _ _) rfl
        (upT_congr (fun t => hgI t) htm) hMσ (by rw [hoI]; exact atM) (upH_congr (fun k old ⟨o', hm⟩ hfk => ?_) hh) hnm hod (by
          unfold idsB
          exact List.Pairwise.map _ (fun a b hab => by omega) List.nodup_range) (fun x hx hxo => ?_) (fun j x p hx hp => by
          obtain ⟨hj, rfl⟩ := idsB_get' hx
          rw [hoI]
          exact atB j hj p hp)
      · obtain ⟨g4, r4, st4⟩ := hW g3 _ _ R2
        exact ⟨_, g4, r4, ((hst.trans hs2').trans k2).trans st4, h2⟩
      · have hk1 := List.all_eq_true.1 hlow2 _ hm
        have hk2 := List.all_eq_true.1 hHk _ hm
        have hkl : k < 1000000 := Nat.le_of_ble_eq_true hk1
        have hkM : k ≠ M := by
          intro e0
          subst e0
          simp at hk2
        rw [find_app] at hfk
        have hdn : find (dynN 0 (idsB I.nxt A'.length)) k = none := by rw [find_dynN, if_neg (by omega)]
        rw [hdn, Option.or_none] at hfk
        have hmo := find_olds hfk
        have hol : old < 1000000 := Nat.le_of_ble_eq_true (List.all_eq_true.1 hlowo _ hmo)
        have hoM : old ≠ M := fun e0 => by subst e0; exact hHM k hkM hfk
        rw [hoI]
        exact low old hol hoM
      · obtain ⟨j, hj⟩ := List.mem_iff_getElem?.1 hx
        obtain ⟨_, rfl⟩ := idsB_get' hj
        have : I.nxt + j < 1000000 := Nat.le_of_ble_eq_true (List.all_eq_true.1 hlowo _ hxo)
        omega
  have := wpOps_eq_wpList (P := P) (ops := l.toArray) (Q := fun e a' w' => ∃ s' g', RelS s' g' a' w' ∧ Step g w g' w' ∧ Q e s') l 0 (by intro j; simp)
  rw [show List.range l.toArray.size = List.range' 0 l.length by simp [List.range_eq_range'], this]
  exact key

def mixM (A : KL) (k : Nat) : List (List AV) := dr (mdata (A.take k)) ++ mrows ((idsN A.length).drop k) (A.drop k)
theorem mixM_all (A : KL) : mixM A A.length = dr (mdata A) := by
  unfold mixM
  rw [List.take_length, List.drop_length]
  simp [mrows]
theorem mixM_zero (A : KL) : mixM A 0 = mrows (idsN A.length) A := by simp [mixM, dr, mdata]
theorem mixM_step {A : KL} {k : Nat} {p : D × List (List D)} (h : A[k]? = some p) : fzR (1000000 + k) p.2 (mixM A k) = mixM A (k + 1) := by
  have hk : k < A.length := (List.getElem?_eq_some_iff.1 h).1
  have hdk : A.drop k = p :: A.drop (k + 1) := by
    obtain ⟨_, rfl⟩ := List.getElem?_eq_some_iff.1 h
    exact List.drop_eq_getElem_cons hk
  have hdi : (idsN A.length).drop k = (1000000 + k) :: (idsN A.length).drop (k + 1) := by
    have h1 : k < (idsN A.length).length := by rw [idsN_length]; exact hk
    rw [List.drop_eq_getElem_cons h1]
    congr 1
    have := idsN_get hk
    rw [List.getElem?_eq_getElem h1] at this
    exact Option.some.inj this
  unfold mixM
  rw [fzR_appA, fzR_dr, hdk, hdi]
  have htk : A.take (k + 1) = A.take k ++ [p] := by rw [List.take_add_one, h]; rfl
  rw [htk]
  simp only [mrows, List.zipWith_cons_cons, fzR, fzL, fz, if_true, Nat.zero_add, List.drop_zero, List.take_length]
  rw [if_pos (Nat.le_refl _)]
  have hrest : fzR (1000000 + k) p.2 (List.zipWith (fun x p => [AV.d p.1, AV.hs x 0 p.2.length]) ((idsN A.length).drop (k + 1)) (A.drop (k + 1))) = List.zipWith (fun x p => [AV.d p.1, AV.hs x 0 p.2.length]) ((idsN A.length).drop (k + 1)) (A.drop (k + 1)) := by
    refine fzR_keep _ _ fun i r hr => ?_
    obtain ⟨x, q, h1, h2, rfl⟩ := mrows_get' (ids := (idsN A.length).drop (k + 1)) (A := A.drop (k + 1)) hr
    rw [List.getElem?_drop] at h1
    obtain ⟨_, rfl⟩ := idsN_get' h1
    simp only [fzL, fz]
    rw [if_neg (by omega)]
  rw [hrest]
  simp [dr, mdata]
def tmLowM : List (Nat × AV) → Bool
  | [] => true
  | (_, .d _) :: r => tmLowM r
  | (_, .any) :: r => tmLowM r
  | (_, .nl) :: r => tmLowM r
  | (_, .hs i _ _) :: r => Nat.blt i 1000000 && tmLowM r
  | (_, .ptr i _ _) :: r => Nat.blt i 1000000 && tmLowM r
  | (_, .hm i) :: r => Nat.blt i 1000000 && tmLowM r
  | _ :: _ => false
theorem fzT_lowM {id : Nat} (hid : 1000000 ≤ id) (rs : List (List D)) : ∀ {tm : List (Nat × AV)}, tmLowM tm = true → fzT id rs tm = tm
  | [], _ => rfl
  | (t, v) :: r, h => by
    cases v <;> simp only [tmLowM, Bool.and_eq_true] at h <;> try (cases h; done)
    all_goals simp only [fzT, fz]
    case any => rw [fzT_lowM hid rs h]
    case nl => rw [fzT_lowM hid rs h]
    case d => rw [fzT_lowM hid rs h]
    case hm =>
      have h1 : _ < 1000000 := Nat.le_of_ble_eq_true h.1
      rw [fzT_lowM hid rs h.2, if_neg (by omega)]
    case hs =>
      have h1 : _ < 1000000 := Nat.le_of_ble_eq_true h.1
      rw [fzT_lowM hid rs h.2, if_neg (by omega)]
    case ptr =>
      have h1 : _ < 1000000 := Nat.le_of_ble_eq_true h.1
      rw [fzT_lowM hid rs h.2, if_neg (by omega)]
theorem weak_fzmap {n : Nat} {tm : List (Nat × AV)} {nxt id eo : Nat} {e : TypeId} {m : Nat} (hid : id < 1000000) (htm : tmLowM tm = true) (A : KL) :
    Weak ⟨n, tm, (id, some ⟨eo, mapM, mrows (idsN A.length) A⟩) :: dyn e m 0 (SA A), nxt⟩ ⟨n, tm, [(id, some ⟨eo, mapM, dr (mdata A)⟩)], nxt⟩ := by
  have step : ∀ k, k ≤ A.length → Weak ⟨n, tm, (id, some ⟨eo, mapM, mixM A 0⟩) :: dyn e m 0 (SA A), nxt⟩ ⟨n, tm, (id, some ⟨eo, mapM, mixM A k⟩) :: dyn e m k ((SA A).drop k), nxt⟩ := by
    intro k
    induction k with
    | zero => intro _; exact Weak.refl _
    | succ k ih =>
      intro hk
      refine Weak.trans (ih (by omega)) ?_
      have hr : A[k]? = some A[k] := List.getElem?_eq_getElem (by omega)
      have hkS : k < (SA A).length := by rw [SA_length]; omega
      have hSk : (SA A)[k] = A[k].2 := by simp [SA]
      have hdk : (SA A).drop k = A[k].2 :: (SA A).drop (k + 1) := by rw [List.drop_eq_getElem_cons hkS, hSk]
      rw [hdk]
      simp only [dyn]
      refine Weak.trans (weak_freeze (1000000 + k) A[k].2 (o := ⟨e, m, dr A[k].2⟩) (by simp only [St.obj, find]; rw [if_neg (by omega)]; simp) (rowsD_dr _)) ?_
      refine weak_ext rfl (fun t => ?_) (fun x => ?_) (Nat.le_refl _)
      · simp only [St.get, St.fz]; rw [fzT_lowM (by omega) _ htm]
      · simp only [St.obj, St.fz, fzH, fzO, find, mixM_step hr, fzH_dyn, find_dyn]
        by_cases h1 : id = x
        · subst h1
          simp only [if_true]
          rw [if_neg (by omega)]
        · simp only [if_neg h1]
          by_cases h2 : 1000000 + k = x
          · subst h2
            simp only [if_true]
            rw [if_neg (by omega)]
            rfl
          · simp only [if_neg h2]
  have h := step A.length (Nat.le_refl _)
  rw [mixM_zero, mixM_all, show (SA A).drop A.length = [] by rw [List.drop_eq_nil_iff, SA_length]; exact Nat.le_refl _] at h
  exact h
end Go.Abs

set_option maxRecDepth 100000
namespace Go.Proofs.YtdddknniooimmaaGreat
open Go.Abs Go.Shelf

def kl (A : List (Cell × List Hd)) : KL := A.map fun p => (.agg p.1.row, p.2.map hRow)
theorem kl_length (A : List (Cell × List Hd)) : (kl A).length = A.length := by simp [kl]
def addA (A : List (Cell × List Hd)) (c : Crk) : List (Cell × List Hd) := putL A c.p (headsAt A c.p ++ [c.h])
theorem posR_m (p : Cell) : ∀ (A : List (Cell × List Hd)) (ids : List Nat), ids.length = A.length → posR (.agg p.row) (mrows ids (kl A)) = some (posL p A)
  | [], ids, h => by
    have : ids = [] := List.eq_nil_of_length_eq_zero h
    subst this; rfl
  | a :: A, [], h => by simp at h
  | a :: A, i :: ids, h => by
    have ih := posR_m p A ids (by simpa using h)
    simp only [kl, mrows, List.map_cons, List.zipWith_cons_cons, posR, posL, eqK_corner] at ih ⊢
    by_cases e : p = a.1
    · simp [e]
    · simp only [e, decide_false, if_false]
      rw [ih]; rfl
theorem self_key (p : Cell) : eqK (.agg p.row) (.agg p.row) = some true := by rw [eqK_corner]; simp
theorem posR_new (p : Cell) (y : AV) : ∀ (rows : List (List AV)), posR (.agg p.row) rows = some none → posR (.agg p.row) (rows ++ [[.d (.agg p.row), y]]) = some (some rows.length)
  | [], _ => by simp only [List.nil_append, posR, self_key]; rfl
  | r :: rows, h => by
    unfold posR at h
    split at h
    · rename_i k' a
      split at h
      · cases h
      · rename_i hq
        simp only [Option.map_eq_some_iff] at h
        obtain ⟨x, hx, hx2⟩ := h
        cases x with
        | some x => cases hx2
        | none =>
          rw [List.cons_append]
          unfold posR
          simp only [hq, posR_new p y rows hx]
          rfl
      · cases h
    · cases h
theorem kl_put (A : List (Cell × List Hd)) (c : Crk) : (posL c.p A = none → kl (addA A c) = kl A ++ [(.agg c.p.row, [hRow c.h])] ∧ headsAt A c.p = []) ∧ ∀ j, posL c.p A = some j → ∃ hs, A[j]? = some (c.p, hs) ∧ headsAt A c.p = hs ∧ kl (addA A c) = (kl A).set j (.agg c.p.row, hs.map hRow ++ [hRow c.h]) := by
  have hg := posL_getL (a := c.p) A
  unfold addA putL
  refine ⟨fun h => ?_, fun j h => ?_⟩
  · rw [h] at hg
    simp only at hg
    have hh : headsAt A c.p = [] := by simp [headsAt, hg]
    rw [h, hh]
    exact ⟨by simp [kl], rfl⟩
  · rw [h] at hg
    simp only at hg
    obtain ⟨b, h1, h2⟩ := hg
    have hh : headsAt A c.p = b := by simp [headsAt, h2]
    refine ⟨b, h1, hh, ?_⟩
    rw [h, hh]
    simp [kl, List.map_set]
theorem mrows_app {ids : List Nat} {A : KL} (h : ids.length = A.length) (x : Nat) (p : D × List (List D)) : mrows (ids ++ [x]) (A ++ [p]) = mrows ids A ++ [[.d p.1, .hs x 0 p.2.length]] := by
  unfold mrows
  rw [List.zipWith_append h]
  rfl
theorem mrows_set {A : KL} (j x : Nat) (p : D × List (List D)) : ∀ {ids : List Nat} , ids.length = A.length → mrows (ids.set j x) (A.set j p) = (mrows ids A).set j [.d p.1, .hs x 0 p.2.length] := by
  induction A generalizing j with
  | nil => intro ids h; simp [mrows]
  | cons a A ih =>
    intro ids h
    cases ids with
    | nil => simp at h
    | cons i ids =>
      cases j with
      | zero => simp [mrows]
      | succ j =>
        have := ih j (ids := ids) (by simpa using h)
        simp only [mrows, List.set_cons_succ, List.zipWith_cons_cons] at this ⊢
        rw [this]
theorem idsN_set_nd {n i z : Nat} (hz : z < 1000000 ∨ 1000000 + n ≤ z) : ((idsN n).set i z).Nodup := by
  rw [List.Nodup, List.pairwise_iff_getElem]
  intro a b ha hb hab
  simp only [List.length_set, idsN_length] at ha hb
  have g : ∀ k (hk : k < n), (idsN n)[k]'(by rw [idsN_length]; exact hk) = 1000000 + k := fun k hk => by
    have := idsN_get hk
    rw [List.getElem?_eq_getElem (by rw [idsN_length]; exact hk)] at this
    exact Option.some.inj this
  rw [List.getElem_set, List.getElem_set, g a ha, g b hb]
  split <;> split <;> omega
set_option maxHeartbeats 8000000 in
theorem add_px (A : List (Cell × List Hd)) (c : Crk) (hA : A.length ≤ 100000000) (hne : ∀ a ∈ A, a.2 ≠ [] ∧ a.2.length ≤ 100000000) :
    PX Tryz.prog 138 [.hm 0, .d (.agg c.p.row), .d (.int .i64 c.h.int)] (mapP 118 178 1 (kl A)) [(0, 0)] (mapP 118 178 1 (kl (addA A c))) (.tup []) := by
  obtain ⟨p1, p2⟩ := kl_put A c
  have hkl := kl_length A
  refine px_of_awp_map cx (fn := Tryz.f138) (c := _) Tryz.func138 rfl rfl (Nat.le_of_ble_eq_true rfl) (by rw [hkl]; omega) fun Ls => ?_
  rw [Tryz.ntmps138]; refine Nav.imp ?_
  refine awp_region cx [] fun K hK => ?_
  simp [push_cast]
  repeat (refine And.intro (by clear hK; intros; first | omega | (simp_all; done) | (simp_all <;> omega)) ?_)
  refine hK _ ?_; clear hK K; refine Nav.imp ?_
  cases hp : posL c.p A with
  | none =>
    obtain ⟨q1, q2⟩ := p1 hp
    have hpos := posR_m c.p A (idsN (kl A).length) (by rw [idsN_length, hkl])
    rw [hp] at hpos
    refine awp_region_entry cx [] [_, _, _, _] _ _ _ _ _ rfl (T := 118) (S := 121) (kt := 58) (et := 121) (e := 178) rfl rfl rfl rfl rfl rfl rfl rfl rfl rfl rfl rfl rfl rfl rfl rfl rfl rfl (by decide) rfl rfl rfl rfl rfl rfl rfl rfl (by decide) (by decide)
      ⟨14, [(6, .hm 0), (7, .d (.agg c.p.row)), (10, .hs 1 0 1), (14, .pin 0 (Ls 0))], (0, some ⟨118, mapM, mrows (idsN (kl A).length) (kl A)⟩) :: [(1, some ⟨178, 1, [[.d (.int .i64 c.h.int)]]⟩)] ++ dyn 178 1 0 (SA (kl A)), 1000000000000⟩
      (id := 0) (r := none) (rows1 := mrows (idsN (kl A).length) (kl A) ++ [[.d (.agg c.p.row), .nl]]) (rows3 := mrows (idsN (kl A).length) (kl A) ++ [[.d (.agg c.p.row), .hs 1000000000000 0 1]]) (r1 := []) (r2 := [[.d (.int .i64 c.h.int)]]) (wr := []) (p1 := True) rfl rfl ?_ rfl (.inl rfl) ?_ ?_ rfl trivial rfl ?_ ?_ ?_ ?_ ?_ ?_ ?_
    · rfl
    · show lookA (.agg c.p.row) (mrows (idsN (kl A).length) (kl A)) = some none
      unfold lookA; rw [hpos]
    · show putR (.agg c.p.row) .nl (mrows (idsN (kl A).length) (kl A)) = _
      unfold putR; rw [hpos]
    · show 0 + 1 ≤ 1
      omega
    · show (0 + 1) * 8 ≤ _
      omega
    · show putR (.agg c.p.row) (.hs 1000000000000 0 1) _ = _
      unfold putR
      rw [posR_new _ _ _ hpos]
      simp
    · simp [updL, upd1]
    · exact ⟨Nat.le_of_ble_eq_true rfl, Nat.le_of_ble_eq_true rfl, Nat.le_of_ble_eq_true rfl, Nat.le_of_ble_eq_true rfl⟩
    · intro K hK
      simp [push_cast]
      refine hK _ ?_
      refine weak_map [(0, some 0), (1, some 1000000000004)] (idsN (kl A).length) [(1, some ⟨178, 1, [[.d (.int .i64 c.h.int)]]⟩)] 0 0 rfl rfl rfl (by rw [hkl]; omega) (idsN_length _) rfl ?_ rfl ?_ ?_ ?_ ?_ (idsN_nodup _) ?_ ?_
      · simp [upT, up, upL, push_cast, find_app, find_dynN]
      · simp [push_cast, find_dyn]
      · simp [upH, upR, upL, up, push_cast, find_app, find_dyn, find_dynN]
      · simp [namesOk, push_cast]
      · simp [olds]
      · intro x hx
        have h1 := idsN_mem.1 hx
        simp [olds]; omega
      · intro q x p hx hp'
        obtain ⟨hq, rfl⟩ := idsN_get' hx
        have : ((SA (kl A))[q]?).map (fun r => some (⟨178, 1, dr r⟩ : Ob)) = some (some ⟨178, 1, dr p.2⟩) := by simp [SA, hp']
        simp [push_cast, find_dyn0, this]
        rw [if_neg (by omega), if_neg (by omega), if_neg (by omega)]
        rfl
    · refine rx_map (ns := idsN (kl A).length ++ [1000000000000]) (.inr rfl) ⟨[], rfl, fun ρ => by simp [rnsOk, rn, rnL, oneOf]⟩ ?_ ?_ rfl ?_ ?_ ?_ ?_
      · show some _ = some _
        rw [q1, mrows_app (idsN_length _)]
        rfl
      · rw [q1]; simp [idsN_length]
      · rw [List.nodup_append]
        refine ⟨idsN_nodup _, by simp, fun a ha b hb => ?_⟩
        have := idsN_mem.1 ha
        simp at hb; omega
      · intro h0
        rcases List.mem_append.1 h0 with h0 | h0
        · have := idsN_mem.1 h0; omega
        · simp at h0
      · intro q x p hx hp'
        rw [q1] at hp'
        by_cases hq : q < (kl A).length
        · rw [List.getElem?_append_left (by rw [idsN_length]; exact hq)] at hx
          rw [List.getElem?_append_left hq] at hp'
          obtain ⟨_, rfl⟩ := idsN_get' hx
          have : ((SA (kl A))[q]?).map (fun r => some (⟨178, 1, dr r⟩ : Ob)) = some (some ⟨178, 1, dr p.2⟩) := by simp [SA, hp']
          simp [push_cast, find_dyn0, this, pushL]
          repeat rw [if_neg (by omega)]
          rfl
        · have hql : q = (kl A).length := by have := (List.getElem?_eq_some_iff.1 hp').1; simp at this; omega
          subst hql
          rw [List.getElem?_append_right (by rw [idsN_length]; exact Nat.le_refl _), idsN_length] at hx
          rw [List.getElem?_append_right (Nat.le_refl _)] at hp'
          simp at hx hp'
          subst hx; subst hp'
          simp [push_cast, pushL]
      · rfl
  | some j =>
    obtain ⟨hs, hAj, hh, q1⟩ := p2 j hp
    have hpos := posR_m c.p A (idsN (kl A).length) (by rw [idsN_length, hkl])
    rw [hp] at hpos
    have hjl : j < (kl A).length := by rw [hkl]; exact (List.getElem?_eq_some_iff.1 hAj).1
    obtain ⟨hn1, hn2⟩ := hne _ (List.mem_of_getElem? hAj)
    simp only at hn1 hn2
    obtain ⟨n', hn'⟩ : ∃ n', hs.length = n' + 1 := ⟨hs.length - 1, by have := List.length_pos_iff.2 hn1; omega⟩
    have hkj : (kl A)[j]? = some (.agg c.p.row, hs.map hRow) := by simp [kl, hAj]
    have hrow : (mrows (idsN (kl A).length) (kl A))[j]? = some [.d (.agg c.p.row), .hs (1000000 + j) 0 (n' + 1)] := by
      rw [mrows_get (idsN_get hjl) hkj]; simp [hn']
    have hself : (mrows (idsN (kl A).length) (kl A)).set j [.d (.agg c.p.row), .hs (1000000 + j) 0 (n' + 1)] = mrows (idsN (kl A).length) (kl A) := by
      refine List.ext_getElem? fun q => ?_
      rw [List.getElem?_set]
      split
      · rename_i e
        subst e
        rw [if_pos (List.getElem?_eq_some_iff.1 hrow).1, hrow]
      · rfl
    have hSj : ((SA (kl A))[j]?).map (fun r => some (⟨178, 1, dr r⟩ : Ob)) = some (some ⟨178, 1, dr (hs.map hRow)⟩) := by simp [SA, hkj]
    refine awp_region_entry cx [] [_, _, _, _] _ _ _ _ _ rfl (T := 118) (S := 121) (kt := 58) (et := 121) (e := 178) rfl rfl rfl rfl rfl rfl rfl rfl rfl rfl rfl rfl rfl rfl rfl rfl rfl rfl (by decide) rfl rfl rfl rfl rfl rfl rfl rfl (by decide) (by decide)
      ⟨14, [(6, .hm 0), (7, .d (.agg c.p.row)), (10, .hs 1 0 1), (14, .pin 0 (Ls 0))], (0, some ⟨118, mapM, mrows (idsN (kl A).length) (kl A)⟩) :: [(1, some ⟨178, 1, [[.d (.int .i64 c.h.int)]]⟩)] ++ dyn 178 1 0 (SA (kl A)), 1000000000000⟩
      (id := 0) (r := some (.hs (1000000 + j) 0 (n' + 1))) (rows1 := mrows (idsN (kl A).length) (kl A)) (rows3 := (mrows (idsN (kl A).length) (kl A)).set j [.d (.agg c.p.row), .hs 1000000000000 0 (n' + 1 + 1)]) (r1 := dr (hs.map hRow)) (r2 := [[.d (.int .i64 c.h.int)]]) (wr := [(1000000 + j, none)]) (p1 := n' + 1 ≤ (dr (hs.map hRow)).length) rfl rfl ?_ rfl (.inr ⟨_, _, rfl⟩) ?_ ?_ ?_ ?_ rfl ?_ ?_ ?_ ?_ ?_ ?_ ?_
    · rfl
    · show lookA (.agg c.p.row) (mrows (idsN (kl A).length) (kl A)) = _
      unfold lookA; rw [hpos]
      simp only [hrow]
    · show putR (.agg c.p.row) (.hs (1000000 + j) 0 (n' + 1)) (mrows (idsN (kl A).length) (kl A)) = _
      unfold putR; rw [hpos]
      simp only [hself]
    · show dstRows _ _ _ (.hs (1000000 + j) 0 (n' + 1)) = _
      simp only [dstRows]
      have ho : upd1 (St.obj ⟨14, [(6, .hm 0), (7, .d (.agg c.p.row)), (10, .hs 1 0 1), (14, .pin 0 (Ls 0))], (0, some ⟨118, mapM, mrows (idsN (kl A).length) (kl A)⟩) :: [(1, some ⟨178, 1, [[.d (.int .i64 c.h.int)]]⟩)] ++ dyn 178 1 0 (SA (kl A)), 1000000000000⟩) 0 (some ⟨118, mapM, mrows (idsN (kl A).length) (kl A)⟩) (1000000 + j) = some ⟨178, 1, dr (hs.map hRow)⟩ := by
        simp [push_cast, find_dyn0, hSj, upd1]
        repeat rw [if_neg (by omega)]
        rfl
      rw [ho]
      simp only [Option.bind_some]
      rw [if_pos (by simp)]
      have : (dr (hs.map hRow)).take (n' + 1) = dr (hs.map hRow) := List.take_of_length_le (by simp [dr, hn'])
      rw [this]
    · simp [dr, hn']
    · show 0 + 1 ≤ 1
      omega
    · show ((dr (hs.map hRow)).length + 1) * 8 ≤ _
      simp [dr]; omega
    · show putR (.agg c.p.row) (.hs 1000000000000 0 ((dr (hs.map hRow)).length + 1)) _ = _
      unfold putR
      rw [hpos]
      simp [dr, hn']
    · simp [updL, upd1]
      omega
    · exact ⟨Nat.le_of_ble_eq_true rfl, Nat.le_of_ble_eq_true rfl, Nat.le_of_ble_eq_true rfl, Nat.le_of_ble_eq_true rfl⟩
    · intro K hK
      simp [push_cast]
      refine hK _ ?_
      refine weak_map [(0, some 0), (1, some 1000000000004)] (idsN (kl A).length) [(1, some ⟨178, 1, [[.d (.int .i64 c.h.int)]]⟩)] 0 0 rfl rfl rfl (by rw [hkl]; omega) (idsN_length _) rfl ?_ rfl ?_ ?_ ?_ ?_ (idsN_nodup _) ?_ ?_
      · simp [upT, up, upL, push_cast, find_app, find_dynN]
      · simp [push_cast, find_dyn]
      · simp [upH, upR, upL, up, push_cast, find_app, find_dyn, find_dynN]
      · simp [namesOk, push_cast]
      · simp [olds]
      · intro x hx
        have h1 := idsN_mem.1 hx
        simp [olds]; omega
      · intro q x p hx hp'
        obtain ⟨hq, rfl⟩ := idsN_get' hx
        have : ((SA (kl A))[q]?).map (fun r => some (⟨178, 1, dr r⟩ : Ob)) = some (some ⟨178, 1, dr p.2⟩) := by simp [SA, hp']
        simp [push_cast, find_dyn0, this]
        rw [if_neg (by omega), if_neg (by omega), if_neg (by omega)]
        rfl
    · refine rx_map (ns := (idsN (kl A).length).set j 1000000000000) (.inr rfl) ⟨[], rfl, fun ρ => by simp [rnsOk, rn, rnL, oneOf]⟩ ?_ ?_ rfl ?_ ?_ ?_ ?_
      · show some _ = some _
        rw [q1, mrows_set _ _ _ (idsN_length _)]
        simp [hn']
      · rw [q1]; simp [idsN_length]
      · exact idsN_set_nd (by omega)
      · intro h0
        rcases List.mem_or_eq_of_mem_set h0 with h0 | h0
        · have := idsN_mem.1 h0; omega
        · simp at h0
      · intro q x p hx hp'
        rw [q1] at hp'
        by_cases hq : j = q
        · subst hq
          rw [List.getElem?_set_self (by rw [idsN_length]; exact hjl)] at hx
          rw [List.getElem?_set_self hjl] at hp'
          cases hx; cases hp'
          simp [push_cast, pushL]
        · rw [List.getElem?_set_ne hq] at hx hp'
          obtain ⟨_, rfl⟩ := idsN_get' hx
          have : ((SA (kl A))[q]?).map (fun r => some (⟨178, 1, dr r⟩ : Ob)) = some (some ⟨178, 1, dr p.2⟩) := by simp [SA, hp']
          simp [push_cast, find_dyn0, this, pushL]
          repeat rw [if_neg (by omega)]
          rfl
      · rfl
end Go.Proofs.YtdddknniooimmaaGreat

namespace Go.Proofs.YtdddknniooimmaaGreat
open Go.Abs

def smallR (R : List Row) : Prop := R.length ≤ 1000000 ∧ ∀ w ∈ R, w.runs.length ≤ 1000000
def bigR (R : List Row) : Prop := R.length ≤ 9223372036854775807 ∧ ∀ w ∈ R, w.runs.length ≤ 9223372036854775807
theorem big_of {R : List Row} (h : smallR R) : bigR R := ⟨by have := h.1; omega, fun w hw => by have := h.2 w hw; omega⟩

theorem rows_at (R : List Row) {k : Nat} {r p : Row} {f z : Run} (hr : R[k]? = some r) (hp : R[k - 1]? = some p) (hf : r.runs[0]? = some f) (hz : r.runs[r.runs.length - 1]? = some z) :
    rowAt R k = (okB r.y && (k == 0 || decide (p.y < r.y)) && rvalid r.runs && okB f.a && okB (z.b - 1)) := by
  rw [rowAt_some hr hp, fine_iff hf hz]
  simp only [Bool.and_assoc]
theorem rows_nil (R : List Row) {k : Nat} {r : Row} (hr : R[k]? = some r) (h : r.runs = []) : rowAt R k = false := by
  have := (List.getElem?_eq_some_iff.1 hr).1
  obtain ⟨p, hp⟩ : ∃ p, R[k - 1]? = some p := getq (by omega)
  rw [rowAt_some hr hp, h]; simp [fine]

set_option maxHeartbeats 1000000 in
theorem valid_big (R : List Row) (hR : bigR R) : PC Tryz.prog 53 [.agg (regRow R)] (.p (.bool (validR R))) := by
  have hl := hR.1
  refine pc_of_awp cx (fn := Tryz.f53) (c := _) Tryz.func53 rfl rfl (Nat.le_of_ble_eq_true rfl) ?_
  rw [Tryz.ntmps53]; refine Nav.imp ?_
  refine awp_region cx [] fun K hK => ?_
  simp [push_cast]
  repeat (refine And.intro (by clear hK; intros; first | omega | (simp_all; done) | (simp_all <;> omega)) ?_)
  refine hK _ ?_; clear hK K; refine Nav.imp ?_
  refine awp_region cx [] fun K hK => ?_
  simp [push_cast]
  repeat (refine And.intro (by clear hK; intros; first | omega | (simp_all; done) | (simp_all <;> omega)) ?_)
  refine hK _ ?_; clear hK K; refine Nav.imp ?_
  refine awp_loop (β := Nat) (fun k => ⟨67, [(1, .ptr 0 0 0), (6, .d (encRows R)), (7, .d (.int .i64 R.length)), (8, .d (.int .i64 k))], [(0, some ⟨24, 1, [(regRow R).map .d]⟩)], 1⟩) (fun k => k ≤ R.length ∧ (List.range k).all (rowAt R) = true) (fun k => R.length - k) 0 ?_ ⟨Nat.zero_le _, rfl⟩ ?_
  · refine weak_of [(0, some 0)] rfl (by simp [upT, up, upL, push_cast]) (by simp [upH, upR, upL, up, push_cast]) (by simp [namesOk, push_cast]) (by simp [olds])
  · intro k ⟨hk, hall⟩
    refine Nav.imp ?_
    refine awp_region cx [] fun K hK => ?_
    simp [push_cast]
    repeat (refine And.intro (by clear hK; intros; first | omega | (simp_all; done) | (simp_all <;> omega)) ?_)
    refine hK _ ?_; clear hK K; refine Nav.imp ?_
    refine awp_cond (b := decide ((k : Int) < R.length)) (by simp [push_cast]) (fun hb => ?_) (fun hb => ?_) <;> (refine Nav.imp ?_)
    · have hlt : k < R.length := by simpa using hb
      obtain ⟨r, hr⟩ := getq hlt
      obtain ⟨p, hp⟩ : ∃ p, R[k - 1]? = some p := getq (by omega)
      have e0 := wrap_i64 (n := (k : Int) + 1) (by omega) (by omega)
      have e1 := wrap_i64 (n := (k : Int) - 1) (by omega) (by omega)
      have hrl := hR.2 r (List.mem_of_getElem? hr)
      have c1 := ok_ok r.y
      have c2 := rvalid_big r.runs hrl
      have hnil := rows_nil R hr
      have hcons := fun f z => @rows_at R k r p f z hr hp
      obtain ⟨y, ru⟩ := r
      obtain ⟨py, pr⟩ := p
      simp only at c1 c2 hnil hcons hrl
      have hno : rowAt R k = false → validR R = false := fun h => all_range_false hlt h
      have hy : okB y = false → rowAt R k = false := fun h => by rw [rowAt_some hr hp]; simp [h]
      have hpy : k ≠ 0 → y ≤ py → rowAt R k = false := fun h0 h => by rw [rowAt_some hr hp]; simp [h0, show ¬ py < y by omega]
      have hrv : rvalid ru = false → rowAt R k = false := fun h => by
        cases hru : ru with
        | nil => exact hnil hru
        | cons a b =>
          obtain ⟨f, hf⟩ : ∃ f, ru[0]? = some f := getq (by rw [hru]; simp)
          obtain ⟨z, hz⟩ : ∃ f, ru[ru.length - 1]? = some f := getq (by rw [hru]; simp)
          rw [hcons f z hf hz, h]; simp
      generalize okB y = oy at *
      generalize hrvd : rvalid ru = rv at c2 hrv hcons
      refine awp_region cx [] fun K hK => ?_
      simp [push_cast, hr, Row.row]
      repeat (refine And.intro (by clear hK; intros; first | omega | (simp_all; done) | (simp_all <;> omega)) ?_)
      refine hK _ ?_; clear hK K; refine Nav.imp ?_
      cases oy with
      | false =>
        by_cases hk0 : k = 0
        · subst hk0
          refine awp_region_draw cx mixed [(2, .p (.bool false)), (29, .skip)] fun K hK => ?_
          simp [push_cast, c1, hr, Row.row]
          repeat (refine And.intro (by clear hK; intros; first | omega | (simp_all; done) | (simp_all <;> omega)) ?_)
          refine hK _ _ (by kernel_rfl) ?_; clear hK K; refine Nav.imp ?_
          refine awp_cond (b := true) (by simp [push_cast]) (fun hb => ?_) (fun hb => ?_) <;> (refine Nav.imp ?_)
          · refine awp_region cx [] fun K hK => ?_
            simp [push_cast]
            repeat (refine And.intro (by clear hK; intros; first | omega | (simp_all; done) | (simp_all <;> omega)) ?_)
            refine hK _ ?_; clear hK K; refine Nav.imp ?_
            simp [push_cast]
            exact hno (hy rfl)
          · simp at hb
        · have e2 : ((k : Int) - 1).toNat = k - 1 := by omega
          refine awp_region_draw cx mixed [(2, .p (.bool false)), (29, .skip)] fun K hK => ?_
          simp [push_cast, c1, hp, e1, e2, Row.row]
          repeat (refine And.intro (by clear hK; intros; first | omega | (simp_all; done) | (simp_all <;> omega)) ?_)
          refine hK _ _ (by kernel_rfl) ?_; clear hK K; refine Nav.imp ?_
          refine awp_cond (b := true) (by simp [push_cast]) (fun hb => ?_) (fun hb => ?_) <;> (refine Nav.imp ?_)
          · refine awp_region cx [] fun K hK => ?_
            simp [push_cast]
            repeat (refine And.intro (by clear hK; intros; first | omega | (simp_all; done) | (simp_all <;> omega)) ?_)
            refine hK _ ?_; clear hK K; refine Nav.imp ?_
            simp [push_cast]
            exact hno (hy rfl)
          · simp at hb
      | true =>
        cases hru : ru with
        | nil =>
          subst hru
          by_cases hk0 : k = 0
          · subst hk0
            refine awp_region_draw cx mixed [(2, .p (.bool true)), (29, .skip)] fun K hK => ?_
            simp [push_cast, c1, hr, Row.row]
            repeat (refine And.intro (by clear hK; intros; first | omega | (simp_all; done) | (simp_all <;> omega)) ?_)
            refine hK _ _ (by kernel_rfl) ?_; clear hK K; refine Nav.imp ?_
            refine awp_cond (b := true) (by simp [push_cast]) (fun hb => ?_) (fun hb => ?_) <;> (refine Nav.imp ?_)
            · refine awp_region cx [] fun K hK => ?_
              simp [push_cast]
              repeat (refine And.intro (by clear hK; intros; first | omega | (simp_all; done) | (simp_all <;> omega)) ?_)
              refine hK _ ?_; clear hK K; refine Nav.imp ?_
              simp [push_cast]
              exact hno (hnil rfl)
            · simp at hb
          · have e2 : ((k : Int) - 1).toNat = k - 1 := by omega
            have hk1 : (0 : Int) < k := by omega
            have hk2 : (0 : Int) ≤ k - 1 := by omega
            have hk3 : 0 < k := by omega
            by_cases h2 : y ≤ py
            · refine awp_region_draw cx mixed [(2, .p (.bool true)), (29, .skip)] fun K hK => ?_
              simp [push_cast, c1, hp, e1, e2, hk1, hk2, hk3, h2, Row.row]
              repeat (refine And.intro (by clear hK; intros; first | omega | (simp_all; done) | (simp_all <;> omega)) ?_)
              refine hK _ _ (by kernel_rfl) ?_; clear hK K; refine Nav.imp ?_
              refine awp_cond (b := true) (by simp [push_cast]) (fun hb => ?_) (fun hb => ?_) <;> (refine Nav.imp ?_)
              · refine awp_region cx [] fun K hK => ?_
                simp [push_cast]
                repeat (refine And.intro (by clear hK; intros; first | omega | (simp_all; done) | (simp_all <;> omega)) ?_)
                refine hK _ ?_; clear hK K; refine Nav.imp ?_
                simp [push_cast]
                exact hno (hnil rfl)
              · simp at hb
            · refine awp_region_draw cx mixed [(2, .p (.bool true)), (29, .skip)] fun K hK => ?_
              simp [push_cast, c1, hp, e1, e2, hk1, hk2, hk3, h2, Row.row]
              repeat (refine And.intro (by clear hK; intros; first | omega | (simp_all; done) | (simp_all <;> omega)) ?_)
              refine hK _ _ (by kernel_rfl) ?_; clear hK K; refine Nav.imp ?_
              refine awp_cond (b := true) (by simp [push_cast]) (fun hb => ?_) (fun hb => ?_) <;> (refine Nav.imp ?_)
              · refine awp_region cx [] fun K hK => ?_
                simp [push_cast]
                repeat (refine And.intro (by clear hK; intros; first | omega | (simp_all; done) | (simp_all <;> omega)) ?_)
                refine hK _ ?_; clear hK K; refine Nav.imp ?_
                simp [push_cast]
                exact hno (hnil rfl)
              · simp at hb
        | cons x0 xr =>
          have hne : ru ≠ [] := by rw [hru]; simp
          rw [← hru]
          have hnb : ((ru.length : Int) == 0) = false := by simp [hne]
          obtain ⟨f, hf⟩ : ∃ f, ru[0]? = some f := getq (by rw [hru]; simp)
          obtain ⟨z, hz⟩ : ∃ f, ru[ru.length - 1]? = some f := getq (by rw [hru]; simp)
          have hcons' := hcons f z hf hz
          have hzb : rv = true → fitsB z = true := fun h => (rvalid_at (by rw [hrvd, h]) hz).2
          have hrp : 1 ≤ ru.length := by rw [hru]; simp
          clear hru hcons
          cases rv with
          | false =>
            by_cases hk0 : k = 0
            · subst hk0
              refine awp_region_draw cx mixed [(2, .p (.bool true)), (29, .p (.bool false))] fun K hK => ?_
              simp [push_cast, c1, c2, hr, hnb, Row.row]
              repeat (refine And.intro (by clear hK; intros; first | omega | (simp_all; done) | (simp_all <;> omega)) ?_)
              refine hK _ _ (by kernel_rfl) ?_; clear hK K; refine Nav.imp ?_
              refine awp_cond (b := true) (by simp [push_cast]) (fun hb => ?_) (fun hb => ?_) <;> (refine Nav.imp ?_)
              · refine awp_region cx [] fun K hK => ?_
                simp [push_cast]
                repeat (refine And.intro (by clear hK; intros; first | omega | (simp_all; done) | (simp_all <;> omega)) ?_)
                refine hK _ ?_; clear hK K; refine Nav.imp ?_
                simp [push_cast]
                exact hno (hrv rfl)
              · simp at hb
            · have e2 : ((k : Int) - 1).toNat = k - 1 := by omega
              have hk1 : (0 : Int) < k := by omega
              have hk2 : (0 : Int) ≤ k - 1 := by omega
              have hk3 : 0 < k := by omega
              by_cases h2 : y ≤ py
              · refine awp_region_draw cx mixed [(2, .p (.bool true)), (29, .skip)] fun K hK => ?_
                simp [push_cast, c1, hp, e1, e2, hk1, hk2, hk3, h2, Row.row]
                repeat (refine And.intro (by clear hK; intros; first | omega | (simp_all; done) | (simp_all <;> omega)) ?_)
                refine hK _ _ (by kernel_rfl) ?_; clear hK K; refine Nav.imp ?_
                refine awp_cond (b := true) (by simp [push_cast]) (fun hb => ?_) (fun hb => ?_) <;> (refine Nav.imp ?_)
                · refine awp_region cx [] fun K hK => ?_
                  simp [push_cast]
                  repeat (refine And.intro (by clear hK; intros; first | omega | (simp_all; done) | (simp_all <;> omega)) ?_)
                  refine hK _ ?_; clear hK K; refine Nav.imp ?_
                  simp [push_cast]
                  exact hno (hrv rfl)
                · simp at hb
              · refine awp_region_draw cx mixed [(2, .p (.bool true)), (29, .p (.bool false))] fun K hK => ?_
                simp [push_cast, c1, c2, hp, e1, e2, hk1, hk2, hk3, h2, hnb, Row.row]
                repeat (refine And.intro (by clear hK; intros; first | omega | (simp_all; done) | (simp_all <;> omega)) ?_)
                refine hK _ _ (by kernel_rfl) ?_; clear hK K; refine Nav.imp ?_
                refine awp_cond (b := true) (by simp [push_cast]) (fun hb => ?_) (fun hb => ?_) <;> (refine Nav.imp ?_)
                · refine awp_region cx [] fun K hK => ?_
                  simp [push_cast]
                  repeat (refine And.intro (by clear hK; intros; first | omega | (simp_all; done) | (simp_all <;> omega)) ?_)
                  refine hK _ ?_; clear hK K; refine Nav.imp ?_
                  simp [push_cast]
                  exact hno (hrv rfl)
                · simp at hb
          | true =>
            by_cases hq : k ≠ 0 ∧ y ≤ py
            · obtain ⟨hk0, h2⟩ := hq
              have e2 : ((k : Int) - 1).toNat = k - 1 := by omega
              have hk1 : (0 : Int) < k := by omega
              have hk2 : (0 : Int) ≤ k - 1 := by omega
              have hk3 : 0 < k := by omega
              refine awp_region_draw cx mixed [(2, .p (.bool true)), (29, .skip)] fun K hK => ?_
              simp [push_cast, c1, hp, e1, e2, hk1, hk2, hk3, h2, Row.row]
              repeat (refine And.intro (by clear hK; intros; first | omega | (simp_all; done) | (simp_all <;> omega)) ?_)
              refine hK _ _ (by kernel_rfl) ?_; clear hK K; refine Nav.imp ?_
              refine awp_cond (b := true) (by simp [push_cast]) (fun hb => ?_) (fun hb => ?_) <;> (refine Nav.imp ?_)
              · refine awp_region cx [] fun K hK => ?_
                simp [push_cast]
                repeat (refine And.intro (by clear hK; intros; first | omega | (simp_all; done) | (simp_all <;> omega)) ?_)
                refine hK _ ?_; clear hK K; refine Nav.imp ?_
                simp [push_cast]
                exact hno (hpy hk0 h2)
              · simp at hb
            · have hat : rowAt R k = (okB f.a && okB (z.b - 1)) := by
                rw [hcons']
                by_cases h : k = 0
                · simp [h]
                · have : py < y := by
                    apply Int.not_le.1
                    exact fun h2 => hq ⟨h, h2⟩
                  simp [h, this]
              apply cut_
              · intro key
                by_cases hk0 : k ≠ 0
                · have e2 : ((k : Int) - 1).toNat = k - 1 := by omega
                  have hk1 : (0 : Int) < k := by omega
                  have hk2 : (0 : Int) ≤ k - 1 := by omega
                  have hk3 : 0 < k := by omega
                  have h2 : ¬ y ≤ py := fun h => hq ⟨hk0, h⟩
                  refine awp_region_draw cx mixed [(2, .p (.bool true)), (29, .p (.bool true))] fun K hK => ?_
                  simp [push_cast, c1, c2, hp, e1, e2, hk1, hk2, hk3, h2, hnb, Row.row]
                  repeat (refine And.intro (by clear hK; intros; first | omega | (simp_all; done) | (simp_all <;> omega)) ?_)
                  refine hK _ _ (by kernel_rfl) ?_; clear hK K; refine Nav.imp ?_
                  refine awp_cond (b := false) (by simp [push_cast]) (fun hb => ?_) (fun hb => ?_) <;> (refine Nav.imp ?_)
                  · simp at hb
                  · refine awp_weak (s' := ⟨67, [(1, .ptr 0 0 0), (4, .ptr 1 0 0), (6, .d (encRows R)), (7, .d (.int .i64 R.length)), (8, .d (.int .i64 k))], [(0, some ⟨24, 1, [(regRow R).map .d]⟩), (1, some ⟨65, 2, [(Row.row ⟨y, ru⟩).map .d]⟩)], 2⟩) ?_ key.h
                    refine weak_of [(0, some 0), (1, some 5)] rfl (by simp [upT, up, upL, push_cast, Row.row]) (by simp [upH, upR, upL, up, push_cast, Row.row]) (by simp [namesOk, push_cast]) (by simp [olds])
                · have hk0 := Classical.not_not.1 hk0
                  subst hk0
                  refine awp_region_draw cx mixed [(2, .p (.bool true)), (29, .p (.bool true))] fun K hK => ?_
                  simp [push_cast, c1, c2, hr, hnb, Row.row]
                  repeat (refine And.intro (by clear hK; intros; first | omega | (simp_all; done) | (simp_all <;> omega)) ?_)
                  refine hK _ _ (by kernel_rfl) ?_; clear hK K; refine Nav.imp ?_
                  refine awp_cond (b := false) (by simp [push_cast]) (fun hb => ?_) (fun hb => ?_) <;> (refine Nav.imp ?_)
                  · simp at hb
                  · refine awp_weak (s' := ⟨67, [(1, .ptr 0 0 0), (4, .ptr 1 0 0), (6, .d (encRows R)), (7, .d (.int .i64 R.length)), (8, .d (.int .i64 (0 : Nat)))], [(0, some ⟨24, 1, [(regRow R).map .d]⟩), (1, some ⟨65, 2, [(Row.row ⟨y, ru⟩).map .d]⟩)], 2⟩) ?_ key.h
                    refine weak_of [(0, some 0), (1, some 5)] rfl (by simp [upT, up, upL, push_cast, Row.row]) (by simp [upH, upR, upL, up, push_cast, Row.row]) (by simp [namesOk, push_cast]) (by simp [olds])
              · refine Nav.imp ?_
                have d1 := ok_ok f.a
                have d2 := ok_ok (z.b - 1)
                have hzf := fitsB_bd (hzb rfl)
                have e3 := wrap_i64 (n := (ru.length : Int) - 1) (by omega) (by omega)
                have e4 : ((ru.length : Int) - 1).toNat = ru.length - 1 := by omega
                have e5 : (0 : Int) ≤ (ru.length : Int) - 1 := by omega
                have e6 := wrap_i64 (n := z.b - 1) (by omega) (by omega)
                obtain ⟨fa, fb⟩ := f
                obtain ⟨za, zb⟩ := z
                simp only at d1 d2 hat e6
                generalize okB fa = p1 at *
                generalize okB (zb - 1) = p2 at *
                cases p1 with
                | false =>
                  refine awp_region cx [(5, .p (.bool false)), (18, .skip)] fun K hK => ?_
                  simp [push_cast, hf, hz, Row.row, Run.row, d1, e3, e4, e5, e6]
                  repeat (refine And.intro (by clear hK; intros; first | omega | (simp_all; done) | (simp_all <;> omega)) ?_)
                  refine hK _ ?_; clear hK K; refine Nav.imp ?_
                  refine awp_cond (b := true) (by simp [push_cast]) (fun hb => ?_) (fun hb => ?_) <;> (refine Nav.imp ?_)
                  · refine awp_region cx [] fun K hK => ?_
                    simp [push_cast]
                    repeat (refine And.intro (by clear hK; intros; first | omega | (simp_all; done) | (simp_all <;> omega)) ?_)
                    refine hK _ ?_; clear hK K; refine Nav.imp ?_
                    simp [push_cast]
                    exact hno (by rw [hat]; rfl)
                  · simp at hb
                | true =>
                  refine awp_region cx [(5, .p (.bool true)), (18, .p (.bool p2))] fun K hK => ?_
                  simp [push_cast, hf, hz, Row.row, Run.row, d1, d2, e3, e4, e5, e6]
                  repeat (refine And.intro (by clear hK; intros; first | omega | (simp_all; done) | (simp_all <;> omega)) ?_)
                  refine hK _ ?_; clear hK K; refine Nav.imp ?_
                  refine awp_cond (b := !p2) (by simp [push_cast]) (fun hb => ?_) (fun hb => ?_) <;> (refine Nav.imp ?_)
                  · simp at hb
                    refine awp_region cx [] fun K hK => ?_
                    simp [push_cast]
                    repeat (refine And.intro (by clear hK; intros; first | omega | (simp_all; done) | (simp_all <;> omega)) ?_)
                    refine hK _ ?_; clear hK K; refine Nav.imp ?_
                    simp [push_cast]
                    exact hno (by rw [hat, hb]; rfl)
                  · simp at hb
                    refine awp_region cx [] fun K hK => ?_
                    simp [push_cast, e0]
                    repeat (refine And.intro (by clear hK; intros; first | omega | (simp_all; done) | (simp_all <;> omega)) ?_)
                    refine hK _ ?_; clear hK K; refine Nav.imp ?_
                    refine ⟨k + 1, ⟨hlt, by rw [all_range_succ, hall, hat, hb]; rfl⟩, by omega, ?_⟩
                    refine weak_of [(0, some 0)] rfl (by simp [upT, up, upL, push_cast]) (by simp [upH, upR, upL, up, push_cast]) (by simp [namesOk, push_cast]) (by simp [olds])
    · have hge : k = R.length := by simp at hb; omega
      subst hge
      refine awp_region cx [] fun K hK => ?_
      simp [push_cast]
      repeat (refine And.intro (by clear hK; intros; first | omega | (simp_all; done) | (simp_all <;> omega)) ?_)
      refine hK _ ?_; clear hK K; refine Nav.imp ?_
      simp [push_cast, validR, hall]
theorem valid_ok (R : List Row) (hR : smallR R) : PC Tryz.prog 53 [.agg (regRow R)] (.p (.bool (validR R))) := valid_big R (big_of hR)
end Go.Proofs.YtdddknniooimmaaGreat

namespace Go.Proofs.YtdddknniooimmaaGreat
open Go.Abs

end Go.Proofs.YtdddknniooimmaaGreat

namespace Go.Proofs.YtdddknniooimmaaGreat
open Go.Abs

def runCells (y : Int) (r : Run) : List Cell := (List.range (r.b - r.a).toNat).map fun k : Nat => ⟨r.a + k, y⟩
def rowCells (w : Row) : List Cell := w.runs.flatMap (runCells w.y)
def regCells (R : List Row) : List Cell := R.flatMap rowCells
def cellsOf (R : List Row) : List Cell := if validR R then regCells R else []

theorem flat_take {α β : Type} (f : α → List β) {l : List α} {i : Nat} {x : α} (h : l[i]? = some x) : (l.take (i + 1)).flatMap f = (l.take i).flatMap f ++ f x := by
  rw [take_get h]; simp
theorem runCells_len (y : Int) (r : Run) : (runCells y r).length = (r.b - r.a).toNat := by simp [runCells]

def rowsTo (R : List Row) (i : Nat) : List Cell := (R.take i).flatMap rowCells
def runsTo (w : Row) (k : Nat) : List Cell := (w.runs.take k).flatMap (runCells w.y)
theorem fine_at {l : List Run} (h : fine l = true) {k : Nat} {r : Run} (hr : l[k]? = some r) : -4096 ≤ r.a ∧ r.a < r.b ∧ r.b ≤ 4096 := by
  simp only [fine, Bool.and_eq_true] at h
  have hk := (List.getElem?_eq_some_iff.1 hr).1
  obtain ⟨p, hp⟩ : ∃ p, l[k - 1]? = some p := getq (by omega)
  have := all_range_at h.1 hk
  rw [fnAt_some hr hp] at this
  simp at this
  omega
theorem fine_ends {l : List Run} (h : fine l = true) : ∃ f z, l[0]? = some f ∧ l[l.length - 1]? = some z ∧ (-4096 ≤ f.a ∧ f.a < f.b ∧ f.b ≤ 4096) ∧ (-4096 ≤ z.a ∧ z.a < z.b ∧ z.b ≤ 4096) ∧ 0 < l.length := by
  have hp : 0 < l.length := by
    cases l with
    | nil => simp [fine] at h
    | cons a l => simp
  obtain ⟨f, hf⟩ : ∃ f, l[0]? = some f := getq hp
  obtain ⟨z, hz⟩ : ∃ f, l[l.length - 1]? = some f := getq (by omega)
  have h1 := fine_at h hf
  have h2 := fine_at h hz
  exact ⟨f, z, hf, hz, by omega, by omega, hp⟩

theorem fine_gap {l : List Run} (h : fine l = true) {k : Nat} {r p : Run} (hr : l[k + 1]? = some r) (hp : l[k]? = some p) : p.b < r.a := by
  simp only [fine, Bool.and_eq_true] at h
  have hk := (List.getElem?_eq_some_iff.1 hr).1
  have := all_range_at h.1 hk
  rw [fnAt_some hr (by simpa using hp)] at this
  simp at this
  omega
theorem validR_at {R : List Row} (h : validR R = true) {i : Nat} {w : Row} (hw : R[i]? = some w) : (-4096 ≤ w.y ∧ w.y < 4096) ∧ fine w.runs = true := by
  have hk := (List.getElem?_eq_some_iff.1 hw).1
  obtain ⟨p, hp⟩ : ∃ p, R[i - 1]? = some p := getq (by omega)
  have := all_range_at h hk
  rw [rowAt_some hw hp] at this
  simp [okB] at this
  exact ⟨this.1.1, this.2⟩
theorem validR_gap {R : List Row} (h : validR R = true) {i : Nat} {w p : Row} (hw : R[i + 1]? = some w) (hp : R[i]? = some p) : p.y < w.y := by
  have hk := (List.getElem?_eq_some_iff.1 hw).1
  have := all_range_at h hk
  rw [rowAt_some hw (by simpa using hp)] at this
  simp at this
  omega

end Go.Proofs.YtdddknniooimmaaGreat
