/-
  Texts of this seat put together: AbsY, AbsE, AbsF, H1, H2, H3.
-/
import Derived.Test.YtlfalheciadklaaJ3
import Derived.Test.YtlfalheciadklaaJ7
import Derived.Test.YtlfalheciadklaaJ5
import Derived.Test.YtlfalheciadklaaJ6
import Derived.Test.YtlfalheciadklaaJ10
import Derived.Shelf.SlSortCmp.NoneTotal
import Derived.Lib.QuietBelow
set_option linter.unusedVariables false
set_option linter.unusedSimpArgs false
namespace Go.Abs

def effY (P : Program) (f : FuncId) (c : XC) (ti : List (Nat × Nat)) (obj : Nat → Option Ob) (args : List AV) : Eff :=
  { val := dn (swp ti) c.r, wr := gone c.σ ++ back (swp ti) c.hp' ti,
    ob := (rnsOk c.σ c.as args ∧ hpOk obj c.σ c.hp ∧ nodupB (c.σ.map (·.2)) = true ∧ c.σ.map (·.1) = c.hp.map (·.1) ∧ nodupB (ti.map (·.1)) = true ∧ nodupB (ti.map (·.2)) = true) ∧ PX P f c.as c.hp c.pin c.hp' c.r }

/-- What a call leaves that makes objects with the names N. -/
def AfterN (g : G) (obj : Nat → Option Ob) (w : World) (N : Nat → Prop) (e : Eff) (v : Value) (w' : World) : Prop :=
  ∃ g', HRel g' (updL obj e.wr) w' ∧ Step g w g' w' ∧ Later g w g' w' ∧ (∀ k, g'.used k → g.used k ∨ N k) ∧ RepA g' w' e.val v

theorem y_sound {P : Program} {f : FuncId} {g : G} {obj : Nat → Option Ob} {w : World} (h : HRel g obj w) {c : XC} {ti : List (Nat × Nat)} {N : Nat → Prop} (hid : ∀ x, N x → ¬ g.used x) (hti : ∀ x j, find ti x = some j → N x ∨ ∃ i, (i, j) ∈ c.pin ∧ find c.σ i = some x) {args : List AV} {us : List Value} (hargs : RepAs g w args us) (hob : (effY P f c ti obj args).ob) :
    Calls P f us.toArray w fun e w' => ∃ v, e = .returned v ∧ AfterN g obj w N (effY P f c ti obj args) v w' := by
  obtain ⟨⟨ha, hhp, hσ0, hdom, ht10, ht20⟩, _, hpx⟩ := hob
  have hσ := nodup_of hσ0
  have ht1 := nodup_of ht10
  have ht2 := nodup_of ht20
  have hin : ∀ {i x}, find c.σ i = some x → (find c.hp i).isSome = true := fun {i x} hi => by
    have := find_key hi
    rw [hdom] at this
    obtain ⟨v, hv⟩ := find_some_of_key this
    rw [hv]; rfl
  let g0 : G := via g c.σ c.hp
  have hloc0 : ∀ i x, find c.σ i = some x → g0.loc i = g.loc x := fun i x hi => via_loc hi
  have hused0 : ∀ i x, find c.σ i = some x → g0.used i := fun i x hi => hin hi
  have hl0 : ∀ i L, g0.loc i = some L → ∃ x, find c.σ i = some x ∧ g.loc x = some L := fun i L hL => via_loc' hL
  have hH0 : HRel g0 (objL c.hp) w := via_rel h hhp hσ hdom
  refine (hpx g0 w us hH0 (fun _ hk => hk) (rnsOk_rep hused0 hloc0 (fun _ hb => hb) ha hargs)).mono fun e w' ⟨v, g1, he, hH1, hr1, hs1, hp1⟩ => ⟨v, he, ?_⟩
  have hown0 : ∀ b, g0.owns b → ∃ x, x ∈ c.σ.map (·.2) ∧ ∃ L, g.loc x = some L ∧ L.virt = false ∧ L.blk = b := by
    rintro b ⟨i, L, hL, hv, hb⟩
    obtain ⟨x, h1, h2⟩ := hl0 i L hL
    exact ⟨x, find_val h1, L, h2, hv, hb⟩
  have hkeep : ∀ x L, x ∉ c.σ.map (·.2) → g.loc x = some L → L.virt = false → ¬ g0.owns L.blk := by
    rintro x L hx hL hv ho
    obtain ⟨y, hy, M, hM, hvM, hb⟩ := hown0 _ ho
    have := h.inj y x M L hM hL hvM hv hb
    exact hx (this ▸ hy)
  let g2 : G := ⟨g1.ro, fun x => match find ti x with | some j => g1.loc j | none => if x ∈ c.σ.map (·.2) then none else g.loc x, fun x => g.used x ∨ find ti x ≠ none⟩
  have hg2t : ∀ x j, find ti x = some j → g2.loc x = g1.loc j := fun x j hx => by simp only [g2, hx]
  have hg2n : ∀ x, find ti x = none → g2.loc x = if x ∈ c.σ.map (·.2) then none else g.loc x := fun x hx => by simp only [g2, hx]
  have hτ : ∀ i x, find (swp ti) i = some x → find ti x = some i := fun i x hi => swp_find ht1 ht2 hi
  have hlater : Later g w g2 w' := by
    refine ⟨fun b hb => ⟨hs1.ro b hb, ?_⟩, fun x hx => .inl hx, fun x hx => ?_⟩
    · refine hs1.block b (h.ro b hb) fun ho => ?_
      obtain ⟨y, hy, M, hM, hvM, hbb⟩ := hown0 b ho
      exact ((h.live y M hM).2 hvM).2 (hbb ▸ hb)
    · cases hf : find ti x with
      | none =>
        rw [hg2n x hf]
        split
        · exact .inr rfl
        · exact .inl rfl
      | some j =>
        rcases hti x j hf with hN | ⟨i, h1, h2⟩
        · exact absurd hx (hid x hN)
        · left
          rw [hg2t x j hf, hp1 i j h1, hloc0 i x h2]
  have hobj2 : ∀ x, updL obj (effY P f c ti obj args).wr x = match find ti x with
      | some j => (find c.hp' j).map fun o => ⟨o.elem, o.m, dnR (swp ti) o.rows⟩
      | none => if x ∈ c.σ.map (·.2) then none else obj x := by
    intro x
    simp only [effY]
    rw [updL_append, updL_get (by rw [back_keys]; exact ht1), updL_get (by rw [gone_keys]; exact hσ), back_find, gone_find]
    cases find ti x with
    | some j => rfl
    | none => simp only [Option.map_none, Option.getD_none]; split <;> rfl
  refine ⟨g2, ⟨?_, ?_, ?_, ?_, hH1.ro⟩, ?_, hlater, ?_, ?_⟩
  · intro x o ho
    rw [hobj2] at ho
    cases hf : find ti x with
    | some j =>
      rw [hf] at ho
      simp only [Option.map_eq_some_iff] at ho
      obtain ⟨o1, ho1, rfl⟩ := ho
      obtain ⟨L, hL, hok⟩ := hH1.own j o1 ho1
      refine ⟨L, by rw [hg2t x j hf]; exact hL, hok.m, hok.pos, by simpa only [dnR_length] using hok.len, fun hv => by simp [hok.virt hv, dnR], fun hv => ?_, fun hv => ⟨(hok.ents hv).1, (hok.ents hv).2.imp fun es he => he.imp fun clock he => ⟨he.1, he.2.1, dnR_ents (fun i y hy => Or.inr (by rw [hτ i y hy]; simp)) (fun i y hy => hg2t y i (hτ i y hy)) (fun _ hb => hb) _ _ he.2.2⟩⟩⟩
      obtain ⟨cur, c1, c2, c3, c5⟩ := hok.cells hv
      refine ⟨cur, c1, c2, c3, fun k row hi => ?_⟩
      obtain ⟨r0, hr0, rfl⟩ := dnR_get _ _ k row hi
      obtain ⟨d1, d2⟩ := c5 k r0 hr0
      refine ⟨by rw [dnL_length]; exact d1, fun q av hq => ?_⟩
      obtain ⟨a0, ha0, rfl⟩ := dnL_get _ _ q av hq
      obtain ⟨u, q1, q2, q3⟩ := d2 q a0 ha0
      exact ⟨u, q1, q2, dn_rep (fun i y hy => Or.inr (by rw [hτ i y hy]; simp)) (fun i y hy => hg2t y i (hτ i y hy)) (fun _ hb => hb) _ _ q3⟩
    | none =>
      rw [hf] at ho
      simp only at ho
      split at ho
      · cases ho
      · rename_i hx
        obtain ⟨L, hL, hok⟩ := h.own x o ho
        exact ⟨L, by rw [hg2n x hf, if_neg hx]; exact hL, hok.later hlater fun hv => hs1.block _ ((h.live x L hL).2 hv).1 (hkeep x L hx hL hv)⟩
  · intro x hx
    rw [hobj2] at hx
    cases hf : find ti x with
    | some j =>
      rw [hf] at hx
      rw [hg2t x j hf]
      simp only [Option.map_eq_none_iff] at hx
      exact hH1.gone j hx
    | none =>
      rw [hf] at hx
      simp only at hx
      rw [hg2n x hf]
      split
      · rfl
      · rename_i hn; rw [if_neg hn] at hx; exact h.gone x hx
  · intro x L hL
    cases hf : find ti x with
    | some j =>
      rw [hg2t x j hf] at hL
      exact ⟨.inr (by rw [hf]; simp), (hH1.live j L hL).2⟩
    | none =>
      rw [hg2n x hf] at hL
      split at hL
      · cases hL
      · rename_i hx
        refine ⟨.inl (h.live x L hL).1, fun hv => ⟨Nat.lt_of_lt_of_le ((h.live x L hL).2 hv).1 hs1.size, fun hro => ?_⟩⟩
        rcases hs1.ro' _ hro with h1 | h1 | h1
        · exact ((h.live x L hL).2 hv).2 h1
        · have := ((h.live x L hL).2 hv).1; omega
        · exact hkeep x L hx hL hv h1
  · intro x y L L' hL hL' hv hv' hb
    have mix : ∀ x y L L', (∃ j, find ti x = some j) → find ti y = none → g2.loc x = some L → g2.loc y = some L' → L.virt = false → L'.virt = false → L.blk = L'.blk → False := by
      rintro x y L L' ⟨j, hx⟩ hy hL hL' hv hv' hb
      rw [hg2t x j hx] at hL
      rw [hg2n y hy] at hL'
      split at hL'
      · cases hL'
      · rename_i hny
        rcases hs1.own L.blk ⟨j, L, hL, hv, rfl⟩ with h1 | h1
        · have := ((h.live y L' hL').2 hv').1; omega
        · exact hkeep y L' hny hL' hv' (hb ▸ h1)
    cases hx : find ti x with
    | some j =>
      cases hy : find ti y with
      | some k =>
        rw [hg2t x j hx] at hL
        rw [hg2t y k hy] at hL'
        have := hH1.inj j k L L' hL hL' hv hv' hb
        subst this
        exact find_inj2 ht2 hx hy
      | none => exact (mix x y L L' ⟨j, hx⟩ hy hL hL' hv hv' hb).elim
    | none =>
      cases hy : find ti y with
      | some k => exact (mix y x L' L ⟨k, hy⟩ hx hL' hL hv' hv hb.symm).elim
      | none =>
        rw [hg2n x hx] at hL
        rw [hg2n y hy] at hL'
        split at hL
        · cases hL
        · split at hL'
          · cases hL'
          · exact h.inj x y L L' hL hL' hv hv' hb
  · refine ⟨hs1.os, hs1.tape, hs1.output, hs1.size, fun b hb hn => hs1.block b hb fun ho => hn ?_, ?_, fun b hb => hs1.ro b hb, fun b hb => ?_⟩
    · obtain ⟨x, _, L, h1, h2, h3⟩ := hown0 b ho
      exact ⟨x, L, h1, h2, h3⟩
    · rintro b ⟨x, L, hL, hv, hb⟩
      cases hf : find ti x with
      | some j =>
        rw [hg2t x j hf] at hL
        rcases hs1.own b ⟨j, L, hL, hv, hb⟩ with h1 | h1
        · exact .inl h1
        · obtain ⟨y, _, M, q1, q2, q3⟩ := hown0 b h1
          exact .inr ⟨y, M, q1, q2, q3⟩
      | none =>
        rw [hg2n x hf] at hL
        split at hL
        · cases hL
        · exact .inr ⟨x, L, hL, hv, hb⟩
    · rcases hs1.ro' b hb with h1 | h1 | h1
      · exact .inl h1
      · exact .inr (.inl h1)
      · obtain ⟨y, _, M, q1, q2, q3⟩ := hown0 b h1
        exact .inr (.inr ⟨y, M, q1, q2, q3⟩)
  · intro k hk
    rcases hk with hk | hk
    · exact .inl hk
    · cases hf : find ti k with
      | none => exact absurd hf hk
      | some j =>
        rcases hti k j hf with hN | ⟨i, h1, h2⟩
        · exact .inr hN
        · have h3 := hin h2
          obtain ⟨o, ho⟩ := Option.isSome_iff_exists.1 h3
          obtain ⟨x', o', q1, q2, _⟩ := hpOk_find hhp i o ho
          rw [h2] at q1
          cases q1
          obtain ⟨L, hL, _⟩ := h.own k o' q2
          exact .inl (h.live k L hL).1
  · exact dn_rep (fun i y hy => Or.inr (by rw [hτ i y hy]; simp)) (fun i y hy => hg2t y i (hτ i y hy)) (fun _ hb => hb) _ _ hr1

theorem wpT_sound2 {P : Program} {ty : TypeId → Option TI} (hc : Ctx P ty) {orc : List (Nat × Res)} {gs : List (Option Tmp)} {ops : Array Oper} (hgs : ∀ j : Nat, gs[j]? = (ops[j]?).map fun o : Oper => o.dst) {base nxt : Nat} {Q : Exit → Act → World → Prop} {K : St → Prop} {g0 : G} {w0 : World}
    {l2 : List Oper} {en n0 : Nat} (hQ : ∀ s g a w, s.nxt = nxt → s.n = n0 → Rel (· < base + en) g s.get s.obj s.n a w → Step g0 w0 g w → K s → wpList P ops Q l2 a w) :
    ∀ (l : List Oper) (i : Nat) (s : St) (g : G) (a : Act) (w : World), i + l.length = en → s.nxt = nxt → s.n = n0 → Rel (· < base + i) g s.get s.obj s.n a w → Step g0 w0 g w → wpT ty P orc gs base i l s K → wpList P ops Q (l ++ l2) a w
  | [], i, s, g, a, w, hle, hnx, hn0, h, hs, hk => hQ s g a w hnx hn0 (by simp at hle; rw [← hle]; exact h) hs hk
  | o :: rest, i, s, g, a, w, hle, hnx, hn0, h, hs, hk => by
    simp only [List.length_cons] at hle
    have hargs : RepAs g w (o.op.operands.toList.map s.eval) (o.op.operands.toList.map a.eval) := by
      refine RepAs.of_get (by simp) fun j av hj => ?_
      rw [List.getElem?_map] at hj ⊢
      cases hx : o.op.operands.toList[j]? with
      | none => rw [hx] at hj; cases hj
      | some x => rw [hx] at hj; cases hj; exact ⟨a.eval x, rfl, eval_rep h (fun _ => rfl) x⟩
    have relapp : ∀ (e : Eff) (g' : G) (a' : Act) (w' : World), Rel (fun k => k < base + i ∨ k = base + i) g' (putG s.get o.dst e.val) (updL s.obj e.wr) s.n a' w' → Rel (· < base + (i + 1)) g' (s.app o.dst e).get (s.app o.dst e).obj (s.app o.dst e).n a' w' := by
      intro e g' a' w' hr
      have hn : (s.app o.dst e).n = s.n := by unfold St.app St.put; cases o.dst <;> rfl
      rw [hn]
      exact ⟨hr.defers, hr.size, fun t => by rw [app_get]; exact hr.tmp t, fun id hu => by
        have := hr.used id hu
        show id < base + (i + 1)
        rcases this with hh | hh <;> omega, by
        have : (s.app o.dst e).obj = updL s.obj e.wr := funext (app_obj s o.dst e)
        rw [this]; exact hr.heap⟩
    have hnapp : ∀ e, (s.app o.dst e).nxt = nxt := fun e => by rw [← hnx]; unfold St.app St.put; cases o.dst <;> rfl
    have hna : ∀ e, (s.app o.dst e).n = s.n := fun e => by unfold St.app St.put; cases o.dst <;> rfl
    have hnput : ∀ v, (s.put o.dst v).nxt = nxt := fun v => by rw [← hnx]; unfold St.put; cases o.dst <;> rfl
    have hnn : ∀ v, (s.put o.dst v).n = s.n := fun v => by unfold St.put; cases o.dst <;> rfl
    have relput : ∀ (v : AV) (g' : G) (a' : Act) (w' : World) (U : Nat → Prop), (∀ k, U k → k < base + (i + 1)) → Rel U g' (putG s.get o.dst v) s.obj s.n a' w' → Rel (· < base + (i + 1)) g' (s.put o.dst v).get (s.put o.dst v).obj (s.put o.dst v).n a' w' := by
      intro v g' a' w' U hU hr
      rw [hnn]
      have := hr.congr (get' := (s.put o.dst v).get) (obj' := (s.put o.dst v).obj) (fun t => St.get_put s o.dst v t) (fun id => put_obj s o.dst v id)
      exact ⟨this.defers, this.size, this.tmp, fun k hk => hU k (this.used k hk), this.heap⟩
    have skipped : ∀ v, (∀ d, o.dst = some d → d < s.n) → RepA g w v undef → wpT ty P orc gs base (i + 1) rest (s.put o.dst v) K → wpList P ops Q (rest ++ l2) (a.put o.dst undef) w := by
      intro v hd hv hrest
      have hr := rel_put (U' := (· < base + i)) (dst := o.dst) (v := v) (u := undef) h h.heap ⟨fun b hb => ⟨hb, rfl⟩, fun _ hx => hx, fun _ _ => .inl rfl⟩ (fun k hk => h.used k hk) hv hd
      exact wpT_sound2 (nxt := nxt) hc hgs hQ rest (i + 1) _ g _ w (by omega) (hnput v) ((hnn v).trans hn0) (relput v g _ w _ (fun k hk => by omega) hr) hs hrest
    simp only [List.cons_append, wpList]
    unfold wpT at hk
    split at hk
    · rename_i hg
      have hw : Region.wanted o (yielded ops a.tmps) = true := by simp [Region.wanted, hg]
      rw [if_pos hw]
      left
      unfold doOp at hk
      split at hk
      · rename_i e he
        obtain ⟨hob, hd, hrest⟩ := hk
        exact op_step hc (nid := base + i) h (by simp) hargs he hob (fun d hd' => by rw [hd'] at hd; exact hd) fun g' a' w' hr hst =>
          wpT_sound2 (nxt := nxt) hc hgs hQ rest (i + 1) (s.app o.dst e) g' a' w' (by omega) (hnapp e) ((hna e).trans hn0) (relapp e g' a' w' hr) (hs.trans hst) hrest
      · exact hk.elim
    · rename_i j want hg
      split at hk
      · rename_i x hgv
        have hw := guard_wanted (a := a) hgs h.tmp hg hgv
        rw [hw]
        obtain ⟨hd, hk⟩ := hk
        have hd' : ∀ d, o.dst = some d → d < s.n := fun d hd' => by rw [hd'] at hd; exact hd
        split at hk
        · rename_i e he
          split at hk
          · rename_i hwr
            obtain ⟨hexec, hrest⟩ := hk
            cases x with
            | true =>
              rw [if_pos rfl]
              left
              obtain ⟨hso, hob⟩ := hexec rfl
              refine op_step hc (nid := base + i) h (by simp) (strips_repG hargs hso) he hob hd' fun g' a' w' hr hst => ?_
              rw [hwr] at hr
              exact wpT_sound2 (nxt := nxt) hc hgs hQ rest (i + 1) _ g' a' w' (by omega) (hnput _) ((hnn _).trans hn0) (relput _ g' a' w' _ (fun k hk => by rcases hk with hh | hh <;> omega) hr.opt) (hs.trans hst) hrest
            | false =>
              rw [if_neg (by simp)]
              exact skipped _ hd' (by simp [RepA]) hrest
          · obtain ⟨rfl, hso, hob, hrest⟩ := hk
            rw [if_pos rfl]
            left
            exact op_step hc (nid := base + i) h (by simp) (strips_repG hargs hso) he hob hd' fun g' a' w' hr hst =>
              wpT_sound2 (nxt := nxt) hc hgs hQ rest (i + 1) (s.app o.dst e) g' a' w' (by omega) (hnapp e) ((hna e).trans hn0) (relapp e g' a' w' hr) (hs.trans hst) hrest
        · obtain ⟨rfl, hrest⟩ := hk
          rw [if_neg (by simp)]
          exact skipped _ hd' (by simp [RepA]) hrest
      · exact hk.elim


/-- The new names of a call. -/
def freshOk (lo n : Nat) : List (Nat × Nat) → Prop
  | [] => True
  | (x, _) :: r => (lo ≤ x ∧ x < lo + n) ∧ freshOk lo n r
theorem freshOk_find {lo n x j : Nat} : ∀ {l : List (Nat × Nat)}, freshOk lo n l → find l x = some j → lo ≤ x ∧ x < lo + n
  | [], _, h => by simp [find] at h
  | (y, k) :: r, hl, h => by
    simp only [freshOk] at hl
    simp only [find] at h
    split at h
    · rename_i e; rw [← e]; exact hl.1
    · exact freshOk_find hl.2 h
theorem find_append' {α : Type} (x : Nat) : ∀ (a b : List (Nat × α)), find (a ++ b) x = (find a x).or (find b x)
  | [], b => by simp [find]
  | (y, k) :: r, b => by
    simp only [List.cons_append, find]
    split
    · rfl
    · exact find_append' x r b

/-- A REGION IN THE TEXT's ORDER with one call that makes m more objects than one. -/
theorem awp_region2 {P : Program} {ty : TypeId → Option TI} (hc : Ctx P ty) (orc : List (Nat × Res)) {id : Nat} {l pre post : List Oper} {o : Oper} (hl : l = pre ++ o :: post) (hg : o.guard = none) {cl : Call} {fo : Operand} (ho : o.op = .call cl) (hcal : cl.callee = .value fo) (m : Nat) (c : XC) (fr : List (Nat × Nat)) {Q : Exit → St → Prop} {s : St}
    (h : ∀ K : St → Prop, (∀ s', Q .normal s' → K s') → wpT ty P orc (l.map (·.dst)) s.nxt 0 pre { s with nxt := s.nxt + l.length + m } fun s1 =>
      match calleeA (s1.eval fo) with
      | some q => freshOk (s.nxt + pre.length) (m + 1) fr ∧ (effY P q.1 c (fr ++ pinT c.σ c.pin) s1.obj (cl.args.toList.map s1.eval ++ q.2)).ob ∧ (match o.dst with | some d => d < s1.n | none => True) ∧
          wpT ty P orc (l.map (·.dst)) (s.nxt + m) (pre.length + 1) post (s1.app o.dst (effY P q.1 c (fr ++ pinT c.σ c.pin) s1.obj (cl.args.toList.map s1.eval ++ q.2))) K
      | none => False) : AWp P (.region id l.toArray false) Q s := by
  intro g a w hr
  refine wp_region ?_
  have hgs : ∀ j : Nat, (l.map (·.dst))[j]? = (l.toArray[j]?).map fun o : Oper => o.dst := by intro j; simp
  have hlen : l.length = pre.length + 1 + post.length := by rw [hl]; simp; omega
  have hh := h _ fun _ hq => hq
  have key : wpList P l.toArray (fun e a' w' => ∃ s' g', RelS s' g' a' w' ∧ Step g w g' w' ∧ Q e s') l a w := by
    have h2 := wpT_sound2 (P := P) hc (orc := orc) (gs := l.map (·.dst)) (ops := l.toArray) hgs (base := s.nxt) (nxt := s.nxt + l.length + m)
      (Q := fun e a' w' => ∃ s' g', RelS s' g' a' w' ∧ Step g w g' w' ∧ Q e s') (g0 := g) (w0 := w) (l2 := o :: post) (en := pre.length) (n0 := s.n) (K := fun s1 =>
        match calleeA (s1.eval fo) with
        | some q => freshOk (s.nxt + pre.length) (m + 1) fr ∧ (effY P q.1 c (fr ++ pinT c.σ c.pin) s1.obj (cl.args.toList.map s1.eval ++ q.2)).ob ∧ (match o.dst with | some d => d < s1.n | none => True) ∧
            wpT ty P orc (l.map (·.dst)) (s.nxt + m) (pre.length + 1) post (s1.app o.dst (effY P q.1 c (fr ++ pinT c.σ c.pin) s1.obj (cl.args.toList.map s1.eval ++ q.2))) fun s' => Q .normal s'
        | none => False) ?_ pre 0 { s with nxt := s.nxt + l.length + m } g a w (by simp) rfl rfl ⟨hr.defers, hr.size, hr.tmp, fun id hu => by have := hr.used id hu; simpa using this, hr.heap⟩ (Step.refl g w) hh
    · rw [← hl] at h2; exact h2
    · intro s1 g1 a1 w1 hnx hn0 hrel hst hk
      simp only [wpList]
      have hw : Region.wanted o (yielded l.toArray a1.tmps) = true := by simp [Region.wanted, hg]
      rw [if_pos hw]
      left
      have hev : ∀ x : Operand, RepA g1 w1 (s1.eval x) (a1.eval x) := fun x => eval_rep hrel (fun _ => rfl) x
      cases hq : calleeA (s1.eval fo) with
      | none => rw [hq] at hk; exact hk.elim
      | some q =>
        rw [hq] at hk
        obtain ⟨hfr, hob, hd, hrest⟩ := hk
        obtain ⟨k, caps⟩ := q
        have hargs : RepAs g1 w1 (cl.args.toList.map s1.eval) (cl.args.toList.map a1.eval) := by
          refine RepAs.of_get (by simp) fun j av hj => ?_
          rw [List.getElem?_map] at hj ⊢
          cases hx : cl.args.toList[j]? with
          | none => rw [hx] at hj; cases hj
          | some x => rw [hx] at hj; cases hj; exact ⟨a1.eval x, rfl, hev x⟩
        have hf : ∃ cs : List Value, a1.eval fo = .func (.func k) #[] cs.toArray ∧ RepAs g1 w1 caps cs := by
          have hfv := hev fo
          unfold calleeA at hq
          split at hq
          · rename_i heq
            cases hq
            rw [heq] at hfv
            simp only [RepA, RepD] at hfv
            obtain ⟨cs, h1, h2⟩ := hfv
            exact ⟨cs, h1, RepAs.of_ds h2⟩
          · rename_i heq
            cases hq
            rw [heq] at hfv
            simp only [RepA] at hfv
            exact hfv
          · cases hq
        obtain ⟨cs, hcs, hrc⟩ := hf
        obtain ⟨fn, hfn, hname, hbody⟩ := hob.2.1
        have hrun : (execOp a1.eval o).run P w1 = .ok (.enter k ((cl.args.toList.map a1.eval) ++ cs).toArray) w1 := by
          unfold execOp
          simp only [ho, resolve, hcal, Deferred.ofValue, hcs, Sem.run_bind, Sem.run_pure, Result.andThen_ok, invoke, callFunc, run_program, hfn, hname, hbody, Bool.false_eq_true, if_false]
          congr 2
          simp
        have hys := y_sound (N := fun x => s.nxt + pre.length ≤ x ∧ x < s.nxt + pre.length + (m + 1)) hrel.heap (fun x hx hu => by have := hrel.used x hu; omega) (c := c) (ti := fr ++ pinT c.σ c.pin) (fun x j hxj => by
          rw [find_append'] at hxj
          cases hfx : find fr x with
          | some j' => exact .inl (freshOk_find hfr hfx)
          | none =>
            rw [hfx] at hxj
            exact .inr (pinT_find hxj)) (hargs.append hrc) hob
        refine does_calls hrun hys _ _ fun v w2 hA => ?_
        obtain ⟨g2, k1, k2, k3, k4, k5⟩ := hA
        have hput := rel_put (U' := fun x => x < s.nxt + m + (pre.length + 1)) (dst := o.dst) hrel k1 k3 (fun x hx => by
          rcases k4 x hx with hx | hx
          · have := hrel.used x hx; omega
          · omega) k5 (fun d hd' => by rw [hd'] at hd; exact hd)
        have hn : (s1.app o.dst (effY P k c (fr ++ pinT c.σ c.pin) s1.obj (cl.args.toList.map s1.eval ++ caps))).n = s1.n := by unfold St.app St.put; cases o.dst <;> rfl
        have hnx' : (s1.app o.dst (effY P k c (fr ++ pinT c.σ c.pin) s1.obj (cl.args.toList.map s1.eval ++ caps))).nxt = s.nxt + l.length + m := by rw [← hnx]; unfold St.app St.put; cases o.dst <;> rfl
        refine wpT_sound (P := P) hc (orc := orc) (gs := l.map (·.dst)) (ops := l.toArray) hgs (base := s.nxt + m) (nxt := s.nxt + l.length + m) (K := fun s' => Q .normal s') (g0 := g) (w0 := w)
          (fun s' g' a' w' h1 h2 h3 => ⟨s', g', h1, h2, h3⟩) post (pre.length + 1) _ g2 _ w2 (by omega) hnx' ?_ (hst.trans k2) hrest
        rw [hn]
        exact ⟨hput.defers, hput.size, fun t => by rw [app_get]; exact hput.tmp t, hput.used, by
          have : (s1.app o.dst (effY P k c (fr ++ pinT c.σ c.pin) s1.obj (cl.args.toList.map s1.eval ++ caps))).obj = updL s1.obj (effY P k c (fr ++ pinT c.σ c.pin) s1.obj (cl.args.toList.map s1.eval ++ caps)).wr := funext (app_obj s1 o.dst _)
          rw [this]; exact hput.heap⟩
  have := wpOps_eq_wpList (P := P) (ops := l.toArray) (Q := fun e a' w' => ∃ s' g', RelS s' g' a' w' ∧ Step g w g' w' ∧ Q e s') l 0 (by intro j; simp)
  rw [show List.range l.toArray.size = List.range' 0 l.length by simp [List.range_eq_range'], this]
  exact key
end Go.Abs

set_option linter.unusedVariables false
set_option linter.unusedSimpArgs false
namespace Go.Abs

theorem y_core {P : Program} {f : FuncId} {g : G} {obj : Nat → Option Ob} {w : World} (h : HRel g obj w) {c : XC} {ti : List (Nat × Nat)} {N : Nat → Prop} (hid : ∀ x, N x → ¬ g.used x) (hti : ∀ x j, find ti x = some j → N x ∨ ∃ i, (i, j) ∈ c.pin ∧ find c.σ i = some x) {args : List AV} (hob : (rnsOk c.σ c.as args ∧ hpOk obj c.σ c.hp ∧ nodupB (c.σ.map (·.2)) = true ∧ c.σ.map (·.1) = c.hp.map (·.1) ∧ nodupB (ti.map (·.1)) = true ∧ nodupB (ti.map (·.2)) = true))
    {v : Value} {w' : World} {g1 : G} (hH1 : HRel g1 (objL c.hp') w') (hr1 : RepA g1 w' c.r v) (hs1 : Step (via g c.σ c.hp) w g1 w') (hp1 : ∀ i j, (i, j) ∈ c.pin → g1.loc j = (via g c.σ c.hp).loc i) : AfterN g obj w N (effY P f c ti obj args) v w' := by
  obtain ⟨ha, hhp, hσ0, hdom, ht10, ht20⟩ := hob
  have hσ := nodup_of hσ0
  have ht1 := nodup_of ht10
  have ht2 := nodup_of ht20
  have hin : ∀ {i x}, find c.σ i = some x → (find c.hp i).isSome = true := fun {i x} hi => by
    have := find_key hi
    rw [hdom] at this
    obtain ⟨v, hv⟩ := find_some_of_key this
    rw [hv]; rfl
  let g0 : G := via g c.σ c.hp
  have hloc0 : ∀ i x, find c.σ i = some x → g0.loc i = g.loc x := fun i x hi => via_loc hi
  have hused0 : ∀ i x, find c.σ i = some x → g0.used i := fun i x hi => hin hi
  have hl0 : ∀ i L, g0.loc i = some L → ∃ x, find c.σ i = some x ∧ g.loc x = some L := fun i L hL => via_loc' hL
  have hH0 : HRel g0 (objL c.hp) w := via_rel h hhp hσ hdom
  have hown0 : ∀ b, g0.owns b → ∃ x, x ∈ c.σ.map (·.2) ∧ ∃ L, g.loc x = some L ∧ L.virt = false ∧ L.blk = b := by
    rintro b ⟨i, L, hL, hv, hb⟩
    obtain ⟨x, h1, h2⟩ := hl0 i L hL
    exact ⟨x, find_val h1, L, h2, hv, hb⟩
  have hkeep : ∀ x L, x ∉ c.σ.map (·.2) → g.loc x = some L → L.virt = false → ¬ g0.owns L.blk := by
    rintro x L hx hL hv ho
    obtain ⟨y, hy, M, hM, hvM, hb⟩ := hown0 _ ho
    have := h.inj y x M L hM hL hvM hv hb
    exact hx (this ▸ hy)
  let g2 : G := ⟨g1.ro, fun x => match find ti x with | some j => g1.loc j | none => if x ∈ c.σ.map (·.2) then none else g.loc x, fun x => g.used x ∨ find ti x ≠ none⟩
  have hg2t : ∀ x j, find ti x = some j → g2.loc x = g1.loc j := fun x j hx => by simp only [g2, hx]
  have hg2n : ∀ x, find ti x = none → g2.loc x = if x ∈ c.σ.map (·.2) then none else g.loc x := fun x hx => by simp only [g2, hx]
  have hτ : ∀ i x, find (swp ti) i = some x → find ti x = some i := fun i x hi => swp_find ht1 ht2 hi
  have hlater : Later g w g2 w' := by
    refine ⟨fun b hb => ⟨hs1.ro b hb, ?_⟩, fun x hx => .inl hx, fun x hx => ?_⟩
    · refine hs1.block b (h.ro b hb) fun ho => ?_
      obtain ⟨y, hy, M, hM, hvM, hbb⟩ := hown0 b ho
      exact ((h.live y M hM).2 hvM).2 (hbb ▸ hb)
    · cases hf : find ti x with
      | none =>
        rw [hg2n x hf]
        split
        · exact .inr rfl
        · exact .inl rfl
      | some j =>
        rcases hti x j hf with hN | ⟨i, h1, h2⟩
        · exact absurd hx (hid x hN)
        · left
          rw [hg2t x j hf, hp1 i j h1, hloc0 i x h2]
  have hobj2 : ∀ x, updL obj (effY P f c ti obj args).wr x = match find ti x with
      | some j => (find c.hp' j).map fun o => ⟨o.elem, o.m, dnR (swp ti) o.rows⟩
      | none => if x ∈ c.σ.map (·.2) then none else obj x := by
    intro x
    simp only [effY]
    rw [updL_append, updL_get (by rw [back_keys]; exact ht1), updL_get (by rw [gone_keys]; exact hσ), back_find, gone_find]
    cases find ti x with
    | some j => rfl
    | none => simp only [Option.map_none, Option.getD_none]; split <;> rfl
  refine ⟨g2, ⟨?_, ?_, ?_, ?_, hH1.ro⟩, ?_, hlater, ?_, ?_⟩
  · intro x o ho
    rw [hobj2] at ho
    cases hf : find ti x with
    | some j =>
      rw [hf] at ho
      simp only [Option.map_eq_some_iff] at ho
      obtain ⟨o1, ho1, rfl⟩ := ho
      obtain ⟨L, hL, hok⟩ := hH1.own j o1 ho1
      refine ⟨L, by rw [hg2t x j hf]; exact hL, hok.m, hok.pos, by simpa only [dnR_length] using hok.len, fun hv => by simp [hok.virt hv, dnR], fun hv => ?_, fun hv => ⟨(hok.ents hv).1, (hok.ents hv).2.imp fun es he => he.imp fun clock he => ⟨he.1, he.2.1, dnR_ents (fun i y hy => Or.inr (by rw [hτ i y hy]; simp)) (fun i y hy => hg2t y i (hτ i y hy)) (fun _ hb => hb) _ _ he.2.2⟩⟩⟩
      obtain ⟨cur, c1, c2, c3, c5⟩ := hok.cells hv
      refine ⟨cur, c1, c2, c3, fun k row hi => ?_⟩
      obtain ⟨r0, hr0, rfl⟩ := dnR_get _ _ k row hi
      obtain ⟨d1, d2⟩ := c5 k r0 hr0
      refine ⟨by rw [dnL_length]; exact d1, fun q av hq => ?_⟩
      obtain ⟨a0, ha0, rfl⟩ := dnL_get _ _ q av hq
      obtain ⟨u, q1, q2, q3⟩ := d2 q a0 ha0
      exact ⟨u, q1, q2, dn_rep (fun i y hy => Or.inr (by rw [hτ i y hy]; simp)) (fun i y hy => hg2t y i (hτ i y hy)) (fun _ hb => hb) _ _ q3⟩
    | none =>
      rw [hf] at ho
      simp only at ho
      split at ho
      · cases ho
      · rename_i hx
        obtain ⟨L, hL, hok⟩ := h.own x o ho
        exact ⟨L, by rw [hg2n x hf, if_neg hx]; exact hL, hok.later hlater fun hv => hs1.block _ ((h.live x L hL).2 hv).1 (hkeep x L hx hL hv)⟩
  · intro x hx
    rw [hobj2] at hx
    cases hf : find ti x with
    | some j =>
      rw [hf] at hx
      rw [hg2t x j hf]
      simp only [Option.map_eq_none_iff] at hx
      exact hH1.gone j hx
    | none =>
      rw [hf] at hx
      simp only at hx
      rw [hg2n x hf]
      split
      · rfl
      · rename_i hn; rw [if_neg hn] at hx; exact h.gone x hx
  · intro x L hL
    cases hf : find ti x with
    | some j =>
      rw [hg2t x j hf] at hL
      exact ⟨.inr (by rw [hf]; simp), (hH1.live j L hL).2⟩
    | none =>
      rw [hg2n x hf] at hL
      split at hL
      · cases hL
      · rename_i hx
        refine ⟨.inl (h.live x L hL).1, fun hv => ⟨Nat.lt_of_lt_of_le ((h.live x L hL).2 hv).1 hs1.size, fun hro => ?_⟩⟩
        rcases hs1.ro' _ hro with h1 | h1 | h1
        · exact ((h.live x L hL).2 hv).2 h1
        · have := ((h.live x L hL).2 hv).1; omega
        · exact hkeep x L hx hL hv h1
  · intro x y L L' hL hL' hv hv' hb
    have mix : ∀ x y L L', (∃ j, find ti x = some j) → find ti y = none → g2.loc x = some L → g2.loc y = some L' → L.virt = false → L'.virt = false → L.blk = L'.blk → False := by
      rintro x y L L' ⟨j, hx⟩ hy hL hL' hv hv' hb
      rw [hg2t x j hx] at hL
      rw [hg2n y hy] at hL'
      split at hL'
      · cases hL'
      · rename_i hny
        rcases hs1.own L.blk ⟨j, L, hL, hv, rfl⟩ with h1 | h1
        · have := ((h.live y L' hL').2 hv').1; omega
        · exact hkeep y L' hny hL' hv' (hb ▸ h1)
    cases hx : find ti x with
    | some j =>
      cases hy : find ti y with
      | some k =>
        rw [hg2t x j hx] at hL
        rw [hg2t y k hy] at hL'
        have := hH1.inj j k L L' hL hL' hv hv' hb
        subst this
        exact find_inj2 ht2 hx hy
      | none => exact (mix x y L L' ⟨j, hx⟩ hy hL hL' hv hv' hb).elim
    | none =>
      cases hy : find ti y with
      | some k => exact (mix y x L' L ⟨k, hy⟩ hx hL' hL hv' hv hb.symm).elim
      | none =>
        rw [hg2n x hx] at hL
        rw [hg2n y hy] at hL'
        split at hL
        · cases hL
        · split at hL'
          · cases hL'
          · exact h.inj x y L L' hL hL' hv hv' hb
  · refine ⟨hs1.os, hs1.tape, hs1.output, hs1.size, fun b hb hn => hs1.block b hb fun ho => hn ?_, ?_, fun b hb => hs1.ro b hb, fun b hb => ?_⟩
    · obtain ⟨x, _, L, h1, h2, h3⟩ := hown0 b ho
      exact ⟨x, L, h1, h2, h3⟩
    · rintro b ⟨x, L, hL, hv, hb⟩
      cases hf : find ti x with
      | some j =>
        rw [hg2t x j hf] at hL
        rcases hs1.own b ⟨j, L, hL, hv, hb⟩ with h1 | h1
        · exact .inl h1
        · obtain ⟨y, _, M, q1, q2, q3⟩ := hown0 b h1
          exact .inr ⟨y, M, q1, q2, q3⟩
      | none =>
        rw [hg2n x hf] at hL
        split at hL
        · cases hL
        · exact .inr ⟨x, L, hL, hv, hb⟩
    · rcases hs1.ro' b hb with h1 | h1 | h1
      · exact .inl h1
      · exact .inr (.inl h1)
      · obtain ⟨y, _, M, q1, q2, q3⟩ := hown0 b h1
        exact .inr (.inr ⟨y, M, q1, q2, q3⟩)
  · intro k hk
    rcases hk with hk | hk
    · exact .inl hk
    · cases hf : find ti k with
      | none => exact absurd hf hk
      | some j =>
        rcases hti k j hf with hN | ⟨i, h1, h2⟩
        · exact .inr hN
        · have h3 := hin h2
          obtain ⟨o, ho⟩ := Option.isSome_iff_exists.1 h3
          obtain ⟨x', o', q1, q2, _⟩ := hpOk_find hhp i o ho
          rw [h2] at q1
          cases q1
          obtain ⟨L, hL, _⟩ := h.own k o' q2
          exact .inl (h.live k L hL).1
  · exact dn_rep (fun i y hy => Or.inr (by rw [hτ i y hy]; simp)) (fun i y hy => hg2t y i (hτ i y hy)) (fun _ hb => hb) _ _ hr1

/-- A contract with more than one outcome. -/
def PXE (P : Program) (f : FuncId) (av : List AV) (hp : List (Nat × Ob)) (pin : List (Nat × Nat)) (Out : List (Nat × Ob) → AV → Prop) : Prop :=
  Enters P f ∧ ∀ (g : G) (w : World) (vs : List Value), HRel g (objL hp) w → (∀ id, g.used id → (find hp id).isSome = true) → RepAs g w av vs →
    Calls P f vs.toArray w fun e w' => ∃ v g' hp' r, e = .returned v ∧ Out hp' r ∧ HRel g' (objL hp') w' ∧ RepA g' w' r v ∧ Step g w g' w' ∧ ∀ i j, (i, j) ∈ pin → g'.loc j = g.loc i

def obE (c : XC) (ti : List (Nat × Nat)) (obj : Nat → Option Ob) (args : List AV) : Prop :=
  (rnsOk c.σ c.as args ∧ hpOk obj c.σ c.hp ∧ nodupB (c.σ.map (·.2)) = true ∧ c.σ.map (·.1) = c.hp.map (·.1) ∧ nodupB (ti.map (·.1)) = true ∧ nodupB (ti.map (·.2)) = true)
theorem y_soundE {P : Program} {f : FuncId} {g : G} {obj : Nat → Option Ob} {w : World} (h : HRel g obj w) {c : XC} {Out : List (Nat × Ob) → AV → Prop} {ti : List (Nat × Nat)} {N : Nat → Prop} (hid : ∀ x, N x → ¬ g.used x) (hti : ∀ x j, find ti x = some j → N x ∨ ∃ i, (i, j) ∈ c.pin ∧ find c.σ i = some x) {args : List AV} {us : List Value} (hargs : RepAs g w args us)
    (hob : obE c ti obj args) (hpx : PXE P f c.as c.hp c.pin Out) :
    Calls P f us.toArray w fun e w' => ∃ v hp' r, e = .returned v ∧ Out hp' r ∧ AfterN g obj w N (effY P f { c with hp' := hp', r := r } ti obj args) v w' := by
  have hob0 := hob
  obtain ⟨ha, hhp, hσ0, hdom, ht10, ht20⟩ := hob
  have hσ := nodup_of hσ0
  have hin : ∀ {i x}, find c.σ i = some x → (find c.hp i).isSome = true := fun {i x} hi => via_used hdom hi
  have hH0 : HRel (via g c.σ c.hp) (objL c.hp) w := via_rel h hhp hσ hdom
  refine (hpx.2 (via g c.σ c.hp) w us hH0 (fun _ hk => hk) (rnsOk_rep (fun i x hi => hin hi) (fun i x hi => via_loc hi) (fun _ hb => hb) ha hargs)).mono fun e w' ⟨v, g1, hp', r, he, hO, hH1, hr1, hs1, hp1⟩ => ⟨v, hp', r, he, hO, ?_⟩
  exact y_core (c := { c with hp' := hp', r := r }) h hid hti hob0 hH1 hr1 hs1 hp1

/-- A REGION IN THE TEXT's ORDER with one call that has more than one outcome. -/
theorem awp_regionE {P : Program} {ty : TypeId → Option TI} (hc : Ctx P ty) (orc : List (Nat × Res)) {id : Nat} {l pre post : List Oper} {o : Oper} (hl : l = pre ++ o :: post) (hg : o.guard = none) {cl : Call} {fo : Operand} (ho : o.op = .call cl) (hcal : cl.callee = .value fo) (m : Nat) (c : XC) (Out : List (Nat × Ob) → AV → Prop) (fr : List (Nat × Nat)) {Q : Exit → St → Prop} {s : St}
    (h : ∀ K : St → Prop, (∀ s', Q .normal s' → K s') → wpT ty P orc (l.map (·.dst)) s.nxt 0 pre { s with nxt := s.nxt + l.length + m } fun s1 =>
      match calleeA (s1.eval fo) with
      | some q => freshOk (s.nxt + pre.length) (m + 1) fr ∧ obE c (fr ++ pinT c.σ c.pin) s1.obj (cl.args.toList.map s1.eval ++ q.2) ∧ PXE P q.1 c.as c.hp c.pin Out ∧ (match o.dst with | some d => d < s1.n | none => True) ∧
          ∀ hp' r, Out hp' r → wpT ty P orc (l.map (·.dst)) (s.nxt + m) (pre.length + 1) post (s1.app o.dst (effY P q.1 { c with hp' := hp', r := r } (fr ++ pinT c.σ c.pin) s1.obj (cl.args.toList.map s1.eval ++ q.2))) K
      | none => False) : AWp P (.region id l.toArray false) Q s := by
  intro g a w hr
  refine wp_region ?_
  have hgs : ∀ j : Nat, (l.map (·.dst))[j]? = (l.toArray[j]?).map fun o : Oper => o.dst := by intro j; simp
  have hlen : l.length = pre.length + 1 + post.length := by rw [hl]; simp; omega
  have hh := h _ fun _ hq => hq
  have key : wpList P l.toArray (fun e a' w' => ∃ s' g', RelS s' g' a' w' ∧ Step g w g' w' ∧ Q e s') l a w := by
    have h2 := wpT_sound2 (P := P) hc (orc := orc) (gs := l.map (·.dst)) (ops := l.toArray) hgs (base := s.nxt) (nxt := s.nxt + l.length + m)
      (Q := fun e a' w' => ∃ s' g', RelS s' g' a' w' ∧ Step g w g' w' ∧ Q e s') (g0 := g) (w0 := w) (l2 := o :: post) (en := pre.length) (n0 := s.n) (K := fun s1 =>
        match calleeA (s1.eval fo) with
        | some q => freshOk (s.nxt + pre.length) (m + 1) fr ∧ obE c (fr ++ pinT c.σ c.pin) s1.obj (cl.args.toList.map s1.eval ++ q.2) ∧ PXE P q.1 c.as c.hp c.pin Out ∧ (match o.dst with | some d => d < s1.n | none => True) ∧
            ∀ hp' r, Out hp' r → wpT ty P orc (l.map (·.dst)) (s.nxt + m) (pre.length + 1) post (s1.app o.dst (effY P q.1 { c with hp' := hp', r := r } (fr ++ pinT c.σ c.pin) s1.obj (cl.args.toList.map s1.eval ++ q.2))) fun s' => Q .normal s'
        | none => False) ?_ pre 0 { s with nxt := s.nxt + l.length + m } g a w (by simp) rfl rfl ⟨hr.defers, hr.size, hr.tmp, fun id hu => by have := hr.used id hu; simpa using this, hr.heap⟩ (Step.refl g w) hh
    · rw [← hl] at h2; exact h2
    · intro s1 g1 a1 w1 hnx hn0 hrel hst hk
      simp only [wpList]
      have hw : Region.wanted o (yielded l.toArray a1.tmps) = true := by simp [Region.wanted, hg]
      rw [if_pos hw]
      left
      have hev : ∀ x : Operand, RepA g1 w1 (s1.eval x) (a1.eval x) := fun x => eval_rep hrel (fun _ => rfl) x
      cases hq : calleeA (s1.eval fo) with
      | none => rw [hq] at hk; exact hk.elim
      | some q =>
        rw [hq] at hk
        obtain ⟨hfr, hob, hpx, hd, hrest⟩ := hk
        obtain ⟨k, caps⟩ := q
        have hargs : RepAs g1 w1 (cl.args.toList.map s1.eval) (cl.args.toList.map a1.eval) := by
          refine RepAs.of_get (by simp) fun j av hj => ?_
          rw [List.getElem?_map] at hj ⊢
          cases hx : cl.args.toList[j]? with
          | none => rw [hx] at hj; cases hj
          | some x => rw [hx] at hj; cases hj; exact ⟨a1.eval x, rfl, hev x⟩
        have hf : ∃ cs : List Value, a1.eval fo = .func (.func k) #[] cs.toArray ∧ RepAs g1 w1 caps cs := by
          have hfv := hev fo
          unfold calleeA at hq
          split at hq
          · rename_i heq
            cases hq
            rw [heq] at hfv
            simp only [RepA, RepD] at hfv
            obtain ⟨cs, h1, h2⟩ := hfv
            exact ⟨cs, h1, RepAs.of_ds h2⟩
          · rename_i heq
            cases hq
            rw [heq] at hfv
            simp only [RepA] at hfv
            exact hfv
          · cases hq
        obtain ⟨cs, hcs, hrc⟩ := hf
        obtain ⟨fn, hfn, hname, hbody⟩ := hpx.1
        have hrun : (execOp a1.eval o).run P w1 = .ok (.enter k ((cl.args.toList.map a1.eval) ++ cs).toArray) w1 := by
          unfold execOp
          simp only [ho, resolve, hcal, Deferred.ofValue, hcs, Sem.run_bind, Sem.run_pure, Result.andThen_ok, invoke, callFunc, run_program, hfn, hname, hbody, Bool.false_eq_true, if_false]
          congr 2
          simp
        have hys := y_soundE (N := fun x => s.nxt + pre.length ≤ x ∧ x < s.nxt + pre.length + (m + 1)) hrel.heap (fun x hx hu => by have := hrel.used x hu; omega) (c := c) (ti := fr ++ pinT c.σ c.pin) (fun x j hxj => by
          rw [find_append'] at hxj
          cases hfx : find fr x with
          | some j' => exact .inl (freshOk_find hfr hfx)
          | none =>
            rw [hfx] at hxj
            exact .inr (pinT_find hxj)) (hargs.append hrc) hob hpx
        refine does_calls hrun (R := fun v w2 => ∃ hp' r, Out hp' r ∧ AfterN g1 s1.obj w1 (fun x => s.nxt + pre.length ≤ x ∧ x < s.nxt + pre.length + (m + 1)) (effY P k { c with hp' := hp', r := r } (fr ++ pinT c.σ c.pin) s1.obj (cl.args.toList.map s1.eval ++ caps)) v w2) (hys.mono fun e w2 ⟨v, hp', r, he, hO, hA⟩ => ⟨v, he, hp', r, hO, hA⟩) _ _ fun v w2 hA => ?_
        obtain ⟨hp', r, hO, g2, k1, k2, k3, k4, k5⟩ := hA
        replace hrest := hrest hp' r hO
        have hput := rel_put (U' := fun x => x < s.nxt + m + (pre.length + 1)) (dst := o.dst) hrel k1 k3 (fun x hx => by
          rcases k4 x hx with hx | hx
          · have := hrel.used x hx; omega
          · omega) k5 (fun d hd' => by rw [hd'] at hd; exact hd)
        have hn : (s1.app o.dst (effY P k { c with hp' := hp', r := r } (fr ++ pinT c.σ c.pin) s1.obj (cl.args.toList.map s1.eval ++ caps))).n = s1.n := by unfold St.app St.put; cases o.dst <;> rfl
        have hnx' : (s1.app o.dst (effY P k { c with hp' := hp', r := r } (fr ++ pinT c.σ c.pin) s1.obj (cl.args.toList.map s1.eval ++ caps))).nxt = s.nxt + l.length + m := by rw [← hnx]; unfold St.app St.put; cases o.dst <;> rfl
        refine wpT_sound (P := P) hc (orc := orc) (gs := l.map (·.dst)) (ops := l.toArray) hgs (base := s.nxt + m) (nxt := s.nxt + l.length + m) (K := fun s' => Q .normal s') (g0 := g) (w0 := w)
          (fun s' g' a' w' h1 h2 h3 => ⟨s', g', h1, h2, h3⟩) post (pre.length + 1) _ g2 _ w2 (by omega) hnx' ?_ (hst.trans k2) hrest
        rw [hn]
        exact ⟨hput.defers, hput.size, fun t => by rw [app_get]; exact hput.tmp t, hput.used, by
          have : (s1.app o.dst (effY P k { c with hp' := hp', r := r } (fr ++ pinT c.σ c.pin) s1.obj (cl.args.toList.map s1.eval ++ caps))).obj = updL s1.obj (effY P k { c with hp' := hp', r := r } (fr ++ pinT c.σ c.pin) s1.obj (cl.args.toList.map s1.eval ++ caps)).wr := funext (app_obj s1 o.dst _)
          rw [this]; exact hput.heap⟩
  have := wpOps_eq_wpList (P := P) (ops := l.toArray) (Q := fun e a' w' => ∃ s' g', RelS s' g' a' w' ∧ Step g w g' w' ∧ Q e s') l 0 (by intro j; simp)
  rw [show List.range l.toArray.size = List.range' 0 l.length by simp [List.range_eq_range'], this]
  exact key
end Go.Abs

set_option linter.unusedVariables false
set_option linter.unusedSimpArgs false
namespace Go.Abs
open Go.Shelf Go.RowKit Go.Lib Go.Sort Go.Proofs

/-- slices.SortFunc where the order is not one alone: some order. -/
def sortOut (e : TypeId) (k : Nat) (cf : List D → List D → Int) (rows : List (List D)) : List (Nat × Ob) → AV → Prop := fun hp' r => ∃ rows', rows'.Perm rows ∧ (rows'.Pairwise fun a b => ¬ cf b a < 0) ∧ hp' = [(0, ⟨e, k, dr rows'⟩)] ∧ r = .tup []
theorem sortFunc_pxe {P : Program} {ρ : Ren} (L : SlLaysF0.n6 P ρ) {k : Nat} (hk0 : 0 < k) (aE : ∀ w, (isAgg (ρ.t 24)).run P w = .ok true w) (zE : ∀ w, (Go.sizeOf (ρ.t 24)).run P w = .ok k w) (hent : Enters P (ρ.f 6)) {cg : FuncId}
    (eg : ∀ args w, (callFunc cg args).run P w = .ok (.enter cg args) w) {V : List D → Prop} {cf : List D → List D → Int} (hc : CmpOk P cg V cf) (hO : CmpOrd V cf) (e : TypeId) {rows : List (List D)} (hV : ∀ r ∈ rows, V r)
    (hn : 0 < rows.length) (hsz : rows.length < 4611686018427387904) (fv : AV)
    (hfv : ∀ g w v, RepA g w fv v → v = .func (.func cg) #[] #[]) :
    PXE P (ρ.f 6) [.hs 0 0 rows.length, fv] [(0, ⟨e, k, dr rows⟩)] [(0, 0)] (sortOut e k cf rows) := by
  refine ⟨hent, fun g w vs h hu hvs => ?_⟩
  simp only [RepAs] at hvs
  obtain ⟨v0, _, rfl, h0, v1, _, rfl, h1, rfl⟩ := hvs
  have e1 := hfv g w v1 h1
  obtain ⟨L0, hL, hok⟩ := h.own 0 ⟨e, k, dr rows⟩ (by simp [objL, find])
  have hkm : L0.m = k := hok.m
  have hlenr : (dr rows).length = rows.length := by simp [dr]
  have hvirt : L0.virt = false := by
    cases hv : L0.virt with
    | false => rfl
    | true =>
      have h2 : (dr rows).length = 0 := by rw [show dr rows = [] from hok.virt hv]; rfl
      omega
  simp only [RepA] at h0
  have hflat : L0.virt = false ∧ L0.map = false := by
    rcases h0.2 L0 hL with ⟨hv, _⟩ | ⟨hv, _⟩
    · rw [hvirt] at hv; cases hv
    · exact hv
  have hvm := hflat.2
  obtain ⟨cur, hblk, hcs, hcap, hrows⟩ := hok.cells hflat
  have e0 : v0 = .slice (some ⟨L0.blk, 0, none⟩) rows.length L0.cap := by
    rcases h0.2 L0 hL with ⟨hv, _⟩ | ⟨_, _, hv⟩
    · rw [hvirt] at hv; cases hv
    · rw [hv]; simp
  have hcapl : rows.length ≤ L0.cap := by have := hok.len hvm; rw [hlenr] at this; exact this
  have hblt : L0.blk < w.heap.size := (Array.getElem?_eq_some_iff.1 hblk).1
  have hnro : ¬ g.ro L0.blk := ((h.live 0 L0 hL).2 hvirt).2
  have hro : ∀ b, g.ro b → b < w.heap.size ∧ b ≠ L0.blk := fun b hb => ⟨h.ro b hb, fun e => hnro (e ▸ hb)⟩
  have hcsz : rows.length * k ≤ cur.size := by rw [hcs, hkm]; exact Nat.mul_le_mul_right k hcapl
  have hin : ∀ i, i < rows.length → i * k + k ≤ cur.size := fun i hi => by
    have := Nat.mul_le_mul_right k (show i + 1 ≤ rows.length from hi)
    rw [Nat.add_mul, Nat.one_mul] at this; omega
  -- the cells of element i
  have hel : ∀ i (hi : i < rows.length), V rows[i] ∧ (cur.toList.drop (i * k) |>.take k).length = k ∧ OneCells (cur.toList.drop (i * k) |>.take k) ∧ RepDs g.ro w rows[i] (cur.toList.drop (i * k) |>.take k) := by
    intro i hi
    have hrow := hrows i (rows[i].map AV.d) (by simp [dr, hi])
    have hl : (cur.toList.drop (i * k) |>.take k).length = k := by
      have := hin i hi
      simp only [List.length_take, List.length_drop, Array.length_toList]; omega
    have hget : ∀ j, j < k → (cur.toList.drop (i * k) |>.take k)[j]? = cur[i * k + j]? := fun j hj => by
      rw [List.getElem?_take, if_pos hj, List.getElem?_drop, Array.getElem?_toList]
    have hrl : rows[i].length = k := by have := hrow.1; rw [hkm] at this; simpa using this
    refine ⟨hV _ (List.getElem_mem hi), hl, ?_, ?_⟩
    · intro v hv
      obtain ⟨j, hj⟩ := List.mem_iff_getElem?.1 hv
      have hjk : j < k := by have := (List.getElem?_eq_some_iff.1 hj).1; omega
      rw [hget j hjk] at hj
      obtain ⟨u, hu1, hu2, _⟩ := hrow.2 j (.d (rows[i][j]'(by omega))) (by simp [show j < rows[i].length by omega])
      rw [hkm, hj] at hu1
      cases hu1
      exact hu2
    · refine RepDs.of_get (by rw [hl, hrl]) fun j x hj => ?_
      have hjk : j < k := by have := (List.getElem?_eq_some_iff.1 hj).1; omega
      obtain ⟨u, hu1, _, hu3⟩ := hrow.2 j (.d x) (by simp [hj])
      rw [hkm] at hu1
      exact ⟨u, by rw [hget j hjk, hu1], by simpa only [RepA] using hu3⟩
  let mk : _root_.Fin rows.length → Elt g.ro w V k := fun i => ⟨(rows[i.1], (cur.toList.drop (i.1 * k)).take k), hel i.1 i.2⟩
  let d : Array (Elt g.ro w V k) := Array.ofFn mk
  haveI : Inhabited (Elt g.ro w V k) := ⟨mk ⟨0, hn⟩⟩
  have hds : d.size = rows.length := by simp [d]
  have hdi : ∀ i (hi : i < rows.length), d[i]! = mk ⟨i, hi⟩ := fun i hi => by
    rw [getElem!_pos d i (by rw [hds]; exact hi)]; simp [d]
  have hdl : d.toList.map (fun x => x.1.1) = rows := by
    apply List.ext_getElem
    · simp [d]
    · intro i h1 h2
      have hi : i < d.size := by simpa using h1
      rw [List.getElem_map, Array.getElem_toList]
      have e := hdi i h2
      rw [getElem!_pos d i hi] at e
      rw [e]
  have hH : HoldsK (Elt.enc g.ro w V k) k w L0.blk 0 d := by
    intro j hj
    have hjs : j < rows.length * k := by simpa [hds] using hj
    have hdk : j / k < rows.length := Nat.div_lt_of_lt_mul (by rwa [Nat.mul_comm] at hjs)
    have hmod : j % k < k := Nat.mod_lt j hk0
    have hdm : j / k * k + j % k = j := by rw [Nat.mul_comm]; exact Nat.div_add_mod j k
    rw [get_flatK _ _ _ _ (by rw [hds]; exact hjs), hdi _ hdk]
    have hlt : j < cur.size := by omega
    refine ⟨?_, ?_⟩
    · simp only [World.cell?, hblk, Nat.zero_add]
      simp only [Option.isSome_none, Bool.false_eq_true, if_false, id_eq]
      have hl2 := (hel _ hdk).2.1
      rw [getElem!_pos _ _ (by rw [show (Elt.enc g.ro w V k (mk ⟨j / k, hdk⟩)) = (cur.toList.drop (j / k * k)).take k from rfl, hl2]; exact hmod)]
      simp only [Elt.enc, mk, List.getElem_take, List.getElem_drop, Array.getElem_toList, hdm]
      exact Array.getElem?_eq_getElem hlt
    · simp only [World.frozen?, hblk]
      simp
  have hswo : SWO (ltOf fun x y : Elt g.ro w V k => cf x.1.1 y.1.1) := by
    refine ⟨fun x => ?_, fun x y z h1 h2 => ?_, fun x y z h1 h2 => ?_⟩
    · simpa [ltOf] using hO.irrefl x.1.1 x.2.1
    · simp only [ltOf, decide_eq_true_eq] at h1 h2 ⊢
      exact hO.trans _ _ _ x.2.1 y.2.1 z.2.1 h1 h2
    · simp only [ltOf, decide_eq_false_iff_not] at h1 h2 ⊢
      exact hO.ntrans _ _ _ x.2.1 y.2.1 z.2.1 h1 h2
  have hmain := AnyQ.slices_SortFunc L k aE zE (Elt.enc g.ro w V k) (fun x => x.2.2.1) (fun x v hv => x.2.2.2.1 v hv) (fun x y => cf x.1.1 y.1.1) hswo cg #[] L0.blk 0 L0.cap d w eg (cmp_lays hc hro) hH hblt (by rw [hds]; exact hsz)
  rw [hds] at hmain
  rw [e0, e1]
  refine hmain.mono ?_
  rintro ex w' ⟨rfl, d', n, os, hperm, hsort, rfl⟩
  obtain ⟨hps, _, hpp⟩ := hperm
  have hex : ∀ a : Array (Elt g.ro w V k), a.size = rows.length → (a.extract 0 rows.length) = a := fun a ha => by rw [← ha]; simp
  rw [hex d' (by rw [hps, hds]), hex d hds] at hpp
  obtain ⟨rows', hrows'⟩ : ∃ rows', d'.toList.map (fun x => x.1.1) = rows' := ⟨_, rfl⟩
  have hp : rows'.Perm rows := by rw [← hrows', ← hdl]; exact hpp.map _
  have hs : rows'.Pairwise fun a b => ¬ cf b a < 0 := by
    rw [← hrows', List.pairwise_map, List.pairwise_iff_getElem]
    intro i j hi hj hij
    have hj' : j < d'.size := by simpa using hj
    have := hsort i j (Nat.zero_le _) hij (by rw [hps, hds] at hj'; exact hj')
    rw [getElem!_pos d' i (by omega), getElem!_pos d' j hj'] at this
    simpa [ltOf] using this
  have hd's : d'.size = rows.length := by rw [hps, hds]
  have hbs : (sortWorldK (Elt.enc g.ro w V k) k w L0.blk 0 n d' os).heap[L0.blk]? = some (.cells (Go.Sort.putCells id 0 (flatK (Elt.enc g.ro w V k) k d') cur) e (0, 0)) := heap_sort_blk _ _ _ _ _ _ _ hblk
  obtain ⟨g', h1, h2, h3, h4, h5, h6⟩ := HRel.write h hL hflat (id' := 0) (.inl rfl) ⟨e, k, dr rows'⟩ (Go.Sort.putCells id 0 (flatK (Elt.enc g.ro w V k) k d') cur) (w' := sortWorldK (Elt.enc g.ro w V k) k w L0.blk 0 n d' os) (cap := L0.cap) (B := L0.blk) rfl ⟨rfl, drawn_sort _ _ _ _ _ _ _⟩ rfl (size_sort _ _ _ _ _ _ _)
    (fun b hb hne => heap_sort _ _ _ _ _ _ _ hb hne) (.inl rfl) hbs hkm.symm hok.pos (by simp only [Go.Sort.putCells, Array.size_mapIdx]; exact hcs) (by have := hp.length_eq; simp [dr]; omega) hcap (fun _ => ⟨rfl, rfl⟩) (by
      intro i row hi
      have hil : i < rows'.length := by have := (List.getElem?_eq_some_iff.1 hi).1; simpa [dr] using this
      have hil2 : i < rows.length := by have := hp.length_eq; omega
      have hid : i < d'.size := by omega
      have hri : rows'[i] = (d'[i]'hid).1.1 := by
        have : (d'.toList.map (fun x => x.1.1))[i]'(by simpa using hid) = rows'[i] := by simp only [hrows']
        rw [← this]; simp
      have hrow : row = rows'[i].map AV.d := by
        have : (dr rows')[i]? = some (rows'[i].map AV.d) := by simp [dr, hil]
        rw [this] at hi; exact (Option.some.inj hi).symm
      obtain ⟨x1, x2, x3, x4⟩ := (d'[i]'hid).2
      subst hrow
      rw [hri, hkm]
      have hxl : (d'[i]'hid).1.1.length = k := by have := x4.length; omega
      refine ⟨by simp [hxl], fun j av hj => ?_⟩
      have hjk : j < k := by have := (List.getElem?_eq_some_iff.1 hj).1; simp at this; omega
      have hav : av = .d ((d'[i]'hid).1.1[j]'(by omega)) := by
        rw [List.getElem?_map, List.getElem?_eq_getElem (by omega)] at hj
        exact (Option.some.inj hj).symm
      obtain ⟨v, hv1, hv2⟩ := x4.get j _ (List.getElem?_eq_getElem (by omega))
      have hdiv : (i * k + j) / k = i := (blk_iff k i _ hk0).1 ⟨by omega, by omega⟩
      have hmod : (i * k + j) % k = j := by rw [Nat.mod_eq_sub_div_mul, hdiv]; omega
      have hlt : i * k + j < rows.length * k := by have := Nat.mul_le_mul_right k (show i + 1 ≤ rows.length from hil2); rw [Nat.add_mul, Nat.one_mul] at this; omega
      refine ⟨v, ?_, x3 v (List.mem_of_getElem? hv1), ?_⟩
      · have hlc : i * k + j < cur.size := by omega
        have hc1 : (Go.Sort.putCells id 0 (flatK (Elt.enc g.ro w V k) k d') cur)[i * k + j]? = some ((flatK (Elt.enc g.ro w V k) k d')[i * k + j]!) := by
          simp only [Go.Sort.putCells, Array.getElem?_mapIdx, Array.getElem?_eq_getElem hlc, Option.map_some]
          rw [if_pos ⟨Nat.zero_le _, by rw [size_flatK, hd's]; omega⟩]
          simp
        rw [hc1, get_flatK _ _ _ _ (by rw [hd's]; exact hlt), hdiv, hmod, getElem!_pos d' i hid]
        simp only [Elt.enc]
        obtain ⟨hjl, hjv⟩ := List.getElem?_eq_some_iff.1 hv1
        rw [getElem!_pos _ j hjl, hjv]
      · rw [hav]
        simpa only [RepA] using hv2)
  refine ⟨_, g', [(0, ⟨e, k, dr rows'⟩)], .tup [], rfl, ⟨rows', hp, hs, rfl, rfl⟩, ?_, ?_, h5, ?_⟩
  · have : (upd1 (upd1 (objL [(0, ⟨e, k, dr rows⟩)]) 0 none) 0 (some ⟨e, k, dr rows'⟩)) = objL [(0, ⟨e, k, dr rows'⟩)] := by
      funext x
      simp only [upd1, objL, find]
      by_cases hx : x = 0
      · subst hx; simp
      · have hx' : ¬ (0 = x) := fun h => hx h.symm
        simp [hx, hx']
    rw [← this]; exact h4
  · simp only [RepA, RepAs]
    exact ⟨[], rfl, rfl⟩
  · intro i j hij
    simp only [List.mem_cons, List.not_mem_nil, or_false, Prod.mk.injEq] at hij
    obtain ⟨rfl, rfl⟩ := hij
    rw [h1, hL]
    cases L0; simp_all


theorem PX.toE {P : Program} {f : FuncId} {av : List AV} {hp hp' : List (Nat × Ob)} {pin : List (Nat × Nat)} {r : AV} {Out : List (Nat × Ob) → AV → Prop} (h : PX P f av hp pin hp' r) (hO : Out hp' r) : PXE P f av hp pin Out :=
  ⟨h.1, fun g w vs h1 h2 h3 => (h.2 g w vs h1 h2 h3).mono fun e w' ⟨v, g', he, k1, k2, k3, k4⟩ => ⟨v, g', hp', r, he, hO, k1, k2, k3, k4⟩⟩
theorem sortFunc_allE {P : Program} {ρ : Ren} (L : SlLaysF0.n6 P ρ) {k : Nat} (hk0 : 0 < k) (aE : ∀ w, (isAgg (ρ.t 24)).run P w = .ok true w) (zE : ∀ w, (Go.sizeOf (ρ.t 24)).run P w = .ok k w) (hent : Enters P (ρ.f 6)) {cg : FuncId}
    (eg : ∀ args w, (callFunc cg args).run P w = .ok (.enter cg args) w) {V : List D → Prop} {cf : List D → List D → Int} (hc : CmpOk P cg V cf) (hO : CmpOrd V cf) (e : TypeId) {rows : List (List D)} (hV : ∀ r ∈ rows, V r) (hsz : rows.length < 4611686018427387904) :
    PXE P (ρ.f 6) [.hs 0 0 rows.length, .d (.fn (.func cg) [])] [(0, ⟨e, k, dr rows⟩)] [(0, 0)] (sortOut e k cf rows) := by
  by_cases hn : rows = []
  · subst hn
    exact (sortFunc_px0 L hk0 hent e _).toE ⟨[], List.Perm.refl _, List.Pairwise.nil, rfl, rfl⟩
  · refine sortFunc_pxe L hk0 aE zE hent eg hc hO e hV (List.length_pos_iff.2 hn) hsz _ fun g w v hv => ?_
    simp only [RepA, RepD] at hv
    obtain ⟨vs, rfl, h2⟩ := hv
    simp only [RepDs] at h2
    rw [h2]

end Go.Abs

set_option linter.unusedVariables false
set_option linter.unusedSimpArgs false
set_option maxRecDepth 100000
namespace Go.Proofs.Ytlfalheciadklaa
open Go.Abs

/-! Runs put in order and joined. -/
def sortRun_ren : Go.Shelf.Ren := ⟨fun | 6 => 145 | 15 => 123 | 14 => 169 | 28 => 143 | 29 => 144 | 20 => 178 | 21 => 179 | 22 => 180 | 23 => 181 | 24 => 182 | 25 => 183 | 26 => 184 | 27 => 185 | 46 => 188 | 47 => 165 | 48 => 166 | 49 => 189 | 50 => 190 | 57 => 191 | n => n, fun | 22 => 58 | 24 => 63 | 25 => 151 | 3 => 3 | 39 => 131 | 0 => 0 | 53 => 147 | 55 => 149 | 4 => 4 | 46 => 140 | 45 => 139 | 50 => 116 | 5 => 5 | 9 => 9 | 66 => 165 | 70 => 169 | 76 => 176 | 77 => 177 | n => n, fun n => n⟩
theorem sortRun_lays : SlLaysF0.n6 Try.prog sortRun_ren where
  mixed := by kernel_rfl
  f6 := ⟨Try.f145.name, by kernel_rfl, Try.func145.trans (congrArg some (by kernel_rfl))⟩
  f14 := ⟨Try.f169.name, by kernel_rfl, Try.func169.trans (congrArg some (by kernel_rfl))⟩
  f15 := Try.func123.trans (congrArg some (by kernel_rfl))
  f20 := ⟨Try.f178.name, by kernel_rfl, Try.func178.trans (congrArg some (by kernel_rfl))⟩
  f21 := ⟨Try.f179.name, by kernel_rfl, Try.func179.trans (congrArg some (by kernel_rfl))⟩
  f22 := ⟨Try.f180.name, by kernel_rfl, Try.func180.trans (congrArg some (by kernel_rfl))⟩
  f23 := ⟨Try.f181.name, by kernel_rfl, Try.func181.trans (congrArg some (by kernel_rfl))⟩
  f24 := ⟨Try.f182.name, by kernel_rfl, Try.func182.trans (congrArg some (by kernel_rfl))⟩
  f25 := ⟨Try.f183.name, by kernel_rfl, Try.func183.trans (congrArg some (by kernel_rfl))⟩
  f26 := ⟨Try.f184.name, by kernel_rfl, Try.func184.trans (congrArg some (by kernel_rfl))⟩
  f27 := ⟨Try.f185.name, by kernel_rfl, Try.func185.trans (congrArg some (by kernel_rfl))⟩
  f28 := Try.func143.trans (congrArg some (by kernel_rfl))
  f29 := Try.func144.trans (congrArg some (by kernel_rfl))
  f46 := ⟨Try.f188.name, by kernel_rfl, Try.func188.trans (congrArg some (by kernel_rfl))⟩
  f47 := Try.func165.trans (congrArg some (by kernel_rfl))
  f48 := Try.func166.trans (congrArg some (by kernel_rfl))
  f49 := ⟨Try.f189.name, by kernel_rfl, Try.func189.trans (congrArg some (by kernel_rfl))⟩
  f50 := ⟨Try.f190.name, by kernel_rfl, Try.func190.trans (congrArg some (by kernel_rfl))⟩
  f57 := ⟨Try.f191.name, by kernel_rfl, Try.func191.trans (congrArg some (by kernel_rfl))⟩
  t0 := Try.underlying0
  a0 := Try.isAgg0
  z0 := Try.sizeOf0
  v0 := Try.zeroValue0
  t3 := Try.underlying3
  a3 := Try.isAgg3
  z3 := Try.sizeOf3
  v3 := Try.zeroValue3
  t4 := Try.underlying4
  a4 := Try.isAgg4
  z4 := Try.sizeOf4
  v4 := Try.zeroValue4
  t5 := Try.underlying5
  a5 := Try.isAgg5
  z5 := Try.sizeOf5
  v5 := Try.zeroValue5
  t9 := Try.underlying9
  a9 := Try.isAgg9
  z9 := Try.sizeOf9
  v9 := Try.zeroValue9
  t22 := Try.underlying58
  a22 := Try.isAgg58
  z22 := Try.sizeOf58
  v22 := Try.zeroValue58
  t25 := Try.underlying151
  a25 := Try.isAgg151
  z25 := Try.sizeOf151
  v25 := Try.zeroValue151
  t39 := Try.underlying131
  a39 := Try.isAgg131
  z39 := Try.sizeOf131
  v39 := Try.zeroValue131
  t45 := Try.underlying139
  a45 := Try.isAgg139
  z45 := Try.sizeOf139
  v45 := Try.zeroValue139
  t46 := Try.underlying140
  a46 := Try.isAgg140
  z46 := Try.sizeOf140
  v46 := Try.zeroValue140
  t50 := Try.underlying116
  a50 := Try.isAgg116
  z50 := Try.sizeOf116
  v50 := Try.zeroValue116
  t53 := Try.underlying147
  a53 := Try.isAgg147
  z53 := Try.sizeOf147
  v53 := Try.zeroValue147
  t55 := Try.underlying149
  a55 := Try.isAgg149
  z55 := Try.sizeOf149
  v55 := Try.zeroValue149
  t66 := Try.underlying165
  a66 := Try.isAgg165
  z66 := Try.sizeOf165
  v66 := Try.zeroValue165
  t70 := Try.underlying169
  a70 := Try.isAgg169
  z70 := Try.sizeOf169
  v70 := Try.zeroValue169
  t76 := Try.underlying176
  a76 := Try.isAgg176
  z76 := Try.sizeOf176
  v76 := Try.zeroValue176
  t77 := Try.underlying177
  a77 := Try.isAgg177
  z77 := Try.sizeOf177
  v77 := Try.zeroValue177
def cfR : List D → List D → Int
  | [.int _ a, .int _ _], [.int _ b, .int _ _] => a - b
  | _, _ => 0
def VR (r : List D) : Prop := ∃ c : Run, r = c.row ∧ -1048576 ≤ c.a ∧ c.a ≤ 1048576
theorem normCmp_ok (a b : Run) (ha : -1048576 ≤ a.a ∧ a.a ≤ 1048576) (hb0 : -1048576 ≤ b.a ∧ b.a ≤ 1048576) : PC Try.prog 146 [.agg a.row, .agg b.row] (.p (.int .i64 (a.a - b.a))) := by
  have e := wrap_i64 (n := a.a - b.a) (by omega) (by omega)
  refine pc_of_awp cx (fn := Try.f146) (c := _) Try.func146 rfl rfl (Nat.le_of_ble_eq_true rfl) ?_
  rw [Try.ntmps146]; refine Nav.imp ?_
  refine awp_region cx [] fun K hK => ?_
  simp [push_cast, Run.row]
  repeat (refine And.intro (by clear hK; intros; first | omega | (simp_all; done) | (simp_all <;> omega)) ?_)
  refine hK _ ?_; clear hK K; refine Nav.imp ?_
  refine awp_region cx [] fun K hK => ?_
  simp [push_cast, e, Run.row]
  repeat (refine And.intro (by clear hK; intros; first | omega | (simp_all; done) | (simp_all <;> omega)) ?_)
  refine hK _ ?_; clear hK K; refine Nav.imp ?_
  simp [push_cast]
theorem cfR_ok : CmpOk Try.prog 146 VR cfR := by
  refine cmp_of_pc ?_
  rintro _ _ ⟨a, rfl, ha⟩ ⟨b, rfl, hb⟩
  exact normCmp_ok a b ha hb
theorem cfR_ord : CmpOrd VR cfR where
  irrefl := by rintro _ ⟨a, rfl, _⟩; simp [cfR, Run.row]
  trans := by
    rintro _ _ _ ⟨a, rfl, _⟩ ⟨b, rfl, _⟩ ⟨c, rfl, _⟩
    simp only [cfR, Run.row]; omega
  ntrans := by
    rintro _ _ _ ⟨a, rfl, _⟩ ⟨b, rfl, _⟩ ⟨c, rfl, _⟩
    simp only [cfR, Run.row]; omega
def srtOut (l : List Run) : List (Nat × Ob) → AV → Prop := fun hp' r => ∃ l' : List Run, l'.Perm l ∧ (l'.Pairwise fun p q => p.a ≤ q.a) ∧ hp' = [(0, ⟨63, 2, dr (l'.map Run.row)⟩)] ∧ r = .tup []
theorem sortR_pxe (l : List Run) (hf : ∀ r ∈ l, fitsB r = true) (hl : l.length ≤ 1000000) : PXE Try.prog 145 [.hs 0 0 l.length, .d (.fn (.func 146) [])] [(0, ⟨63, 2, dr (l.map Run.row)⟩)] [(0, 0)] (srtOut l) := by
  have h := sortFunc_allE (P := Try.prog) sortRun_lays (k := 2) (by decide) (fun w => by kernel_rfl) (fun w => by kernel_rfl) ⟨_, Try.func145, by kernel_rfl, by kernel_rfl⟩ (cg := 146) (fun args w => by kernel_rfl) cfR_ok cfR_ord 63 (rows := l.map Run.row)
    (fun r hr => by obtain ⟨c, hc, rfl⟩ := List.mem_map.1 hr; have := fitsB_bd (hf c hc); exact ⟨c, rfl, by omega, by omega⟩) (by simp; omega)
  simp only [List.length_map] at h
  refine ⟨h.1, fun g w vs h1 h2 h3 => (h.2 g w vs h1 h2 h3).mono fun e w' ⟨v, g', hp', r, he, ⟨rows', hp, hs, h4, h5⟩, k⟩ => ⟨v, g', hp', r, he, ?_, k⟩⟩
  have key : ∀ rows : List (List D), (∀ x ∈ rows, ∃ c : Run, x = c.row) → ∃ m : List Run, rows = m.map Run.row := fun rows hr => rows_of hr
  obtain ⟨l', rfl⟩ := key rows' fun x hx => by
    have := hp.subset hx
    obtain ⟨c, _, rfl⟩ := List.mem_map.1 this
    exact ⟨c, rfl⟩
  refine ⟨l', ?_, ?_, h4, h5⟩
  · have hinj : ∀ a b : Run, a.row = b.row → a = b := fun a b h => by cases a; cases b; simp only [Run.row, List.cons.injEq, D.int.injEq, true_and, and_true] at h; rw [h.1, h.2]
    have := hp.map (fun x : List D => match x with | [.int _ a, .int _ b] => (⟨a, b⟩ : Run) | _ => ⟨0, 0⟩)
    rw [List.map_map, List.map_map] at this
    have e : ((fun x : List D => match x with | [.int _ a, .int _ b] => (⟨a, b⟩ : Run) | _ => ⟨0, 0⟩) ∘ Run.row) = id := by funext r; rfl
    rw [e, List.map_id, List.map_id] at this
    exact this
  · rw [List.pairwise_map] at hs
    refine hs.imp fun {a b} h => ?_
    simp only [cfR, Run.row] at h
    omega

def fullB (r : Run) : Bool := decide (r.a < r.b)
def normL (l : List Run) : List Run := joinL ((l.filter fullB).mergeSort fun p q => decide (p.a ≤ q.a))
theorem inR_filter (l : List Run) (x : Int) : inR (l.filter fullB) x = inR l x := by
  rw [Bool.eq_iff_iff, inR_iff, inR_iff]
  constructor
  · rintro ⟨r, hr, h⟩; exact ⟨r, (List.mem_filter.1 hr).1, h⟩
  · rintro ⟨r, hr, h1, h2⟩; exact ⟨r, List.mem_filter.2 ⟨hr, by simp [fullB]; omega⟩, h1, h2⟩
theorem inR_perm {l l' : List Run} (h : l'.Perm l) (x : Int) : inR l' x = inR l x := by
  rw [Bool.eq_iff_iff, inR_iff, inR_iff]
  constructor
  · rintro ⟨r, hr, h'⟩; exact ⟨r, h.mem_iff.1 hr, h'⟩
  · rintro ⟨r, hr, h'⟩; exact ⟨r, h.mem_iff.2 hr, h'⟩
theorem join_sorted {l l' : List Run} (hp : l'.Perm (l.filter fullB)) (hs : l'.Pairwise fun p q => p.a ≤ q.a) : Apart (joinL l') ∧ ∀ x, inR (joinL l') x = inR l x := by
  obtain ⟨h1, h2, _⟩ := joinL_facts _ l' rfl (fun r hr => by
    have := (List.mem_filter.1 (hp.mem_iff.1 hr)).2
    simpa [fullB] using this) hs
  exact ⟨h1, fun x => by rw [h2, inR_perm hp, inR_filter]⟩
theorem norm_facts (l : List Run) : Apart (normL l) ∧ ∀ x, inR (normL l) x = inR l x := by
  refine join_sorted (List.mergeSort_perm _ _) ?_
  have := List.pairwise_mergeSort (le := fun p q : Run => decide (p.a ≤ q.a)) (fun a b c h1 h2 => by simp at *; omega) (fun a b => by simp; omega) (l.filter fullB)
  exact this.imp fun {a b} h => by simpa using h
theorem norm_eq {l l' : List Run} (hp : l'.Perm (l.filter fullB)) (hs : l'.Pairwise fun p q => p.a ≤ q.a) : joinL l' = normL l := by
  obtain ⟨h1, h2⟩ := join_sorted hp hs
  obtain ⟨h3, h4⟩ := norm_facts l
  exact apart_uniq h1 h3 fun y => by rw [h2, h4]

set_option maxHeartbeats 2000000 in
theorem norm_ok (l : List Run) (hf : ∀ r ∈ l, fitsB r = true) (hl : l.length ≤ 1000000) : PC Try.prog 124 [encRuns l] (.p (.tup [encRuns (normL l), .int .i64 0])) := by
  have hne := fun l' h1 h2 => @norm_eq l l' h1 h2
  generalize normL l = res at *
  refine pc_of_awp cx (fn := Try.f124) (c := _) Try.func124 rfl rfl (Nat.le_of_ble_eq_true rfl) ?_
  rw [Try.ntmps124]; refine Nav.imp ?_
  refine awp_region cx [] fun K hK => ?_
  simp [push_cast]
  repeat (refine And.intro (by clear hK; intros; first | omega | (simp_all; done) | (simp_all <;> omega)) ?_)
  refine hK _ ?_; clear hK K; refine Nav.imp ?_
  refine awp_region cx [] fun K hK => ?_
  simp [push_cast]
  repeat (refine And.intro (by clear hK; intros; first | omega | (simp_all; done) | (simp_all <;> omega)) ?_)
  refine hK _ ?_; clear hK K; refine Nav.imp ?_
  refine awp_region cx [] fun K hK => ?_
  simp [push_cast]
  repeat (refine And.intro (by clear hK; intros; first | omega | (simp_all; done) | (simp_all <;> omega)) ?_)
  refine hK _ ?_; clear hK K; refine Nav.imp ?_
  refine awp_loop (β := Nat × List Run) (fun s => ⟨30, [(3, .d (.int .i64 0)), (4, .hs 0 0 s.2.length), (7, .d (encRuns l)), (8, .d (.int .i64 l.length)), (9, .d (.int .i64 s.1))], [(0, some ⟨63, 2, dr (s.2.map Run.row)⟩)], 1⟩) (fun s => s.1 ≤ l.length ∧ s.2 = (l.take s.1).filter fullB) (fun s => l.length - s.1) (0, []) ?_ ⟨Nat.zero_le _, by simp⟩ ?_
  · refine weak_of [(0, none)] rfl (by simp [upT, up, upL, push_cast]) (by simp [upH, upR, upL, up, push_cast]) (by simp [namesOk, push_cast]) (by simp [olds])
  · rintro ⟨i, Z⟩ ⟨hi, hZ⟩
    simp only at hi hZ
    refine Nav.imp ?_
    refine awp_region cx [] fun K hK => ?_
    simp [push_cast]
    repeat (refine And.intro (by clear hK; intros; first | omega | (simp_all; done) | (simp_all <;> omega)) ?_)
    refine hK _ ?_; clear hK K; refine Nav.imp ?_
    refine awp_cond (b := decide ((i : Int) < l.length)) (by simp [push_cast]) (fun hb => ?_) (fun hb => ?_) <;> (refine Nav.imp ?_)
    · have hlt : i < l.length := by simpa using hb
      obtain ⟨r, hr⟩ := getq hlt
      have e0 := wrap_i64 (n := (i : Int) + 1) (by omega) (by omega)
      have hrf := hf r (List.mem_of_getElem? hr)
      have c1 := fits_ok r
      rw [hrf] at c1
      have hnx : (l.take (i + 1)).filter fullB = Z ++ if fullB r then [r] else [] := by
        rw [take_get hr, List.filter_append, hZ]
        congr 1
        cases hx : fullB r <;> simp [hx]
      have hZl : Z.length ≤ 1000000 := by have := List.length_filter_le fullB (l.take i); rw [← hZ] at this; simp at this; omega
      have hZ16 : (Z.length + 1) * 16 ≤ 140737488355328 := by omega
      obtain ⟨ra, rb⟩ := r
      refine awp_region cx [] fun K hK => ?_
      simp [push_cast, hr, Run.row]
      repeat (refine And.intro (by clear hK; intros; first | omega | (simp_all; done) | (simp_all <;> omega)) ?_)
      refine hK _ ?_; clear hK K; refine Nav.imp ?_
      by_cases hab : ra < rb
      · have hfb : fullB ⟨ra, rb⟩ = true := by simp [fullB, hab]
        rw [hfb, if_pos rfl] at hnx
        have q1 : ¬ rb ≤ ra := by omega
        refine awp_region cx [] fun K hK => ?_
        simp [push_cast, q1, Run.row]
        repeat (refine And.intro (by clear hK; intros; first | omega | (simp_all; done) | (simp_all <;> omega)) ?_)
        refine hK _ ?_; clear hK K; refine Nav.imp ?_
        refine awp_cond (b := false) (by simp [push_cast, q1]) (fun hb => ?_) (fun hb => ?_) <;> (refine Nav.imp ?_)
        · simp at hb
        · refine awp_region cx [(1, .p (.bool true))] fun K hK => ?_
          simp [push_cast, c1, Run.row]
          repeat (refine And.intro (by clear hK; intros; first | omega | (simp_all; done) | (simp_all <;> omega)) ?_)
          refine hK _ ?_; clear hK K; refine Nav.imp ?_
          refine awp_cond (b := false) (by simp [push_cast]) (fun hb => ?_) (fun hb => ?_) <;> (refine Nav.imp ?_)
          · simp at hb
          · refine awp_region cx [] fun K hK => ?_
            simp [push_cast, hZ16, Run.row]
            repeat (refine And.intro (by clear hK; intros; first | omega | (simp_all; done) | (simp_all <;> omega)) ?_)
            refine hK _ ?_; clear hK K; refine Nav.imp ?_
            refine awp_region cx [] fun K hK => ?_
            simp [push_cast, e0]
            repeat (refine And.intro (by clear hK; intros; first | omega | (simp_all; done) | (simp_all <;> omega)) ?_)
            refine hK _ ?_; clear hK K; refine Nav.imp ?_
            refine ⟨(i + 1, Z ++ [⟨ra, rb⟩]), ⟨hlt, hnx.symm⟩, by simp only; omega, ?_⟩
            refine weak_of [(0, some 17)] rfl (by simp [upT, up, upL, push_cast, Run.row]) (by simp [upH, upR, upL, up, push_cast, Run.row]) (by simp [namesOk, push_cast]) (by simp [olds])
      · have hfb : fullB ⟨ra, rb⟩ = false := by simp [fullB]; omega
        rw [hfb, if_neg (by simp), List.append_nil] at hnx
        have q1 : rb ≤ ra := by omega
        refine awp_region cx [] fun K hK => ?_
        simp [push_cast, q1, Run.row]
        repeat (refine And.intro (by clear hK; intros; first | omega | (simp_all; done) | (simp_all <;> omega)) ?_)
        refine hK _ ?_; clear hK K; refine Nav.imp ?_
        refine awp_cond (b := true) (by simp [push_cast, q1]) (fun hb => ?_) (fun hb => ?_) <;> (refine Nav.imp ?_)
        · refine awp_region cx [] fun K hK => ?_
          simp [push_cast, e0]
          repeat (refine And.intro (by clear hK; intros; first | omega | (simp_all; done) | (simp_all <;> omega)) ?_)
          refine hK _ ?_; clear hK K; refine Nav.imp ?_
          refine ⟨(i + 1, Z), ⟨hlt, hnx.symm⟩, by simp only; omega, ?_⟩
          refine weak_of [(0, some 0)] rfl (by simp [upT, up, upL, push_cast]) (by simp [upH, upR, upL, up, push_cast]) (by simp [namesOk, push_cast]) (by simp [olds])
        · simp at hb
    · have hge : i = l.length := by simp at hb; omega
      subst hge
      rw [List.take_length] at hZ
      have hZl : Z.length ≤ 1000000 := by have := List.length_filter_le fullB l; rw [← hZ] at this; omega
      have hZf : ∀ r ∈ Z, fitsB r = true := fun r hr => by rw [hZ] at hr; exact hf r (List.mem_filter.1 hr).1
      have d1 := sortR_pxe Z hZf hZl
      refine awp_regionE cx [] (l := [_, _]) (pre := [_]) (post := []) rfl rfl rfl rfl 0 ⟨[(0, 0)], [.hs 0 0 Z.length, .d (.fn (.func 146) [])], [(0, ⟨63, 2, dr (Z.map Run.row)⟩)], [(0, 0)], none, [], .any⟩ (srtOut Z) [] fun K hK => ?_
      simp [push_cast, freshOk, obE, effY]
      refine ⟨d1, ?_⟩
      rintro hp' r ⟨l', hp, hs, rfl, rfl⟩
      simp [push_cast]
      refine hK _ ?_; clear hK K; refine Nav.imp ?_
      have hpl := hp.length_eq
      have e := hne l' (by rw [← hZ]; exact hp) hs
      have c2 := join_ok l' (by omega)
      rw [e] at c2
      rw [← hpl]
      have ht : List.take l'.length (l'.map Run.row) = l'.map Run.row := List.take_of_length_le (by simp)
      refine awp_freeze 0 (l'.map Run.row) rfl (by simp [push_cast, ht]) fun K hK => ?_
      simp [push_cast, St.fz, fzT, fzH, fzO, fz, fzL, fzR, fzR_dr, fzR_app, fzR_set, fzL_map, ht]
      refine hK _ ?_; clear hK K; refine Nav.imp ?_
      refine awp_region cx [(1, .p (encRuns res))] fun K hK => ?_
      simp [push_cast, c2]
      repeat (refine And.intro (by clear hK; intros; first | omega | (simp_all; done) | (simp_all <;> omega)) ?_)
      refine hK _ ?_; clear hK K; refine Nav.imp ?_
      simp [push_cast]
end Go.Proofs.Ytlfalheciadklaa

set_option linter.unusedVariables false
set_option linter.unusedSimpArgs false
set_option maxRecDepth 100000
namespace Go.Proofs.Ytlfalheciadklaa
open Go.Abs

/-! The cells near a region, row by row, for a reach of up to 8192. -/
theorem flat_bd {α β : Type} {f : α → List β} {k n : Nat} {l : List α} (hl : l.length ≤ n) (h : ∀ x ∈ l, (f x).length ≤ k) : (l.flatMap f).length ≤ n * k := by
  have : ∀ m : List α, (∀ x ∈ m, (f x).length ≤ k) → (m.flatMap f).length ≤ m.length * k := by
    intro m
    induction m with
    | nil => simp
    | cons x m ih =>
      intro h
      have h1 := h x (by simp)
      have h2 := ih fun y hy => h y (by simp [hy])
      rw [List.flatMap_cons, List.length_append, List.length_cons, Nat.succ_mul]
      omega
  exact Nat.le_trans (this l h) (Nat.mul_le_mul_right _ hl)
theorem apart_len2 : ∀ {l : List Run} {lo hi : Int}, Apart l → (∀ r ∈ l, lo ≤ r.a ∧ r.b ≤ hi) → 2 * l.length ≤ (hi - lo + 1).toNat
  | [], _, _, _, _ => by simp
  | r :: l, lo, hi, h, hb => by
    have h1 := h.1 r (by simp)
    have h2 := hb r (by simp)
    have h3 := List.pairwise_cons.1 h.2
    have := apart_len2 (l := l) (lo := r.b + 1) (hi := hi) ⟨fun q hq => h.1 q (by simp [hq]), h3.2⟩ fun q hq => by
      have := h3.1 q hq
      have := hb q (by simp [hq])
      omega
    simp only [List.length_cons]
    omega
theorem valid_runs2 {R : List Row} (hv : validR R = true) {w : Row} (hw : w ∈ R) : w.runs.length ≤ 4096 := by
  obtain ⟨_, h1, h2⟩ := fine_apart.1 (row_fine hv hw).2
  have := apart_len2 h1 (lo := -4096) (hi := 4096) h2
  omega
def clR (K : Nat) (r : Run) : Run := ⟨max (r.a - K) (-4096), min (r.b + K) 4096⟩
def spRow (y : Int) (K : Nat) (w : Row) : List Run := if w.y < y - K ∨ y + K < w.y then [] else w.runs.map (clR K)
def spL (R : List Row) (y : Int) (K : Nat) : List Run := R.flatMap (spRow y K)
def spreadL (R : List Row) (y : Int) (K : Nat) : List Run := normL (spL R y K)
theorem spRow_len (y : Int) (K : Nat) (w : Row) : (spRow y K w).length ≤ w.runs.length := by unfold spRow; split <;> simp
theorem spL_bd {R : List Row} {y : Int} {K : Nat} (hv : validR R = true) {r : Run} (hr : r ∈ spL R y K) : ∃ w ∈ R, w.y - K ≤ y ∧ y ≤ w.y + K ∧ ∃ q ∈ w.runs, r = clR K q := by
  obtain ⟨w, hw, hr⟩ := List.mem_flatMap.1 hr
  unfold spRow at hr
  split at hr
  · simp at hr
  · obtain ⟨q, hq, rfl⟩ := List.mem_map.1 hr
    exact ⟨w, hw, by omega, by omega, q, hq, rfl⟩
theorem fitsB_of {r : Run} (h : -1048576 ≤ r.a ∧ r.a ≤ 1048576 ∧ -1048576 ≤ r.b ∧ r.b ≤ 1048576) : fitsB r = true := by
  simp [fitsB]; omega
theorem spL_fits {R : List Row} {y : Int} {K : Nat} (hv : validR R = true) (hK : K ≤ 8192) {r : Run} (hr : r ∈ spL R y K) : fitsB r = true := by
  obtain ⟨w, hw, _, _, q, hq, rfl⟩ := spL_bd hv hr
  obtain ⟨_, h1, h2⟩ := fine_apart.1 (row_fine hv hw).2
  have := h2 q hq
  have := h1.1 q hq
  exact fitsB_of (by simp only [clR]; omega)
theorem spread_facts {R : List Row} (hv : validR R = true) (y : Int) (K : Nat) : Apart (spreadL R y K) ∧ (∀ r ∈ spreadL R y K, -4096 ≤ r.a ∧ r.b ≤ 4096) ∧ ∀ x, inR (spreadL R y K) x = true ↔ nearP R K y x ∧ -4096 ≤ x ∧ x < 4096 := by
  obtain ⟨h1, h2⟩ := norm_facts (spL R y K)
  have h3 : ∀ x, inR (spreadL R y K) x = true ↔ nearP R K y x ∧ -4096 ≤ x ∧ x < 4096 := fun x => by
    unfold spreadL
    rw [h2, inR_iff]
    constructor
    · rintro ⟨r, hr, q1, q2⟩
      obtain ⟨w, hw, q3, q4, q, hq, rfl⟩ := spL_bd hv hr
      simp only [clR] at q1 q2
      exact ⟨⟨w, hw, q3, q4, q, hq, by omega, by omega⟩, by omega, by omega⟩
    · rintro ⟨⟨w, hw, q3, q4, q, hq, q5, q6⟩, q7, q8⟩
      refine ⟨clR K q, List.mem_flatMap.2 ⟨w, hw, ?_⟩, by simp only [clR]; omega, by simp only [clR]; omega⟩
      unfold spRow
      rw [if_neg (by omega)]
      exact List.mem_map.2 ⟨q, hq, rfl⟩
  exact ⟨h1, apart_bounds h1 fun x hx => ((h3 x).1 hx).2, h3⟩

set_option maxHeartbeats 4000000 in
theorem spread_ok (R : List Row) (y : Int) (K : Nat) (hv : validR R = true) (hn : R.length ≤ 200) (hy : -4096 ≤ y ∧ y ≤ 4096) (hK : K ≤ 8192) : PC Try.prog 97 [.agg (regRow R), .int .i64 y, .int .i64 K] (.p (encRuns (spreadL R y K))) := by
  have hd : spreadL R y K = normL (spL R y K) := rfl
  have hft := fun i w => @flat_take _ _ (spRow y K) R i w
  have hf0 : (R.take 0).flatMap (spRow y K) = [] := rfl
  have hfe : (R.take R.length).flatMap (spRow y K) = spL R y K := by rw [List.take_length]; rfl
  have hfl : ∀ i, ((R.take i).flatMap (spRow y K)).length ≤ 200 * 4096 := fun i => flat_bd (by simp; omega) fun w hw => Nat.le_trans (spRow_len y K w) (valid_runs2 hv (List.mem_of_mem_take hw))
  have c9 := norm_ok (spL R y K) (fun r hr => spL_fits hv hK hr) (by have := hfl R.length; rw [hfe] at this; omega)
  rw [← hd] at c9
  generalize spreadL R y K = res at *
  clear hd
  have e1 := wrap_i64 (n := y - (K : Int)) (by omega) (by omega)
  have e2 := wrap_i64 (n := y + (K : Int)) (by omega) (by omega)
  refine pc_of_awp cx (fn := Try.f97) (c := _) Try.func97 rfl rfl (Nat.le_of_ble_eq_true rfl) ?_
  rw [Try.ntmps97]; refine Nav.imp ?_
  refine awp_region cx [] fun K hK => ?_
  simp [push_cast]
  repeat (refine And.intro (by clear hK; intros; first | omega | (simp_all; done) | (simp_all <;> omega)) ?_)
  refine hK _ ?_; clear hK K; refine Nav.imp ?_
  refine awp_region cx [] fun K hK => ?_
  simp [push_cast]
  repeat (refine And.intro (by clear hK; intros; first | omega | (simp_all; done) | (simp_all <;> omega)) ?_)
  refine hK _ ?_; clear hK K; refine Nav.imp ?_
  refine awp_region cx [] fun K hK => ?_
  simp [push_cast]
  repeat (refine And.intro (by clear hK; intros; first | omega | (simp_all; done) | (simp_all <;> omega)) ?_)
  refine hK _ ?_; clear hK K; refine Nav.imp ?_
  refine awp_loop (β := Nat × List Run) (fun s => ⟨62, [(1, .d (.int .i64 y)), (2, .d (.int .i64 K)), (7, .hs 0 0 s.2.length), (13, .d (encRows R)), (14, .d (.int .i64 R.length)), (15, .d (.int .i64 s.1))], [(0, some ⟨63, 2, dr (s.2.map Run.row)⟩)], 1⟩) (fun s => s.1 ≤ R.length ∧ s.2 = (R.take s.1).flatMap (spRow y K)) (fun s => R.length - s.1) (0, []) ?_ ⟨Nat.zero_le _, hf0.symm⟩ ?_
  · refine weak_of [(0, none)] rfl (by simp [upT, up, upL, push_cast]) (by simp [upH, upR, upL, up, push_cast]) (by simp [namesOk, push_cast]) (by simp [olds])
  · rintro ⟨i, Z⟩ ⟨hi, hZ⟩
    simp only at hi hZ
    refine Nav.imp ?_
    refine awp_region cx [] fun K hK => ?_
    simp [push_cast]
    repeat (refine And.intro (by clear hK; intros; first | omega | (simp_all; done) | (simp_all <;> omega)) ?_)
    refine hK _ ?_; clear hK K; refine Nav.imp ?_
    refine awp_cond (b := decide ((i : Int) < R.length)) (by simp [push_cast]) (fun hb => ?_) (fun hb => ?_) <;> (refine Nav.imp ?_)
    · have hlt : i < R.length := by simpa using hb
      obtain ⟨w, hw⟩ := getq hlt
      have hwm := List.mem_of_getElem? hw
      have e0 := wrap_i64 (n := (i : Int) + 1) (by omega) (by omega)
      have hwl := valid_runs2 hv hwm
      have hnx := hft i w hw
      rw [← hZ] at hnx
      have hZl : Z.length ≤ 200 * 4096 := by rw [hZ]; exact hfl i
      have hwb := (row_fine hv hwm).1
      obtain ⟨_, hwa, hwr⟩ := fine_apart.1 (row_fine hv hwm).2
      refine awp_region cx [] fun K hK => ?_
      simp [push_cast, hw, Row.row]
      repeat (refine And.intro (by clear hK; intros; first | omega | (simp_all; done) | (simp_all <;> omega)) ?_)
      refine hK _ ?_; clear hK K; refine Nav.imp ?_
      by_cases q1 : w.y < y - (K : Int)
      · have hs : spRow y K w = [] := by unfold spRow; rw [if_pos (.inl q1)]
        rw [hs, List.append_nil] at hnx
        refine awp_region cx [] fun K hK => ?_
        simp [push_cast, e1, e2, q1, Row.row]
        repeat (refine And.intro (by clear hK; intros; first | omega | (simp_all; done) | (simp_all <;> omega)) ?_)
        refine hK _ ?_; clear hK K; refine Nav.imp ?_
        refine awp_cond (b := true) (by simp [push_cast, q1]) (fun hb => ?_) (fun hb => ?_) <;> (refine Nav.imp ?_)
        · refine awp_region cx [] fun K hK => ?_
          simp [push_cast, e0]
          repeat (refine And.intro (by clear hK; intros; first | omega | (simp_all; done) | (simp_all <;> omega)) ?_)
          refine hK _ ?_; clear hK K; refine Nav.imp ?_
          refine ⟨(i + 1, Z), ⟨hlt, hnx.symm⟩, by simp only; omega, ?_⟩
          refine weak_of [(0, some 0)] rfl (by simp [upT, up, upL, push_cast]) (by simp [upH, upR, upL, up, push_cast]) (by simp [namesOk, push_cast]) (by simp [olds])
        · simp at hb
      · by_cases q2 : y + (K : Int) < w.y
        · have hs : spRow y K w = [] := by unfold spRow; rw [if_pos (.inr q2)]
          rw [hs, List.append_nil] at hnx
          refine awp_region cx [] fun K hK => ?_
          simp [push_cast, e1, e2, q1, q2, Row.row]
          repeat (refine And.intro (by clear hK; intros; first | omega | (simp_all; done) | (simp_all <;> omega)) ?_)
          refine hK _ ?_; clear hK K; refine Nav.imp ?_
          refine awp_cond (b := true) (by simp [push_cast, q1, q2]) (fun hb => ?_) (fun hb => ?_) <;> (refine Nav.imp ?_)
          · refine awp_region cx [] fun K hK => ?_
            simp [push_cast, e0]
            repeat (refine And.intro (by clear hK; intros; first | omega | (simp_all; done) | (simp_all <;> omega)) ?_)
            refine hK _ ?_; clear hK K; refine Nav.imp ?_
            refine ⟨(i + 1, Z), ⟨hlt, hnx.symm⟩, by simp only; omega, ?_⟩
            refine weak_of [(0, some 0)] rfl (by simp [upT, up, upL, push_cast]) (by simp [upH, upR, upL, up, push_cast]) (by simp [namesOk, push_cast]) (by simp [olds])
          · simp at hb
        · have hs : spRow y K w = w.runs.map (clR K) := by unfold spRow; rw [if_neg (by omega)]
          rw [hs] at hnx
          refine awp_region cx [] fun K hK => ?_
          simp [push_cast, e1, e2, q1, q2, Row.row]
          repeat (refine And.intro (by clear hK; intros; first | omega | (simp_all; done) | (simp_all <;> omega)) ?_)
          refine hK _ ?_; clear hK K; refine Nav.imp ?_
          refine awp_cond (b := false) (by simp [push_cast, q1, q2]) (fun hb => ?_) (fun hb => ?_) <;> (refine Nav.imp ?_)
          · simp at hb
          · refine awp_region cx [] fun K hK => ?_
            simp [push_cast, Row.row]
            repeat (refine And.intro (by clear hK; intros; first | omega | (simp_all; done) | (simp_all <;> omega)) ?_)
            refine hK _ ?_; clear hK K; refine Nav.imp ?_
            refine awp_loop (β := Nat × List Run) (fun s => ⟨62, [(1, .d (.int .i64 y)), (2, .d (.int .i64 K)), (7, .hs 0 0 s.2.length), (13, .d (encRows R)), (14, .d (.int .i64 R.length)), (15, .d (.int .i64 i)), (34, .d (encRuns w.runs)), (35, .d (.int .i64 w.runs.length)), (36, .d (.int .i64 s.1))], [(0, some ⟨63, 2, dr (s.2.map Run.row)⟩)], 1⟩) (fun s => s.1 ≤ w.runs.length ∧ s.2 = Z ++ (w.runs.take s.1).map (clR K)) (fun s => w.runs.length - s.1) (0, Z) ?_ ⟨Nat.zero_le _, by simp⟩ ?_
            · refine weak_of [(0, some 0)] rfl (by simp [upT, up, upL, push_cast, Row.row]) (by simp [upH, upR, upL, up, push_cast, Row.row]) (by simp [namesOk, push_cast]) (by simp [olds])
            · rintro ⟨j, Y⟩ ⟨hj, hY⟩
              simp only at hj hY
              refine Nav.imp ?_
              refine awp_region cx [] fun K hK => ?_
              simp [push_cast]
              repeat (refine And.intro (by clear hK; intros; first | omega | (simp_all; done) | (simp_all <;> omega)) ?_)
              refine hK _ ?_; clear hK K; refine Nav.imp ?_
              refine awp_cond (b := decide ((j : Int) < w.runs.length)) (by simp [push_cast]) (fun hb => ?_) (fun hb => ?_) <;> (refine Nav.imp ?_)
              · have hjl : j < w.runs.length := by simpa using hb
                obtain ⟨r, hr⟩ := getq hjl
                have hrm := List.mem_of_getElem? hr
                have hrb := hwr r hrm
                have hra := hwa.1 r hrm
                have e3 := wrap_i64 (n := (j : Int) + 1) (by omega) (by omega)
                have e4 := wrap_i64 (n := r.a - (K : Int)) (by omega) (by omega)
                have e5 := wrap_i64 (n := r.b + (K : Int)) (by omega) (by omega)
                have hYl : Y.length ≤ 201 * 4096 := by rw [hY, List.length_append, List.length_map, List.length_take]; omega
                have hY16 : (Y.length + 1) * 16 ≤ 140737488355328 := by omega
                have hn2 : (w.runs.take (j + 1)).map (clR K) = (w.runs.take j).map (clR K) ++ [clR K r] := by rw [take_get hr]; simp
                obtain ⟨ra, rb⟩ := r
                simp only at e4 e5
                refine awp_region cx [] fun K hK => ?_
                simp [push_cast, hr, Run.row]
                repeat (refine And.intro (by clear hK; intros; first | omega | (simp_all; done) | (simp_all <;> omega)) ?_)
                refine hK _ ?_; clear hK K; refine Nav.imp ?_
                refine awp_region cx [] fun K hK => ?_
                simp [push_cast, e4, e5, hY16, Run.row]
                repeat (refine And.intro (by clear hK; intros; first | omega | (simp_all; done) | (simp_all <;> omega)) ?_)
                refine hK _ ?_; clear hK K; refine Nav.imp ?_
                refine awp_region cx [] fun K hK => ?_
                simp [push_cast, e3]
                repeat (refine And.intro (by clear hK; intros; first | omega | (simp_all; done) | (simp_all <;> omega)) ?_)
                refine hK _ ?_; clear hK K; refine Nav.imp ?_
                refine ⟨(j + 1, Y ++ [clR K ⟨ra, rb⟩]), ⟨hjl, by rw [hn2, hY, List.append_assoc]⟩, by simp only; omega, ?_⟩
                refine weak_of [(0, some 19)] rfl (by simp [upT, up, upL, push_cast, Run.row, clR]) (by simp [upH, upR, upL, up, push_cast, Run.row, clR]) (by simp [namesOk, push_cast]) (by simp [olds])
              · have hje : j = w.runs.length := by simp at hb; omega
                subst hje
                rw [List.take_length, ← hnx] at hY
                refine awp_region cx [] fun K hK => ?_
                simp [push_cast, e0]
                repeat (refine And.intro (by clear hK; intros; first | omega | (simp_all; done) | (simp_all <;> omega)) ?_)
                refine hK _ ?_; clear hK K; refine Nav.imp ?_
                refine ⟨(i + 1, Y), ⟨hlt, hY⟩, by simp only; omega, ?_⟩
                refine weak_of [(0, some 0)] rfl (by simp [upT, up, upL, push_cast]) (by simp [upH, upR, upL, up, push_cast]) (by simp [namesOk, push_cast]) (by simp [olds])
    · have hge : i = R.length := by simp at hb; omega
      subst hge
      rw [hfe] at hZ
      rw [← hZ] at c9
      have ht : List.take Z.length (Z.map Run.row) = Z.map Run.row := List.take_of_length_le (by simp)
      refine awp_freeze 0 (Z.map Run.row) rfl (by simp [push_cast, ht]) fun K hK => ?_
      simp [push_cast, St.fz, fzT, fzH, fzO, fz, fzL, fzR, fzR_dr, fzR_app, fzR_set, fzL_map, ht]
      refine hK _ ?_; clear hK K; refine Nav.imp ?_
      refine awp_region cx [(1, .p (.tup [encRuns res, .int .i64 0]))] fun K hK => ?_
      simp [push_cast, c9]
      repeat (refine And.intro (by clear hK; intros; first | omega | (simp_all; done) | (simp_all <;> omega)) ?_)
      refine hK _ ?_; clear hK K; refine Nav.imp ?_
      refine awp_region cx [] fun K hK => ?_
      simp [push_cast]
      repeat (refine And.intro (by clear hK; intros; first | omega | (simp_all; done) | (simp_all <;> omega)) ?_)
      refine hK _ ?_; clear hK K; refine Nav.imp ?_
      simp [push_cast]

/-- What of a region is more than K away from all cells of a cover. -/
def beyR (R C : List Row) (K : Nat) : List Row := mapR (lessF fun y => spreadL C y K) R
theorem bey_facts {R C : List Row} (h1 : validR R = true) (h2 : validR C = true) (K : Nat) : validR (beyR R C K) = true ∧ ∀ c, c ∈ regCells (beyR R C K) ↔ c ∈ regCells R ∧ ¬ nearP C K c.y c.x := by
  have hs := fun y => spread_facts h2 y K
  obtain ⟨q1, q2⟩ := less_facts h1 (g := fun y => spreadL C y K) fun y => apart_rv (hs y).1 fun r hr => by have := (hs y).2.1 r hr; omega
  refine ⟨q1, fun c => ?_⟩
  unfold beyR
  rw [q2]
  constructor
  · rintro ⟨hc, hn⟩
    refine ⟨hc, fun hp => ?_⟩
    obtain ⟨w, hw, hy, r, hr, h3, h4⟩ := mem_regCells.1 hc
    obtain ⟨_, _, h5⟩ := fine_apart.1 (row_fine h1 hw).2
    have := h5 r hr
    have := ((hs c.y).2.2 c.x).2 ⟨hp, by omega, by omega⟩
    rw [this] at hn; simp at hn
  · rintro ⟨hc, hn⟩
    refine ⟨hc, ?_⟩
    cases hq : inR (spreadL C c.y K) c.x with
    | false => rfl
    | true => exact absurd (((hs c.y).2.2 c.x).1 hq).1 hn

set_option maxHeartbeats 4000000 in
theorem beyond_ok (R C : List Row) (K : Nat) (hv : validR R = true) (hc : validR C = true) (hn : C.length ≤ 200) (hK : K ≤ 8192) : PC Try.prog 71 [.agg (regRow R), .agg (regRow C), .int .i64 K] (.p (.agg (regRow (beyR R C K)))) := by
  have hR := small_valid hv
  have hl := hR.1
  have hF : ∀ w ∈ R, lessF (fun y => spreadL C y K) w = sweep fD w.runs (spreadL C w.y K) := fun w _ => rfl
  have hsm : (mapR (lessF fun y => spreadL C y K) R).length ≤ R.length := mapR_len _ _
  have htk := fun k w => @mapR_take (lessF fun y => spreadL C y K) R k w
  have htl := fun k => mapR_len (lessF fun y => spreadL C y K) (R.take k)
  have hR0 : ∀ w, mapRow (lessF fun y => spreadL C y K) w = if lessF (fun y => spreadL C y K) w = [] then [] else [⟨w.y, lessF (fun y => spreadL C y K) w⟩] := fun w => rfl
  have ht0 : mapR (lessF fun y => spreadL C y K) (R.take 0) = [] := rfl
  have hte : mapR (lessF fun y => spreadL C y K) (R.take R.length) = beyR R C K := by rw [List.take_length]; rfl
  generalize beyR R C K = res at *
  generalize lessF (fun y => spreadL C y K) = F at *
  refine pc_of_awp cx (fn := Try.f71) (c := _) Try.func71 rfl rfl (Nat.le_of_ble_eq_true rfl) ?_
  rw [Try.ntmps71]; refine Nav.imp ?_
  refine awp_region cx [] fun K hK => ?_
  simp [push_cast]
  repeat (refine And.intro (by clear hK; intros; first | omega | (simp_all; done) | (simp_all <;> omega)) ?_)
  refine hK _ ?_; clear hK K; refine Nav.imp ?_
  refine awp_region cx [] fun K hK => ?_
  simp [push_cast]
  repeat (refine And.intro (by clear hK; intros; first | omega | (simp_all; done) | (simp_all <;> omega)) ?_)
  refine hK _ ?_; clear hK K; refine Nav.imp ?_
  refine awp_region cx [] fun K hK => ?_
  simp [push_cast]
  repeat (refine And.intro (by clear hK; intros; first | omega | (simp_all; done) | (simp_all <;> omega)) ?_)
  refine hK _ ?_; clear hK K; refine Nav.imp ?_
  refine awp_loop (β := Nat × List Row) (fun s => ⟨40, [(2, .d (.int .i64 K)), (4, .ptr 0 0 0), (6, .ptr 1 0 0), (7, .ptr 2 0 0), (12, .d (encRows R)), (13, .d (.int .i64 R.length)), (14, .d (.int .i64 s.1))], [(0, some ⟨24, 1, [(regRow C).map .d]⟩), (1, some ⟨24, 1, [[.nl]]⟩), (2, some ⟨24, 1, [[.hs 3 0 s.2.length]]⟩), (3, some ⟨60, 2, dr (s.2.map Row.row)⟩)], 4⟩) (fun s => s.1 ≤ R.length ∧ s.2 = mapR F (R.take s.1)) (fun s => R.length - s.1) (0, []) ?_ ⟨Nat.zero_le _, ht0.symm⟩ ?_
  · refine weak_of [(0, some 1), (1, some 2), (2, some 3), (3, none)] rfl (by simp [upT, up, upL, push_cast]) (by simp [upH, upR, upL, up, push_cast]) (by simp [namesOk, push_cast]) (by simp [olds])
  · rintro ⟨i, Z⟩ ⟨hi, hZ⟩
    simp only at hi hZ
    refine Nav.imp ?_
    refine awp_region cx [] fun K hK => ?_
    simp [push_cast]
    repeat (refine And.intro (by clear hK; intros; first | omega | (simp_all; done) | (simp_all <;> omega)) ?_)
    refine hK _ ?_; clear hK K; refine Nav.imp ?_
    refine awp_cond (b := decide ((i : Int) < R.length)) (by simp [push_cast]) (fun hb => ?_) (fun hb => ?_) <;> (refine Nav.imp ?_)
    · have hlt : i < R.length := by simpa using hb
      obtain ⟨w, hw⟩ := getq hlt
      have hwm := List.mem_of_getElem? hw
      have e0 := wrap_i64 (n := (i : Int) + 1) (by omega) (by omega)
      have hwl := hR.2 w hwm
      have hwb := (row_fine hv hwm).1
      have c3 := spread_ok C w.y K hc hn ⟨by omega, by omega⟩ hK
      obtain ⟨p1, p2, _⟩ := spread_facts hc w.y K
      have p3 : ∀ r ∈ spreadL C w.y K, -4160 ≤ r.a ∧ r.b ≤ 4160 := fun r hr => by have := p2 r hr; omega
      have c4 := subtract_ok w.runs (spreadL C w.y K) hwl (by have := apart_small p1 p3; omega) (fine_rv (row_fine hv hwm).2) (apart_rv p1 p3)
      rw [← hF w hwm] at c4
      have hnx := htk i w hw
      rw [hR0, ← hZ] at hnx
      have hZl : Z.length ≤ 1000000 := by have := htl i; rw [← hZ] at this; simp at this; omega
      have hZ32 : (Z.length + 1) * 32 ≤ 140737488355328 := by omega
      generalize spreadL C w.y K = sp at *
      generalize F w = u at *
      clear p1 p2 p3
      refine awp_region cx [] fun K hK => ?_
      simp [push_cast, hw, Row.row]
      repeat (refine And.intro (by clear hK; intros; first | omega | (simp_all; done) | (simp_all <;> omega)) ?_)
      refine hK _ ?_; clear hK K; refine Nav.imp ?_
      refine awp_region_draw cx mixed [(6, .p (encRuns sp)), (7, .p (encRuns u))] fun K hK => ?_
      simp [push_cast, c3, c4, Row.row]
      repeat (refine And.intro (by clear hK; intros; first | omega | (simp_all; done) | (simp_all <;> omega)) ?_)
      refine hK _ _ (by kernel_rfl) ?_; clear hK K; refine Nav.imp ?_
      refine awp_region cx [] fun K hK => ?_
      simp [push_cast]
      repeat (refine And.intro (by clear hK; intros; first | omega | (simp_all; done) | (simp_all <;> omega)) ?_)
      refine hK _ ?_; clear hK K; refine Nav.imp ?_
      cases hu : u with
      | nil =>
        rw [hu] at hnx
        simp only [if_true, List.append_nil] at hnx
        refine awp_cond (b := false) (by simp [push_cast, hu]) (fun hb => ?_) (fun hb => ?_) <;> (refine Nav.imp ?_)
        · simp at hb
        · refine awp_region cx [] fun K hK => ?_
          simp [push_cast, e0]
          repeat (refine And.intro (by clear hK; intros; first | omega | (simp_all; done) | (simp_all <;> omega)) ?_)
          refine hK _ ?_; clear hK K; refine Nav.imp ?_
          refine ⟨(i + 1, Z), ⟨hlt, hnx.symm⟩, by simp only; omega, ?_⟩
          refine weak_of [(0, some 0), (1, some 1), (2, some 2), (3, some 3)] rfl (by simp [upT, up, upL, push_cast]) (by simp [upH, upR, upL, up, push_cast]) (by simp [namesOk, push_cast]) (by simp [olds])
      | cons q u' =>
        have hne : ¬ u = [] := by rw [hu]; simp
        have hpos : 0 < u.length := by rw [hu]; simp
        rw [if_neg hne] at hnx
        rw [← hu]
        clear hu
        refine awp_cond (b := true) (by simp [push_cast, hpos]) (fun hb => ?_) (fun hb => ?_) <;> (refine Nav.imp ?_)
        · refine awp_region cx [] fun K hK => ?_
          simp [push_cast, hZ32, Row.row]
          repeat (refine And.intro (by clear hK; intros; first | omega | (simp_all; done) | (simp_all <;> omega)) ?_)
          refine hK _ ?_; clear hK K; refine Nav.imp ?_
          refine awp_region cx [] fun K hK => ?_
          simp [push_cast, e0]
          repeat (refine And.intro (by clear hK; intros; first | omega | (simp_all; done) | (simp_all <;> omega)) ?_)
          refine hK _ ?_; clear hK K; refine Nav.imp ?_
          refine ⟨(i + 1, Z ++ [⟨w.y, u⟩]), ⟨hlt, hnx.symm⟩, by simp only; omega, ?_⟩
          refine weak_of [(0, some 0), (1, some 1), (2, some 2), (3, some 28)] rfl (by simp [upT, up, upL, push_cast, Row.row]) (by simp [upH, upR, upL, up, push_cast, Row.row]) (by simp [namesOk, push_cast]) (by simp [olds])
        · simp at hb
    · have hge : i = R.length := by simp at hb; omega
      subst hge
      rw [hte] at hZ
      rw [← hZ]
      have ht2 : List.take Z.length (Z.map Row.row) = Z.map Row.row := List.take_of_length_le (by simp)
      refine awp_freeze 3 (Z.map Row.row) rfl (by simp [push_cast, Row.row, ht2]) fun K hK => ?_
      simp [push_cast, St.fz, fzT, fzH, fzO, fz, fzL, fzR, fzR_dr, fzR_app, fzR_set, fzL_map, Row.row, ht2]
      refine hK _ ?_; clear hK K; refine Nav.imp ?_
      refine awp_region cx [] fun K hK => ?_
      simp [push_cast]
      repeat (refine And.intro (by clear hK; intros; first | omega | (simp_all; done) | (simp_all <;> omega)) ?_)
      refine hK _ ?_; clear hK K; refine Nav.imp ?_
      simp [push_cast]
end Go.Proofs.Ytlfalheciadklaa

set_option linter.unusedVariables false
set_option linter.unusedSimpArgs false
set_option maxRecDepth 100000
namespace Go.Proofs.Ytlfalheciadklaa
open Go.Abs

/-! How far the cells of a region are from a cover. -/
theorem nearP_mono {R : List Row} {k k' : Nat} (h : k ≤ k') {y x : Int} : nearP R k y x → nearP R k' y x := by
  rintro ⟨w, hw, h1, h2, r, hr, h3, h4⟩
  exact ⟨w, hw, by omega, by omega, r, hr, by omega, by omega⟩
theorem bey_mono {R C : List Row} (h1 : validR R = true) (h2 : validR C = true) {k k' : Nat} (h : k ≤ k') (he : beyR R C k = []) : beyR R C k' = [] := by
  refine valid_empty (bey_facts h1 h2 k').1 fun c hc => ?_
  obtain ⟨q1, q2⟩ := ((bey_facts h1 h2 k').2 c).1 hc
  have := ((bey_facts h1 h2 k).2 c).2 ⟨q1, fun hn => q2 (nearP_mono h hn)⟩
  rw [he] at this
  simp [regCells] at this
/-- The first number from which on nothing is beyond. -/
def FarAt (R C : List Row) (m : Nat) : Prop := m ≤ 8192 ∧ (∀ k, k < m → beyR R C k ≠ []) ∧ ∀ k, m ≤ k → k < 8192 → beyR R C k = []
theorem far_ex {R C : List Row} (h1 : validR R = true) (h2 : validR C = true) : ∃ m, FarAt R C m := by
  have key : ∀ n : Nat, n ≤ 8192 → (∀ k, k < n → beyR R C k ≠ []) ∨ ∃ m, FarAt R C m := by
    intro n
    induction n with
    | zero => intro _; exact .inl fun k hk => by omega
    | succ n ih =>
      intro hn
      rcases ih (by omega) with h | h
      · by_cases he : beyR R C n = []
        · exact .inr ⟨n, by omega, h, fun k hk _ => bey_mono h1 h2 hk he⟩
        · refine .inl fun k hk => ?_
          by_cases hkn : k = n
          · rw [hkn]; exact he
          · exact h k (by omega)
      · exact .inr h
  rcases key 8192 (by omega) with h | h
  · exact ⟨8192, by omega, h, fun k h1 h2 => by omega⟩
  · exact h

set_option maxHeartbeats 4000000 in
theorem far_ok (R C : List Row) (hv : validR R = true) (hc : validR C = true) (hn : C.length ≤ 200) (hne : C ≠ []) (m : Nat) (hm : FarAt R C m) : PC Try.prog 33 [.agg (regRow R), .agg (regRow C)] (.p (.int .i64 m)) := by
  have c1 := valid_ok R (small_valid hv)
  have c2 := valid_ok C (small_valid hc)
  rw [hv] at c1
  rw [hc] at c2
  have hl := (small_valid hv).1
  have hlc := (small_valid hc).1
  obtain ⟨hm1, hm2, hm3⟩ := hm
  by_cases hR : R = []
  · have hm0 : m = 0 := by
      by_cases h : m = 0
      · exact h
      · exact absurd (by rw [hR]; rfl) (hm2 0 (by omega))
    subst hR
    subst hm0
    refine pc_of_awp cx (fn := Try.f33) (c := _) Try.func33 rfl rfl (Nat.le_of_ble_eq_true rfl) ?_
    rw [Try.ntmps33]; refine Nav.imp ?_
    refine awp_region cx [] fun K hK => ?_
    simp [push_cast]
    repeat (refine And.intro (by clear hK; intros; first | omega | (simp_all; done) | (simp_all <;> omega)) ?_)
    refine hK _ ?_; clear hK K; refine Nav.imp ?_
    refine awp_region cx [(1, .p (.bool true)), (5, .p (.bool true))] fun K hK => ?_
    simp [push_cast, c1, c2]
    repeat (refine And.intro (by clear hK; intros; first | omega | (simp_all; done) | (simp_all <;> omega)) ?_)
    refine hK _ ?_; clear hK K; refine Nav.imp ?_
    refine awp_cond (b := false) (by simp [push_cast]) (fun hb => ?_) (fun hb => ?_) <;> (refine Nav.imp ?_)
    · simp at hb
    · refine awp_region cx [] fun K hK => ?_
      simp [push_cast]
      repeat (refine And.intro (by clear hK; intros; first | omega | (simp_all; done) | (simp_all <;> omega)) ?_)
      refine hK _ ?_; clear hK K; refine Nav.imp ?_
      refine awp_cond (b := true) (by simp [push_cast]) (fun hb => ?_) (fun hb => ?_) <;> (refine Nav.imp ?_)
      · refine awp_region cx [] fun K hK => ?_
        simp [push_cast]
        repeat (refine And.intro (by clear hK; intros; first | omega | (simp_all; done) | (simp_all <;> omega)) ?_)
        refine hK _ ?_; clear hK K; refine Nav.imp ?_
        simp [push_cast]
      · simp at hb
  · have hR0 : ¬ R.length = 0 := by simpa using hR
    have hC0 : ¬ C.length = 0 := by simpa using hne
    have hR1 : ¬ (R.length : Int) = 0 := by omega
    have hC1 : ¬ (C.length : Int) = 0 := by omega
    refine pc_of_awp cx (fn := Try.f33) (c := _) Try.func33 rfl rfl (Nat.le_of_ble_eq_true rfl) ?_
    rw [Try.ntmps33]; refine Nav.imp ?_
    refine awp_region cx [] fun K hK => ?_
    simp [push_cast]
    repeat (refine And.intro (by clear hK; intros; first | omega | (simp_all; done) | (simp_all <;> omega)) ?_)
    refine hK _ ?_; clear hK K; refine Nav.imp ?_
    refine awp_region cx [(1, .p (.bool true)), (5, .p (.bool true))] fun K hK => ?_
    simp [push_cast, c1, c2]
    repeat (refine And.intro (by clear hK; intros; first | omega | (simp_all; done) | (simp_all <;> omega)) ?_)
    refine hK _ ?_; clear hK K; refine Nav.imp ?_
    refine awp_cond (b := false) (by simp [push_cast]) (fun hb => ?_) (fun hb => ?_) <;> (refine Nav.imp ?_)
    · simp at hb
    · refine awp_region cx [] fun K hK => ?_
      simp [push_cast]
      repeat (refine And.intro (by clear hK; intros; first | omega | (simp_all; done) | (simp_all <;> omega)) ?_)
      refine hK _ ?_; clear hK K; refine Nav.imp ?_
      refine awp_cond (b := false) (by simp [push_cast, hR, hR0, hR1]) (fun hb => ?_) (fun hb => ?_) <;> (refine Nav.imp ?_)
      · simp at hb
      · refine awp_region cx [] fun K hK => ?_
        simp [push_cast]
        repeat (refine And.intro (by clear hK; intros; first | omega | (simp_all; done) | (simp_all <;> omega)) ?_)
        refine hK _ ?_; clear hK K; refine Nav.imp ?_
        refine awp_cond (b := false) (by simp [push_cast, hne, hC0, hC1]) (fun hb => ?_) (fun hb => ?_) <;> (refine Nav.imp ?_)
        · simp at hb
        · refine awp_region cx [] fun K hK => ?_
          simp [push_cast]
          repeat (refine And.intro (by clear hK; intros; first | omega | (simp_all; done) | (simp_all <;> omega)) ?_)
          refine hK _ ?_; clear hK K; refine Nav.imp ?_
          refine awp_loop (β := Nat × Nat) (fun s => ⟨45, [(2, .ptr 0 0 0), (3, .ptr 1 0 0), (5, .d (.int .i64 s.1)), (6, .d (.int .i64 s.2))], [(0, some ⟨24, 1, [(regRow R).map .d]⟩), (1, some ⟨24, 1, [(regRow C).map .d]⟩)], 2⟩) (fun s => s.1 ≤ m ∧ m ≤ s.2 ∧ s.2 ≤ 8192) (fun s => s.2 - s.1) (0, 8192) ?_ ⟨Nat.zero_le _, hm1, Nat.le_refl _⟩ ?_
          · refine weak_of [(0, some 0), (1, some 1)] rfl (by simp [upT, up, upL, push_cast]) (by simp [upH, upR, upL, up, push_cast]) (by simp [namesOk, push_cast]) (by simp [olds])
          · rintro ⟨lo, hi⟩ ⟨h1, h2, h3⟩
            simp only at h1 h2 h3
            refine Nav.imp ?_
            refine awp_region cx [] fun K hK => ?_
            simp [push_cast]
            repeat (refine And.intro (by clear hK; intros; first | omega | (simp_all; done) | (simp_all <;> omega)) ?_)
            refine hK _ ?_; clear hK K; refine Nav.imp ?_
            by_cases hlt : lo < hi
            · have d1 : (lo : Int) < (hi : Int) := by omega
              have e1 := wrap_i64 (n := (lo : Int) + (hi : Int)) (by omega) (by omega)
              have e2 : Int.tdiv ((lo : Int) + (hi : Int)) 2 = (((lo + hi) / 2 : Nat) : Int) := by rw [Int.tdiv_eq_ediv_of_nonneg (by omega)]; omega
              have hmid : lo ≤ (lo + hi) / 2 ∧ (lo + hi) / 2 < hi := by omega
              generalize (lo + hi) / 2 = mid at *
              have e3 := wrap_i64 (n := (mid : Int)) (by omega) (by omega)
              have e4 := wrap_i64 (n := (mid : Int) + 1) (by omega) (by omega)
              have c3 := beyond_ok R C mid hv hc hn (by omega)
              have k1 := hm2 mid
              have k2 := hm3 mid
              generalize beyR R C mid = B at *
              refine awp_cond (b := true) (by simp [push_cast, hlt]) (fun hb => ?_) (fun hb => ?_) <;> (refine Nav.imp ?_)
              · refine awp_region cx [] fun K hK => ?_
                simp [push_cast, e1, e2, e3]
                repeat (refine And.intro (by clear hK; intros; first | omega | (simp_all; done) | (simp_all <;> omega)) ?_)
                refine hK _ ?_; clear hK K; refine Nav.imp ?_
                refine awp_region cx [(3, .p (.agg (regRow B)))] fun K hK => ?_
                simp [push_cast, c3]
                repeat (refine And.intro (by clear hK; intros; first | omega | (simp_all; done) | (simp_all <;> omega)) ?_)
                refine hK _ ?_; clear hK K; refine Nav.imp ?_
                by_cases hB : B = []
                · have hmm : m ≤ mid := by
                    by_cases h : m ≤ mid
                    · exact h
                    · exact absurd hB (k1 (by omega))
                  refine awp_cond (b := true) (by simp [push_cast, hB]) (fun hb => ?_) (fun hb => ?_) <;> (refine Nav.imp ?_)
                  · refine awp_region cx [] fun K hK => ?_
                    simp [push_cast]
                    repeat (refine And.intro (by clear hK; intros; first | omega | (simp_all; done) | (simp_all <;> omega)) ?_)
                    refine hK _ ?_; clear hK K; refine Nav.imp ?_
                    refine ⟨(lo, mid), ⟨h1, hmm, by omega⟩, by simp only; omega, ?_⟩
                    refine weak_of [(0, some 0), (1, some 1)] rfl (by simp [upT, up, upL, push_cast]) (by simp [upH, upR, upL, up, push_cast]) (by simp [namesOk, push_cast]) (by simp [olds])
                  · simp at hb
                · have hmm : mid + 1 ≤ m := by
                    by_cases h : m ≤ mid
                    · exact absurd (k2 h (by omega)) hB
                    · omega
                  have hB0 : ¬ B.length = 0 := by simpa using hB
                  have hB1 : ¬ (B.length : Int) = 0 := by omega
                  refine awp_cond (b := false) (by simp [push_cast, hB, hB0, hB1]) (fun hb => ?_) (fun hb => ?_) <;> (refine Nav.imp ?_)
                  · simp at hb
                  · refine awp_region cx [] fun K hK => ?_
                    simp [push_cast, e4]
                    repeat (refine And.intro (by clear hK; intros; first | omega | (simp_all; done) | (simp_all <;> omega)) ?_)
                    refine hK _ ?_; clear hK K; refine Nav.imp ?_
                    refine ⟨(mid + 1, hi), ⟨hmm, h2, h3⟩, by simp only; omega, ?_⟩
                    refine weak_of [(0, some 0), (1, some 1)] rfl (by simp [upT, up, upL, push_cast]) (by simp [upH, upR, upL, up, push_cast]) (by simp [namesOk, push_cast]) (by simp [olds])
              · simp at hb
            · have d2 : hi ≤ lo := by omega
              have hlm : lo = m := by omega
              subst hlm
              refine awp_cond (b := false) (by simp [push_cast, d2]) (fun hb => ?_) (fun hb => ?_) <;> (refine Nav.imp ?_)
              · simp at hb
              · refine awp_region cx [] fun K hK => ?_
                simp [push_cast]
                repeat (refine And.intro (by clear hK; intros; first | omega | (simp_all; done) | (simp_all <;> omega)) ?_)
                refine hK _ ?_; clear hK K; refine Nav.imp ?_
                simp [push_cast]
end Go.Proofs.Ytlfalheciadklaa
