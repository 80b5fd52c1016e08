/-
  The abstract machine, part 8: indexed places, slices, built-in functions; the theorem over all operations.
-/
import Derived.Test.YtmfkfgonedgjnaaAbs7
set_option linter.unusedVariables false
set_option linter.unusedSimpArgs false
namespace Go.Abs
open Go.RowKit
section
variable {P : Program} {ty : TypeId → Option TI} {o : Oper} {a : Act} {g : G} {obj : Nat → Option Ob} {w : World} {nid : Nat} {args : List AV} {e : Eff}

theorem add_addr (b o n : Nat) : (⟨b, o, none⟩ : Addr).add n = ⟨b, o + n, none⟩ := Addr.add_lit b o n

theorem indexAt_slice_run {t el : TypeId} {te : TI} (hu : P.underlying t = some (.slice el)) (hte : TOk P el te) {b off len cap : Nat} {k : IntKind} {i : Int} (h0 : 0 ≤ i) (h1 : i < (len : Int)) :
    (Instr.indexAt t (.slice (some ⟨b, off, none⟩) len cap) (.int k i)).run P w = .ok (.pointer (some ⟨b, off + i.toNat * te.size, none⟩)) w := by
  simp only [Instr.indexAt, Sem.run_bind, asIntOf, Sem.run_pure, Result.andThen_ok, run_underlying hu]
  rw [if_pos ⟨h0, h1⟩]
  simp only [Sem.run_bind, hte.sizeOf, Result.andThen_ok, Sem.run_pure, add_addr]

theorem indexAt_arr_run {t el : TypeId} {te : TI} {n : Nat} (hu : P.underlying t = some (.array n el)) (hte : TOk P el te) {b off : Nat} {k : IntKind} {i : Int} (h0 : 0 ≤ i) (h1 : i < (n : Int)) :
    (Instr.indexAt t (.pointer (some ⟨b, off, none⟩)) (.int k i)).run P w = .ok (.pointer (some ⟨b, off + i.toNat * te.size, none⟩)) w := by
  simp only [Instr.indexAt, Sem.run_bind, asIntOf, Sem.run_pure, Result.andThen_ok, run_underlying hu, Instr.sureAddr]
  rw [if_pos ⟨h0, h1⟩]
  simp only [Sem.run_bind, hte.sizeOf, Result.andThen_ok, Sem.run_pure, add_addr]

theorem indexAddr_op_sound {t : TypeId} {x y : Operand} (hc : Ctx P ty) (hH : HRel g obj w) (ho : o.op = .indexAddr t x y) (hargs : RepAs g w args [a.eval x, a.eval y]) (he : effIndexAddr ty t obj args = some e) (hob : e.ob) : Does P o a w (After g obj w nid e) := by
  unfold effIndexAddr at he
  split at he
  · rename_i id off len k i
    obtain ⟨h1, h2⟩ := two_args hargs
    simp only [RepA, RepD] at h1 h2
    cases ht : ty t with
    | none => rw [ht] at he; cases he
    | some ti =>
      rw [ht] at he
      simp only [Option.bind_some] at he
      split at he
      · rename_i el hk
        cases hte : ty el with
        | none => rw [hte] at he; cases he
        | some te =>
          rw [hte] at he
          cases hobj : obj id with
          | none => rw [hobj] at he; cases he
          | some ob =>
            rw [hobj] at he
            simp only [Option.bind_some] at he
            split at he
            · rename_i hm
              cases he
              obtain ⟨o1, o2⟩ := hob
              obtain ⟨L, hL, hok⟩ := hH.own id ob hobj
              rcases h1.2 L hL with ⟨_, _, hl0, _⟩ | ⟨hv, hle, hx⟩
              · exfalso; rw [hl0] at o2; simp only [Int.natCast_zero] at o2; omega
              · have hmL : L.m = te.size := by rw [hok.m, hm]
                refine does_value (v := .pointer (some ⟨L.blk, off * L.m + i.toNat * te.size, none⟩)) (w' := w) ?_ (After.same hH ?_)
                · simp only [execOp, ho, hx, h2, Sem.run_bind, indexAt_slice_run (kind_slice (hc.ok t ti ht) hk) (hc.ok el te hte) o1 o2, Result.andThen_ok, Sem.run_pure]
                · simp only [RepA]
                  refine ⟨⟨h1.1.1, rfl⟩, fun M hM => ?_⟩
                  rw [hL] at hM; cases hM
                  exact ⟨hv, by rw [hmL, Nat.add_zero, Nat.add_mul]⟩
            · cases he
      · cases he
  · rename_i rows k i
    obtain ⟨h1, h2⟩ := two_args hargs
    simp only [RepA, RepD] at h1 h2
    cases ht : ty t with
    | none => rw [ht] at he; cases he
    | some ti =>
      rw [ht] at he
      simp only [Option.bind_some] at he
      split at he
      · rename_i el hk
        cases hte : ty el with
        | none => rw [hte] at he; cases he
        | some te =>
          rw [hte] at he
          simp only [Option.bind_some, Option.map_eq_some_iff] at he
          obtain ⟨r, hr, rfl⟩ := he
          obtain ⟨o1, o2⟩ := hob
          obtain ⟨ad, cap, hv, hcap, hmax, hrows⟩ := h1
          have hlt : i.toNat < rows.length := (List.getElem?_eq_some_iff.1 hr).1
          rcases hrows with rfl | ⟨b, off, m, rfl, hb, hrr⟩
          · simp at hr
          · obtain ⟨us, hul, hur, huc⟩ := hrr.get _ _ hr
            have hm : m = te.size := by rw [← hul, hur.length, o2]
            subst hm
            refine does_value (v := .pointer (some ⟨b, off + i.toNat * te.size, none⟩)) (w' := w) ?_ (After.same hH ?_)
            · simp only [execOp, ho, hv, h2, Sem.run_bind, indexAt_slice_run (kind_slice (hc.ok t ti ht) hk) (hc.ok el te hte) o1 (show i < (rows.length : Int) by omega), Result.andThen_ok, Sem.run_pure]
            · simp only [RepA, RepD]
              exact ⟨b, _, us, rfl, hb, hur, huc⟩
      · cases he
  · rename_i id i0 j k i
    obtain ⟨h1, h2⟩ := two_args hargs
    simp only [RepA, RepD] at h1 h2
    cases ht : ty t with
    | none => rw [ht] at he; cases he
    | some ti =>
      rw [ht] at he
      simp only [Option.bind_some] at he
      split at he
      · rename_i n el hk
        cases hte : ty el with
        | none => rw [hte] at he; cases he
        | some te =>
          rw [hte] at he
          simp only [Option.bind_some] at he
          split at he
          · cases he
          · simp only [Option.map_eq_some_iff] at he
            obtain ⟨ob, hobj, rfl⟩ := he
            obtain ⟨o1, o2⟩ := hob
            obtain ⟨L, hL, hok⟩ := hH.own id ob hobj
            obtain ⟨hv, hx⟩ := h1.2 L hL
            refine does_value (v := .pointer (some ⟨L.blk, i0 * L.m + j + i.toNat * te.size, none⟩)) (w' := w) ?_ (After.same hH ?_)
            · simp only [execOp, ho, hx, h2, Sem.run_bind, indexAt_arr_run (kind_arr (hc.ok t ti ht) hk) (hc.ok el te hte) o1 o2, Result.andThen_ok, Sem.run_pure]
            · simp only [RepA]
              refine ⟨⟨h1.1.1, rfl⟩, fun M hM => ?_⟩
              rw [hL] at hM; cases hM
              exact ⟨hv, by rw [Nat.add_assoc]⟩
      · cases he
  · rename_i cs k i
    obtain ⟨h1, h2⟩ := two_args hargs
    simp only [RepA, RepD] at h1 h2
    cases ht : ty t with
    | none => rw [ht] at he; cases he
    | some ti =>
      rw [ht] at he
      simp only [Option.bind_some] at he
      split at he
      · rename_i n el hk
        cases hte : ty el with
        | none => rw [hte] at he; cases he
        | some te =>
          rw [hte] at he
          simp only [Option.bind_some] at he
          split at he
          · cases he
          · cases he
            obtain ⟨o1, o2⟩ := hob
            obtain ⟨b, off, us, hx, hb, hr, hcell⟩ := h1
            refine does_value (v := .pointer (some ⟨b, off + i.toNat * te.size, none⟩)) (w' := w) ?_ (After.same hH ?_)
            · simp only [execOp, ho, hx, h2, Sem.run_bind, indexAt_arr_run (kind_arr (hc.ok t ti ht) hk) (hc.ok el te hte) o1 o2, Result.andThen_ok, Sem.run_pure]
            · simp only [RepA, RepD]
              exact ⟨b, _, _, rfl, hb, hr.drop _, hcell.drop _⟩
      · cases he
  · cases he

theorem sliceBounds_run {len cap : Nat} {lo hi : Option Value} {l h : Int} (hlo : (lo = none ∧ l = 0) ∨ ∃ k, lo = some (.int k l)) (hhi : (hi = none ∧ h = len) ∨ ∃ k, hi = some (.int k h)) (h0 : 0 ≤ l) (h1 : l ≤ h) (h2 : h ≤ (len : Int)) (hcap : len ≤ cap) :
    (Instr.sliceBounds true len cap lo hi none).run P w = .ok (l.toNat, h.toNat, cap) w := by
  have b1 : ∀ k, (Instr.sliceBound (.int k h) cap .sliceAcap).run P w = .ok h.toNat w := fun k => by
    simp only [Instr.sliceBound, asIntOf, Sem.run_bind, Sem.run_pure, Result.andThen_ok]
    rw [if_pos ⟨by omega, by omega⟩]
    simp
  have b2 : ∀ k, (Instr.sliceBound (.int k l) h.toNat .sliceB).run P w = .ok l.toNat w := fun k => by
    simp only [Instr.sliceBound, asIntOf, Sem.run_bind, Sem.run_pure, Result.andThen_ok]
    rw [if_pos ⟨h0, by omega⟩]
    simp
  rcases hlo with ⟨rfl, rfl⟩ | ⟨k, rfl⟩ <;> rcases hhi with ⟨rfl, rfl⟩ | ⟨k', rfl⟩
  · simp [Instr.sliceBounds]
  · simp [Instr.sliceBounds, b1]
  · have b2' := b2 k
    simp at b2'
    simp [Instr.sliceBounds, b2']
  · simp [Instr.sliceBounds, b1, b2]

theorem sliceArgs_sound {lo hi : Option Operand} {rest : List AV} {b : Option Int × Option Int} (hb : sliceArgs lo.isSome hi.isSome rest = some b) (hrest : RepAs g w rest (lo.toList.map a.eval ++ hi.toList.map a.eval)) (n : Nat) :
    ((lo.map a.eval = none ∧ b.1.getD 0 = 0) ∨ ∃ k, lo.map a.eval = some (.int k (b.1.getD 0))) ∧ ((hi.map a.eval = none ∧ b.2.getD n = n) ∨ ∃ k, hi.map a.eval = some (.int k (b.2.getD n))) := by
  unfold sliceArgs at hb
  split at hb
  · rename_i h1 h2
    cases hb
    simp only [Option.isSome_eq_false_iff, Option.isNone_iff_eq_none] at h1 h2
    subst h1; subst h2
    exact ⟨.inl ⟨rfl, rfl⟩, .inl ⟨rfl, rfl⟩⟩
  · rename_i h1 h2
    cases hb
    obtain ⟨p, rfl⟩ := Option.isSome_iff_exists.1 h1
    simp only [Option.isSome_eq_false_iff, Option.isNone_iff_eq_none] at h2
    subst h2
    have h := one_arg hrest
    simp only [RepA, RepD] at h
    exact ⟨.inr ⟨_, by simp [h]; rfl⟩, .inl ⟨rfl, rfl⟩⟩
  · rename_i h1 h2
    cases hb
    obtain ⟨p, rfl⟩ := Option.isSome_iff_exists.1 h2
    simp only [Option.isSome_eq_false_iff, Option.isNone_iff_eq_none] at h1
    subst h1
    have h := one_arg hrest
    simp only [RepA, RepD] at h
    exact ⟨.inl ⟨rfl, rfl⟩, .inr ⟨_, by simp [h]; rfl⟩⟩
  · rename_i h1 h2
    cases hb
    obtain ⟨p, rfl⟩ := Option.isSome_iff_exists.1 h1
    obtain ⟨q, rfl⟩ := Option.isSome_iff_exists.1 h2
    obtain ⟨h, h'⟩ := two_args hrest
    simp only [RepA, RepD] at h h'
    exact ⟨.inr ⟨_, by simp [h]; rfl⟩, .inr ⟨_, by simp [h']; rfl⟩⟩
  · cases hb

/-- The ghost after the freeze. -/
def frozen (g : G) (id : Nat) : G := ⟨fun b => g.ro b ∨ ∃ L, g.loc id = some L ∧ L.virt = false ∧ b = L.blk, fun x => if x = id then none else g.loc x, g.used⟩

theorem frozen_later {g : G} {w : World} {id : Nat} : Later g w (frozen g id) w := ⟨fun b hb => ⟨.inl hb, rfl⟩, fun _ h => h, fun x _ => by simp only [frozen]; split <;> simp⟩

theorem freeze_rel {id : Nat} {L : Loc} (h : HRel g obj w) (hL : g.loc id = some L) : HRel (frozen g id) (upd1 obj id none) w ∧ Step g w (frozen g id) w := by
  have hloc : ∀ x M, (frozen g id).loc x = some M → x ≠ id ∧ g.loc x = some M := by
    intro x M hx
    simp only [frozen] at hx
    split at hx
    · cases hx
    · rename_i e; exact ⟨e, hx⟩
  refine ⟨⟨?_, ?_, ?_, ?_, ?_⟩, ⟨rfl, ⟨rfl, Nat.le_refl _⟩, rfl, Nat.le_refl _, fun _ _ _ => rfl, ?_, fun _ hb => .inl hb, ?_⟩⟩
  · intro x o hx
    simp only [upd1] at hx
    split at hx
    · cases hx
    · rename_i e
      obtain ⟨M, hM, hok⟩ := h.own x o hx
      exact ⟨M, by simp [frozen, e, hM], hok.later frozen_later fun _ => rfl⟩
  · intro x hx
    simp only [upd1] at hx
    split at hx
    · rename_i e; simp [frozen, e]
    · rename_i e; simp [frozen, e, h.gone x hx]
  · intro x M hx
    obtain ⟨e, hM⟩ := hloc x M hx
    refine ⟨(h.live x M hM).1, fun hv => ⟨((h.live x M hM).2 hv).1, ?_⟩⟩
    rintro (hro | ⟨L', hL', hv', hb⟩)
    · exact ((h.live x M hM).2 hv).2 hro
    · exact e (h.inj x id M L' hM hL' hv hv' hb)
  · intro x y M M' hx hy hv hv' hb
    exact h.inj x y M M' (hloc x M hx).2 (hloc y M' hy).2 hv hv' hb
  · rintro b (hro | ⟨L', hL', hv', rfl⟩)
    · exact h.ro b hro
    · exact ((h.live id L' hL').2 hv').1
  · rintro b ⟨x, M, hx, hv, rfl⟩
    exact .inr ⟨x, M, (hloc x M hx).2, hv, rfl⟩
  · rintro b (hro | ⟨L', hL', hv', rfl⟩)
    · exact .inl hro
    · exact .inr (.inr ⟨id, L', hL', hv', rfl⟩)

theorem sliceArgs_none {lo hi : Bool} {rest : List AV} {b : Option Int × Option Int} (h : sliceArgs lo hi rest = some b) (h1 : b.1.isNone = true) (h2 : b.2.isNone = true) : lo = false ∧ hi = false := by
  unfold sliceArgs at h
  split at h
  · exact ⟨rfl, rfl⟩
  · cases h; cases h1
  · cases h; cases h2
  · cases h; cases h1
  · cases h

theorem chunkD_length : ∀ (n m : Nat) (l : List D), (chunkD n m l).length = n
  | 0, _, _ => rfl
  | n + 1, m, l => by simp only [chunkD, List.length_cons, chunkD_length n m]

theorem chunkD_rep {ro : Nat → Prop} {b m : Nat} : ∀ (n : Nat) (ds : List D) (us : List Value) (o : Nat), n * m ≤ ds.length → RepDs ro w ds us → CellsAt w b o us → RepRows ro w b m o (chunkD n m ds)
  | 0, _, _, _, _, _, _ => by simp [chunkD, RepRows]
  | n + 1, ds, us, o, hl, hr, hc => by
    rw [Nat.succ_mul] at hl
    simp only [chunkD, RepRows]
    refine ⟨⟨us.take m, by rw [List.length_take, hr.length]; omega, hr.take m, hc.take m⟩, ?_⟩
    exact chunkD_rep n (ds.drop m) (us.drop m) (o + m) (by simp; omega) (hr.drop m) (hc.drop m)

theorem sliceArr_sound {t el : TypeId} {n : Nat} {te : TI} {x : Operand} (hte : TOk P el te) (hu : P.underlying t = some (.array n el)) (hH : HRel g obj w) (ho : o.op = .slice t x none none none) {y : AV}
    {b : Option Int × Option Int} (he : (match y with | .ptr id i j => (obj id).bind fun o => (o.rows[i]?).bind fun row => (allD (row.drop j)).bind fun ds =>
      if b.1.isNone ∧ b.2.isNone ∧ te.size ≠ 0 ∧ n ≠ 0 ∧ n ≤ 65536 ∧ n * te.size ≤ ds.length then some ({ val := .d (.sl (chunkD n te.size ds)), wr := [(id, none)] } : Eff) else none | _ => none) = some e) (hy : RepA g w y (a.eval x)) : Does P o a w (After g obj w nid e) := by
  split at he
  · rename_i id i j
    cases hob : obj id with
    | none => rw [hob] at he; cases he
    | some ob =>
      rw [hob] at he
      simp only [Option.bind_some] at he
      cases hrow : ob.rows[i]? with
      | none => rw [hrow] at he; cases he
      | some row =>
        rw [hrow] at he
        simp only [Option.bind_some] at he
        cases had : allD (row.drop j) with
        | none => rw [had] at he; cases he
        | some ds =>
          rw [had] at he
          simp only [Option.bind_some] at he
          split at he
          · rename_i hcond
            obtain ⟨_, _, hsz, hn0, hn, hlen⟩ := hcond
            cases he
            obtain ⟨L, hL, hok⟩ := hH.own id ob hob
            simp only [RepA] at hy
            obtain ⟨hv, hx⟩ := hy.2 L hL
            obtain ⟨us, hul, hur, huc⟩ := hok.row hv hrow
            obtain ⟨h1, h2⟩ := freeze_rel (id := id) hH hL
            have hds := RepAs.allD had (hur.drop j)
            have hrun : (execOp a.eval o).run P w = .ok (.value (.slice (some ⟨L.blk, i * L.m + j, none⟩) n n)) w := by
              have hb : (Instr.sliceBounds false n n none none none).run P w = .ok (0, n, n) w := by simp [Instr.sliceBounds]
              simp only [execOp, ho, hx, Sem.run_bind, Instr.sliceAt, run_underlying hu, Result.andThen_ok, Instr.sureAddr, Sem.run_pure, Option.map_none, hb, hte.sizeOf]
              rw [if_neg hn0]
              simp [add_addr]
            refine does_value hrun ⟨frozen g id, by simpa [updL] using h1, h2, frozen_later, fun k hk => .inl hk, ?_⟩
            simp only [RepA, RepD]
            refine ⟨_, n, by rw [chunkD_length], by rw [chunkD_length]; exact Nat.le_refl _, by simp only [maxLen]; omega, .inr ⟨L.blk, i * L.m + j, te.size, rfl, .inr ⟨L, hL, hv, rfl⟩, ?_⟩⟩
            exact chunkD_rep n ds (us.drop j) _ hlen (RepDs.mono (fun b hb => ⟨.inl hb, rfl⟩) _ _ hds) (huc.drop j)
          · cases he
  · cases he

theorem slice_op_sound {t : TypeId} {x : Operand} {lo hi : Option Operand} (hc : Ctx P ty) (hH : HRel g obj w) (ho : o.op = .slice t x lo hi none) (hargs : RepAs g w args (a.eval x :: (lo.toList.map a.eval ++ hi.toList.map a.eval)))
    (he : effSlice ty t obj lo.isSome hi.isSome args = some e) (hob : e.ob) : Does P o a w (After g obj w nid e) := by
  cases args with
  | nil => simp [effSlice] at he
  | cons y rest =>
    simp only [RepAs] at hargs
    obtain ⟨v, vs, heq, hy, hrest⟩ := hargs
    simp only [List.cons.injEq] at heq
    obtain ⟨rfl, rfl⟩ := heq
    simp only [effSlice] at he
    cases hb : sliceArgs lo.isSome hi.isSome rest with
    | none => rw [hb] at he; cases he
    | some b =>
      rw [hb] at he
      have hbs := fun n => sliceArgs_sound (a := a) hb hrest n
      cases ht : ty t with
      | none => rw [ht] at he; cases he
      | some ti =>
        rw [ht] at he
        simp only [Option.bind_some] at he
        split at he
        · rename_i el hk
          cases hte : ty el with
          | none => rw [hte] at he; cases he
          | some te =>
            rw [hte] at he
            simp only [Option.bind_some] at he
            have hu := kind_slice (hc.ok t ti ht) hk
            have go : ∀ (ad : Option Addr) (len cap : Nat), a.eval x = .slice ad len cap → len ≤ cap → 0 ≤ b.1.getD 0 → b.1.getD 0 ≤ b.2.getD len → b.2.getD len ≤ len →
                (execOp a.eval o).run P w = .ok (.value (.slice (if cap = (b.1.getD 0).toNat then ad else ad.map (·.add ((b.1.getD 0).toNat * te.size))) ((b.2.getD len).toNat - (b.1.getD 0).toNat) (cap - (b.1.getD 0).toNat))) w := by
              intro ad len cap hx hcap h0 h1 h2
              obtain ⟨q1, q2⟩ := hbs len
              simp only [execOp, ho, hx, Sem.run_bind, Instr.sliceAt, run_underlying hu, Result.andThen_ok, Instr.slice, sliceBounds_run q1 q2 h0 h1 h2 hcap, (hc.ok el te hte).sizeOf, Sem.run_pure, Option.map_none]
            split at he
            · rename_i rows
              cases he
              obtain ⟨o1, o2, o3, o4⟩ := hob
              simp only [RepA, RepD] at hy
              obtain ⟨ad, cap, hv, hcap, hmax, hrows⟩ := hy
              refine does_value (go ad rows.length cap hv hcap o1 o2 o3) (After.same hH ?_)
              simp only [RepA, RepD]
              have hlen : ((rows.take (b.2.getD rows.length).toNat).drop (b.1.getD 0).toNat).length = (b.2.getD rows.length).toNat - (b.1.getD 0).toNat := by
                rw [List.length_drop, List.length_take, Nat.min_eq_left (by omega)]
              refine ⟨_, _, by rw [hlen], by rw [hlen]; omega, by omega, ?_⟩
              by_cases hz : ((rows.take (b.2.getD rows.length).toNat).drop (b.1.getD 0).toNat) = []
              · exact .inl hz
              · right
                have hne : ¬ cap = (b.1.getD 0).toNat := by
                  intro hcc
                  apply hz
                  apply List.eq_nil_of_length_eq_zero
                  rw [hlen]; omega
                rcases hrows with rfl | ⟨bk, off, m, rfl, hro, hrr⟩
                · simp at hz
                · have hm : m = te.size := by
                    cases rows with
                    | nil => simp at hz
                    | cons r rs =>
                      obtain ⟨us, hul, hur, _⟩ := hrr.get 0 r rfl
                      rw [← hul, hur.length]
                      exact o4 r List.mem_cons_self
                  subst hm
                  refine ⟨bk, off + (b.1.getD 0).toNat * te.size, te.size, by rw [if_neg hne]; simp [add_addr], hro, ?_⟩
                  exact (hrr.take _).drop _
            · rename_i id off len
              cases hobj : obj id with
              | none => rw [hobj] at he; cases he
              | some ob =>
                rw [hobj] at he
                simp only [Option.bind_some] at he
                split at he
                · rename_i hm
                  cases he
                  obtain ⟨o1, o2, o3⟩ := hob
                  simp only [RepA] at hy
                  obtain ⟨L, hL, hok⟩ := hH.own id ob hobj
                  have hmL : L.m = te.size := by rw [hok.m, hm]
                  rcases hy.2 L hL with ⟨hv, rfl, rfl, hx⟩ | ⟨hv, hle, hx⟩
                  · have hl0 : (b.1.getD 0).toNat = 0 := by
                      have h3 : b.2.getD (0 : Nat) ≤ 0 := o3
                      have h4 : b.1.getD 0 ≤ b.2.getD (0 : Nat) := o2
                      omega
                    have hh0 : (b.2.getD ((0 : Nat) : Int)).toNat = 0 := by
                      have h3 : b.2.getD ((0 : Nat) : Int) ≤ 0 := o3
                      omega
                    have hrun := go none 0 0 hx (Nat.le_refl _) o1 o2 o3
                    rw [hl0, hh0] at hrun
                    refine does_value hrun (After.same hH ?_)
                    rw [hl0, hh0, if_pos (.inl (by omega))]
                    simp only [RepA]
                    refine ⟨⟨hy.1.1, rfl⟩, fun M hM => ?_⟩
                    rw [hL] at hM; cases hM
                    exact .inl ⟨hv, by trivial, by simp, by simp⟩
                  · refine does_value (go _ len _ hx (by omega) o1 o2 o3) (After.same hH ?_)
                    by_cases o4 : b.1.getD 0 = 0 ∨ b.1.getD 0 < (len : Int)
                    rotate_left
                    · rw [if_neg o4]
                      obtain ⟨cur, _, _, hcapm, _⟩ := hok.cells hv
                      simp only [RepA, RepD]
                      refine ⟨_, _, by rw [show (b.2.getD (len : Int)).toNat - (b.1.getD 0).toNat = ([] : List (List D)).length by simp; omega], by simp, by omega, .inl trivial⟩
                    rw [if_pos o4]
                    simp only [RepA]
                    refine ⟨⟨hy.1.1, rfl⟩, fun M hM => ?_⟩
                    rw [hL] at hM; cases hM
                    refine .inr ⟨hv, by omega, ?_⟩
                    have hadd : (if L.cap - off = (b.1.getD 0).toNat then some (⟨L.blk, off * L.m, none⟩ : Addr) else (some (⟨L.blk, off * L.m, none⟩ : Addr)).map (·.add ((b.1.getD 0).toNat * te.size))) = some ⟨L.blk, (off + (b.1.getD 0).toNat) * L.m, none⟩ := by
                      rcases o4 with o4 | o4
                      · rw [o4]; simp [Addr.add]
                      · rw [if_neg (by omega)]
                        simp only [Option.map_some, add_addr, hmL, Nat.add_mul]
                    rw [hadd]
                    congr 1
                    omega
                · cases he
            · cases he
        · rename_i n el hk
          unfold effSliceArr at he
          cases hte : ty el with
          | none =>
            rw [hte] at he
            split at he <;> cases he
          | some te =>
            rw [hte] at he
            simp only [Option.bind_some] at he
            have hlo : lo = none ∧ hi = none := by
              have hbb : b.1.isNone ∧ b.2.isNone := by
                split at he
                · simp only [Option.bind_eq_some_iff] at he
                  obtain ⟨_, _, _, _, _, _, he⟩ := he
                  split at he
                  · rename_i hc; exact ⟨hc.1, hc.2.1⟩
                  · cases he
                · cases he
              obtain ⟨q1, q2⟩ := sliceArgs_none hb hbb.1 hbb.2
              have none_of : ∀ {z : Option Operand}, z.isSome = false → z = none := fun {z} h => by cases z with
                | none => rfl
                | some _ => cases h
              exact ⟨none_of q1, none_of q2⟩
            obtain ⟨rfl, rfl⟩ := hlo
            exact sliceArr_sound (b := b) (hc.ok el te hte) (kind_arr (hc.ok t ti ht) hk) hH ho he hy
        · cases he

theorem builtin_op_sound {c : Call} {b : Builtin} (hc : Ctx P ty) (hH : HRel g obj w) (hid : ¬ g.used nid) (ho : o.op = .call c) (hcb : c.callee = .builtin b) (hargs : RepAs g w args (c.args.toList.map a.eval))
    (he : effBuiltin ty b c.argTypes.toList obj nid args = some e) (hob : e.ob) : Does P o a w (After g obj w nid e) := by
  have hexec : ∀ (s : Sem Value) (v : Value) (w' : World), (∀ t cs, builtin b c.argTypes t cs (c.args.map a.eval) = do pure (.value (← s))) → s.run P w = .ok v w' → (execOp a.eval o).run P w = .ok (.value v) w' := by
    intro s v w' hs hrun
    simp only [execOp, ho, resolve, hcb, pure_bind, invoke, hs, Sem.run_bind, hrun, Result.andThen_ok, Sem.run_pure]
  have hcargs : c.args.map a.eval = (c.args.toList.map a.eval).toArray := by apply Array.ext'; simp
  unfold effBuiltin at he
  split at he
  · rename_i t x hat
    have hat' : c.argTypes = #[t] := by apply Array.ext'; simpa using hat
    have hlen := hargs.length
    obtain ⟨v, hv⟩ : ∃ v, c.args.toList.map a.eval = [v] := by
      match h : c.args.toList.map a.eval, hlen with
      | [v], _ => exact ⟨v, rfl⟩
    rw [hv] at hargs
    have h := one_arg hargs
    cases ht : ty t with
    | none => rw [ht] at he; cases he
    | some ti =>
      rw [ht] at he
      simp only [Option.bind_some] at he
      have go : ∀ (n : Int), (Builtin.len_ #[t] 0 #[v]).run P w = .ok (.int .i64 n) w → (∀ ty', Builtin.len_ #[t] ty' #[v] = Builtin.len_ #[t] 0 #[v]) → Does P o a w (After g obj w nid { val := .d (.int .i64 n) }) := by
        intro n hrun hty
        refine does_value (hexec (Builtin.len_ #[t] 0 #[v]) _ w ?_ hrun) (After.same hH (by simp only [RepA, RepD]))
        intro t' cs
        simp only [builtin, hat', hcargs, hv]
        rw [hty]
      unfold lenA at he
      split at he
      · rename_i el hk
        cases he
        simp only [RepA] at h
        subst h
        exact go 0 (by simp [Builtin.len_, run_underlying (kind_slice (hc.ok t ti ht) hk), goInt]) (fun _ => rfl)
      · rename_i el rows hk
        cases he
        simp only [RepA, RepD] at h
        obtain ⟨ad, cap, rfl, _⟩ := h
        exact go _ (by simp [Builtin.len_, run_underlying (kind_slice (hc.ok t ti ht) hk), goInt]) (fun _ => rfl)
      · rename_i el id off n hk
        simp only [Option.map_eq_some_iff] at he
        obtain ⟨ob, hobj, rfl⟩ := he
        obtain ⟨L, hL, hok⟩ := hH.own id ob hobj
        simp only [RepA] at h
        rcases h.2 L hL with ⟨_, _, rfl, rfl⟩ | ⟨_, _, rfl⟩
        · exact go _ (by simp [Builtin.len_, run_underlying (kind_slice (hc.ok t ti ht) hk), goInt]) (fun _ => rfl)
        · exact go _ (by simp [Builtin.len_, run_underlying (kind_slice (hc.ok t ti ht) hk), goInt]) (fun _ => rfl)
      · rename_i str hk
        cases he
        simp only [RepA, RepD] at h
        subst h
        have hu : P.underlying t = some .string := by have := (hc.ok t ti ht).kind; rw [hk] at this; exact this
        exact go _ (by simp [Builtin.len_, run_underlying hu, goInt]) (fun _ => rfl)
      · rename_i n el hk
        cases he
        exact go _ (by simp [Builtin.len_, run_underlying (kind_arr (hc.ok t ti ht) hk), goInt]) (fun _ => rfl)
      · cases he
  · rename_i t t' s x hat
    split at he
    · rename_i htt
      subst htt
      have hat' : c.argTypes = #[t, t] := by apply Array.ext'; simpa using hat
      have hlen := hargs.length
      obtain ⟨v, u, hv⟩ : ∃ v u, c.args.toList.map a.eval = [v, u] := by
        match h : c.args.toList.map a.eval, hlen with
        | [v, u], _ => exact ⟨v, u, rfl⟩
      rw [hv] at hargs
      obtain ⟨h1, h2⟩ := two_args hargs
      cases ht : ty t with
      | none => rw [ht] at he; cases he
      | some ti =>
        rw [ht] at he
        simp only [Option.bind_some] at he
        split at he
        · rename_i el hk
          cases hte : ty el with
          | none => rw [hte] at he; cases he
          | some te =>
            rw [hte] at he
            simp only [Option.bind_some] at he
            split at he
            · cases he
            · rename_i hpos
              cases hd : dstRows obj el te.size s with
              | none => rw [hd] at he; cases he
              | some d =>
                cases hs : srcRows obj te.size x with
                | none => rw [hd, hs] at he; cases he
                | some r =>
                  rw [hd, hs] at he
                  simp only [Option.bind_some, Option.map_some, Option.some.injEq] at he
                  subst he
                  obtain ⟨o1, o2, o3⟩ := hob
                  obtain ⟨d1, d2, d3⟩ := d
                  obtain ⟨r1, r2⟩ := r
                  obtain ⟨v', w', hrun, hA⟩ := append_sound (ty := 0) (hc.ok t ti ht) hk (hc.ok el te hte) (by omega) (by omega) hH hid h1 h2 hd o1 hs o2 o3
                  refine does_value (hexec (Builtin.append_ #[t, t] 0 #[v, u]) v' w' ?_ hrun) hA
                  intro t' cs
                  simp only [builtin, hat', hcargs, hv]
                  rfl
        · cases he
    · cases he
  · rename_i t t' id len x hat
    split at he
    · rename_i htt
      subst htt
      have hat' : c.argTypes = #[t, t] := by apply Array.ext'; simpa using hat
      have hlen := hargs.length
      obtain ⟨v, u, hv⟩ : ∃ v u, c.args.toList.map a.eval = [v, u] := by
        match h : c.args.toList.map a.eval, hlen with
        | [v, u], _ => exact ⟨v, u, rfl⟩
      rw [hv] at hargs
      obtain ⟨h1, h2⟩ := two_args hargs
      cases ht : ty t with
      | none => rw [ht] at he; cases he
      | some ti =>
        rw [ht] at he
        simp only [Option.bind_some] at he
        split at he
        · rename_i el hk
          cases hte : ty el with
          | none => rw [hte] at he; cases he
          | some te =>
            rw [hte] at he
            simp only [Option.bind_some] at he
            cases hobj : obj id with
            | none => rw [hobj] at he; cases he
            | some ob =>
              rw [hobj] at he
              simp only [Option.bind_some] at he
              cases hs : srcRows obj te.size x with
              | none => rw [hs] at he; cases he
              | some r =>
                rw [hs] at he
                simp only [Option.bind_some] at he
                split at he
                · rename_i hm
                  cases he
                  obtain ⟨o1, o2, o3⟩ := hob
                  obtain ⟨w', g', hrun, hH', hS, hL, hu⟩ := copy_sound (ty := 0) (kind_slice (hc.ok t ti ht) hk) (hc.ok el te hte) hH hobj hm h1 h2 hs o1 o2 o3
                  refine does_value (hexec (Builtin.copy_ #[t, t] 0 #[v, u]) _ w' ?_ hrun) ⟨g', by simpa [updL] using hH', hS, hL, fun k hk => .inl (hu k hk), by simp [RepA, RepD]⟩
                  intro t' cs
                  simp only [builtin, hat', hcargs, hv]
                  rfl
                · cases he
        · cases he
    · cases he
  · rename_i ats k m k' n
    split at he
    · rename_i hk
      subst hk
      cases he
      have hlen := hargs.length
      obtain ⟨v, u, hv⟩ : ∃ v u, c.args.toList.map a.eval = [v, u] := by
        match h : c.args.toList.map a.eval, hlen with
        | [v, u], _ => exact ⟨v, u, rfl⟩
      rw [hv] at hargs
      obtain ⟨h1, h2⟩ := two_args hargs
      simp only [RepA, RepD] at h1 h2
      subst h1; subst h2
      refine does_value (hexec (Builtin.min_ #[] 0 #[.int k m, .int k n]) (.int k (min m n)) w ?_ ?_) (After.same hH (by simp only [RepA, RepD]))
      · intro t' cs
        simp only [builtin, hcargs, hv]
        rfl
      · simp only [Builtin.min_, List.foldlM_cons, List.foldlM_nil, Builtin.min2, Sem.run_bind, Sem.run_pure, Result.andThen_ok]
        congr 2
        omega
    · cases he
  · rename_i ats k m k' n
    split at he
    · rename_i hk
      subst hk
      cases he
      have hlen := hargs.length
      obtain ⟨v, u, hv⟩ : ∃ v u, c.args.toList.map a.eval = [v, u] := by
        match h : c.args.toList.map a.eval, hlen with
        | [v, u], _ => exact ⟨v, u, rfl⟩
      rw [hv] at hargs
      obtain ⟨h1, h2⟩ := two_args hargs
      simp only [RepA, RepD] at h1 h2
      subst h1; subst h2
      refine does_value (hexec (Builtin.max_ #[] 0 #[.int k m, .int k n]) (.int k (max m n)) w ?_ ?_) (After.same hH (by simp only [RepA, RepD]))
      · intro t' cs
        simp only [builtin, hcargs, hv]
        rfl
      · simp only [Builtin.max_, List.foldlM_cons, List.foldlM_nil, Builtin.max2, Sem.run_bind, Sem.run_pure, Result.andThen_ok]
        congr 2
        omega
    · cases he
  · cases he

/-- EVERY OPERATION THAT HAS AN EFFECT DOES JUST THAT. -/
theorem eff0_sound {orc : Option Res} (hc : Ctx P ty) (hH : HRel g obj w) (hid : ¬ g.used nid) (hargs : RepAs g w args (o.op.operands.toList.map a.eval)) (he : eff0 ty P orc o.op obj nid args = some e) (hob : e.ob) : Does P o a w (After g obj w nid e) := by
  cases hop : o.op <;> rw [hop] at he hargs <;> simp only [eff0, reduceCtorEq] at he
  case move x => exact move_sound hH (.inl hop) (by simpa [Op.operands] using hargs) he
  case assign x => exact move_sound hH (.inr hop) (by simpa [Op.operands] using hargs) he
  case pick c x y => exact pick_sound hH hop (by simpa [Op.operands] using hargs) he hob
  case alloc t => exact alloc_op_sound hc hH hid hop he
  case box t x => exact box_op_sound hH hid hop (by simpa [Op.operands] using hargs) he
  case build t ps => exact build_op_sound hc hH hop (by simpa [Op.operands] using hargs) he
  case buildSlice t len ps => exact buildSlice_op_sound hc hH hid hop (by simpa [Op.operands] using hargs) he
  case nilCheck x => exact nilCheck_op_sound hH hop (by simpa [Op.operands] using hargs) he
  case load t x => exact load_op_sound hc hH hop (by simpa [Op.operands] using hargs) he
  case store t x y => exact store_op_sound hc hH hop (by simpa [Op.operands] using hargs) he
  case binOp op t x y yt => exact bin_sound hc hH hop (by simpa [Op.operands] using hargs) he hob
  case unOp op t x => exact un_sound hH hop (by simpa [Op.operands] using hargs) he
  case convert src dst x => exact convert_sound hc hH hop (by simpa [Op.operands] using hargs) he
  case makeFunc fn first caps => exact makeFunc_op_sound hH hop (by simpa [Op.operands] using hargs) he
  case makeSlice t x y => exact makeSlice_op_sound hc hH hid hop (by simpa [Op.operands] using hargs) he hob
  case slice t x lo hi mx =>
    cases mx with
    | some m => simp at he
    | none => exact slice_op_sound hc hH hop (by cases lo <;> cases hi <;> simpa [Op.operands] using hargs) (by simpa using he) hob
  case fieldAddr t x f => exact fieldAddr_op_sound hc hH hop (by simpa [Op.operands] using hargs) he
  case field t x f => exact field_op_sound hc hH hop (by simpa [Op.operands] using hargs) he
  case indexAddr t x y => exact indexAddr_op_sound hc hH hop (by simpa [Op.operands] using hargs) he hob
  case index t x y => exact index_op_sound hc hH hop (by simpa [Op.operands] using hargs) he hob
  case extract x ix => exact extract_op_sound hH hop (by simpa [Op.operands] using hargs) he
  case call c =>
    cases hcc : c.callee with
    | builtin b =>
      obtain ⟨callee, cargs, ats⟩ := c
      simp only at hcc
      subst hcc
      exact builtin_op_sound (c := ⟨.builtin b, cargs, ats⟩) hc hH hid hop rfl (by simpa [Op.operands, Call.operands] using hargs) he hob
    | value f =>
      obtain ⟨callee, cargs, ats⟩ := c
      simp only at hcc
      subst hcc
      exact call_sound (c := ⟨.value f, cargs, ats⟩) hH hid hop rfl (by simpa [Op.operands, Call.operands] using hargs) he hob
    | invoke r m =>
      obtain ⟨callee, cargs, ats⟩ := c
      simp only at hcc
      subst hcc
      simp [eff] at he

/-- EVERY OPERATION THAT HAS AN EFFECT DOES JUST THAT. -/
theorem frz_sound {e0 e1 : Eff} {d : D} {v : Value} {w' : World} (hH : HRel g obj w) (hid : ¬ g.used nid) (he : frzE nid d e0 = some e1) (hob : e1.ob) (h : e0.ob → After g obj w nid e0 v w') : After g obj w nid e1 v w' := by
  unfold frzE at he
  split at he
  · rename_i id len k o hval hwr
    split at he
    · rename_i hk
      obtain ⟨hk1, hk2⟩ := hk
      cases he
      obtain ⟨hob0, hd⟩ := hob
      split at hd
      · rename_i R hR
        obtain ⟨hd1, hd2⟩ := hd
        obtain ⟨g', a1, a2, a3, a4, a5⟩ := h hob0
        rw [hwr, hk2] at a1
        rw [hval, hk1] at a5
        have hon : obj nid = none := by
          cases ho : obj nid with
          | none => rfl
          | some o' =>
            obtain ⟨L, hL, _⟩ := hH.own nid o' ho
            exact absurd (hH.live nid L hL).1 hid
        obtain ⟨L, hL, hok⟩ := a1.own nid o (by simp [updL, upd1])
        obtain ⟨f1, f2⟩ := freeze_rel a1 hL
        have hup : updL obj [] = upd1 (updL obj [(nid, some o)]) nid none := by
          funext x
          by_cases e : x = nid
          · subst e; simp [updL, upd1, hon]
          · simp [updL, upd1, e]
        refine ⟨frozen g' nid, by rw [hup]; exact f1, a2.trans f2, ⟨fun b hb => ⟨.inl (a3.fut b hb).1, (a3.fut b hb).2⟩, fun i hi => a3.used i hi, fun i hi => ?_⟩, a4, ?_⟩
        · simp only [frozen]
          split
          · exact .inr rfl
          · exact a3.loc i hi
        · simp only [RepA] at a5 ⊢
          rw [hd1]
          have hrl := rowsD_length hR
          rcases a5.2 L hL with ⟨hv, _, hl0, hvn⟩ | ⟨hv, hlc, hvs⟩
          · rw [hl0, hvn]; simpa using repD_nil
          · rw [hvs]
            have hlen : (R.take len).length = len := by simp; omega
            obtain ⟨_, _, _, hcapm, _⟩ := hok.cells hv
            simp only [RepD]
            refine ⟨some ⟨L.blk, 0 * L.m, none⟩, L.cap - 0, by rw [hlen], by rw [hlen]; omega, by omega, ?_⟩
            refine .inr ⟨L.blk, 0 * L.m, L.m, rfl, .inr ⟨L, hL, hv, rfl⟩, RepRows.of_get fun i r hi => ?_⟩
            rw [List.getElem?_take] at hi
            split at hi
            · obtain ⟨row, hrow, ha⟩ := rowsD_get hR _ r hi
              obtain ⟨us, hul, hur, huc⟩ := hok.row hv hrow
              refine ⟨us, hul, RepDs.mono (fun b hb => ⟨.inl hb, rfl⟩) r us (RepAs.allD ha hur), ?_⟩
              rw [Nat.zero_mul, Nat.zero_add]
              exact huc
            · cases hi
      · exact hd.elim
    · cases he
  · cases he

theorem eff_sound {orc : Option Res} (hc : Ctx P ty) (hH : HRel g obj w) (hid : ¬ g.used nid) (hargs : RepAs g w args (o.op.operands.toList.map a.eval)) (he : eff ty P orc o.op obj nid args = some e) (hob : e.ob) : Does P o a w (After g obj w nid e) := by
  unfold eff at he
  split at he
  · cases he
  · rename_i b
    simp only [Option.bind_eq_some_iff] at he
    obtain ⟨e0, h0, he⟩ := he
    unfold fixU at he
    split at he
    · rename_i p q hval
      cases he
      obtain ⟨hob0, hb⟩ := hob
      intro K Q hK
      refine eff0_sound hc hH hid hargs h0 hob0 K Q fun v w' ⟨g', a1, a2, a3, a4, a5⟩ => hK v w' ⟨g', a1, a2, a3, a4, ?_⟩
      rw [hval] at a5
      simp only [RepA, RepD] at a5 ⊢
      obtain ⟨c, hc1, hc2, hc3⟩ := a5
      rw [hc1]
      cases b <;> cases c <;> simp_all
    · cases he
  · rename_i d
    have fin : ∀ {e0 : Eff}, eff0 ty P none o.op obj nid args = some e0 → frzE nid d e0 = some e → Does P o a w (After g obj w nid e) := fun {e0} h0 he => by
      intro K Q hK
      have hob0 : e0.ob := by
        unfold frzE at he
        split at he
        · split at he
          · cases he; exact hob.1
          · cases he
        · cases he
      exact eff0_sound hc hH hid hargs h0 hob0 K Q fun v w' ha => hK v w' (frz_sound hH hid he hob fun _ => ha)
    split at he
    · rename_i heq
      simp only [Option.bind_eq_some_iff] at he
      obtain ⟨e0, h0, he⟩ := he
      exact fin h0 he
    · rename_i heq
      simp only [Option.bind_eq_some_iff] at he
      obtain ⟨e0, h0, he⟩ := he
      exact fin h0 he
    · exact eff0_sound hc hH hid hargs he hob
  · exact eff0_sound hc hH hid hargs he hob

end
end Go.Abs
