/-
  The abstract machine, part 7: the soundness of the other operations, and of all of them.
-/
import Derived.Test.YtmfkfgonedgjnaaAbs6
set_option linter.unusedVariables false
set_option linter.unusedSimpArgs false
namespace Go.Abs
open Go.RowKit
section
variable {P : Program} {ty : TypeId → Option TI} {o : Oper} {a : Act} {g : G} {obj : Nat → Option Ob} {w : World} {nid : Nat} {args : List AV} {e : Eff}

theorem un_sound {op : UnOp} {t : TypeId} {x : Operand} (hH : HRel g obj w) (ho : o.op = .unOp op t x) (hargs : RepAs g w args [a.eval x]) (he : effUn op args = some e) : Does P o a w (After g obj w nid e) := by
  unfold effUn at he
  split at he
  · have h := one_arg hargs
    simp only [RepA, RepD] at h
    cases op <;> simp only [Option.some.injEq, reduceCtorEq] at he
    subst he
    refine does_value (v := .bool _) (w' := w) ?_ (After.same hH (by simp only [RepA, RepD]; rfl))
    simp [execOp, ho, h, Op.unary]
  · have h := one_arg hargs
    simp only [RepA, RepD] at h
    cases op <;> simp only [Option.some.injEq, reduceCtorEq] at he
    subst he
    refine does_value (v := .int _ _) (w' := w) ?_ (After.same hH (by simp only [RepA, RepD]; rfl))
    simp [execOp, ho, h, Op.unary, Op.intArith]
  · cases he

theorem nilCheck_op_sound {x : Operand} (hH : HRel g obj w) (ho : o.op = .nilCheck x) (hargs : RepAs g w args [a.eval x]) (he : effNilCheck obj args = some e) : Does P o a w (After g obj w nid e) := by
  unfold effNilCheck at he
  split at he
  · cases he
    have h := one_arg hargs
    have h' := h
    simp only [RepA, RepD] at h
    obtain ⟨b, off, vs, hv, _⟩ := h
    exact does_value (v := a.eval x) (w' := w) (by simp [execOp, ho, hv]) (After.same hH h')
  · rename_i id i j
    simp only [Option.map_eq_some_iff] at he
    obtain ⟨ob, hob, rfl⟩ := he
    have h := one_arg hargs
    have h' := h
    obtain ⟨L, hL, _⟩ := hH.own id ob hob
    simp only [RepA] at h
    have hv := (h.2 L hL).2
    exact does_value (v := a.eval x) (w' := w) (by simp [execOp, ho, hv]) (After.same hH h')
  · cases he
    have h := one_arg hargs
    have h' := h
    simp only [RepA, RepD] at h
    obtain ⟨vs, hv, _⟩ := h
    exact does_value (v := a.eval x) (w' := w) (by simp [execOp, ho, hv]) (After.same hH h')
  · cases he
    have h := one_arg hargs
    have h' := h
    simp only [RepA] at h
    obtain ⟨vs, hv, _⟩ := h
    exact does_value (v := a.eval x) (w' := w) (by simp [execOp, ho, hv]) (After.same hH h')
  · cases he

theorem TOk.und {t : TypeId} {ti : TI} (h : TOk P t ti) : (P.underlying t).isSome = true := by
  have hk := h.kind
  cases hti : ti.kind <;> rw [hti] at hk <;> simp only at hk
  case struct l => obtain ⟨fs, hu, _⟩ := hk; simp [hu]
  case one => cases hu : P.underlying t <;> rw [hu] at hk <;> simp at hk ⊢
  all_goals simp [hk]

theorem convert_sound {src dst : TypeId} {x : Operand} (hc : Ctx P ty) (hH : HRel g obj w) (ho : o.op = .convert src dst x) (hargs : RepAs g w args [a.eval x]) (he : effConvert ty src dst args = some e) : Does P o a w (After g obj w nid e) := by
  unfold effConvert at he
  split at he
  · have h := one_arg hargs
    simp only [RepA, RepD] at h
    cases hs : ty src with
    | none => rw [hs] at he; cases he
    | some si =>
      cases hd : ty dst with
      | none => rw [hs, hd] at he; cases he
      | some di =>
        rw [hs, hd] at he
        simp only [Option.bind_some] at he
        split at he
        · rename_i k hk
          cases he
          have hu : P.underlying dst = some (.int k) := by have := (hc.ok dst di hd).kind; rw [hk] at this; exact this
          obtain ⟨sd, hsd⟩ := Option.isSome_iff_exists.1 (hc.ok src si hs).und
          refine does_value (v := .int k _) (w' := w) ?_ (After.same hH (by simp only [RepA, RepD]; rfl))
          simp only [execOp, ho, h, convert, Sem.run_bind, run_underlying hsd, run_underlying hu, Result.andThen_ok]
          simp [Conv.intToInt]
        · cases he
  · cases he

theorem load_op_sound {t : TypeId} {x : Operand} (hc : Ctx P ty) (hH : HRel g obj w) (ho : o.op = .load t x) (hargs : RepAs g w args [a.eval x]) (he : effLoad ty t obj args = some e) : Does P o a w (After g obj w nid e) := by
  unfold effLoad at he
  split at he
  · rename_i id i j
    have h := one_arg hargs
    cases ht : ty t with
    | none => rw [ht] at he; cases he
    | some ti =>
      cases hob : obj id with
      | none => rw [ht, hob] at he; cases he
      | some ob =>
        rw [ht, hob] at he
        simp only [Option.bind_some] at he
        cases hrow : ob.rows[i]? with
        | none => rw [hrow] at he; cases he
        | some row =>
          rw [hrow] at he
          simp only [Option.bind_some, Option.map_eq_some_iff] at he
          obtain ⟨y, hy, rfl⟩ := he
          obtain ⟨L, hL, hok⟩ := hH.own id ob hob
          simp only [RepA] at h
          obtain ⟨hv, hp⟩ := h.2 L hL
          obtain ⟨us, hul, hur, huc⟩ := hok.row hv hrow
          obtain ⟨v, hrun, hrep⟩ := load_sound (hc.ok t ti ht) (huc.drop j) (hur.drop j) hy
          refine does_value (v := v) (w' := w) ?_ (After.same hH hrep)
          simp only [execOp, ho, hp, Sem.run_bind, hrun, Result.andThen_ok, Sem.run_pure]
  · rename_i cs
    have h := one_arg hargs
    cases ht : ty t with
    | none => rw [ht] at he; cases he
    | some ti =>
      rw [ht] at he
      simp only [Option.bind_some, Option.map_eq_some_iff] at he
      obtain ⟨y, hy, rfl⟩ := he
      simp only [RepA, RepD] at h
      obtain ⟨b, off, us, hp, hb, hr, hcell⟩ := h
      obtain ⟨v, hrun, hrep⟩ := load_sound (hc.ok t ti ht) hcell (RepAs.of_ds hr) hy
      refine does_value (v := v) (w' := w) ?_ (After.same hH hrep)
      simp only [execOp, ho, hp, Sem.run_bind, hrun, Result.andThen_ok, Sem.run_pure]
  · cases he

theorem store_op_sound {t : TypeId} {x y : Operand} (hc : Ctx P ty) (hH : HRel g obj w) (ho : o.op = .store t x y) (hargs : RepAs g w args [a.eval x, a.eval y]) (he : effStore ty t obj args = some e) : Does P o a w (After g obj w nid e) := by
  unfold effStore at he
  split at he
  · rename_i id i j av
    obtain ⟨h1, h2⟩ := two_args hargs
    cases ht : ty t with
    | none => rw [ht] at he; cases he
    | some ti =>
      cases hob : obj id with
      | none => rw [ht, hob] at he; cases he
      | some ob =>
        rw [ht, hob] at he
        simp only [Option.bind_some] at he
        cases hrow : ob.rows[i]? with
        | none => rw [hrow] at he; cases he
        | some row =>
          rw [hrow] at he
          cases hl : cellsA av with
          | none => rw [hl] at he; cases he
          | some l =>
            rw [hl] at he
            simp only [Option.bind_some] at he
            split at he
            · rename_i hsz
              cases he
              obtain ⟨w', g', hrun, hH', hS, hL, hu⟩ := store_sound (hc.ok t ti ht) hH hob hrow h1 h2 hl hsz.1 hsz.2
              refine does_skip (w' := w') ?_ ⟨g', by simpa [updL] using hH', hS, hL, fun k hk => .inl (hu k hk), by simp [RepA]⟩
              simp only [execOp, ho, Sem.run_bind, hrun, Result.andThen_ok, Sem.run_pure]
            · cases he
  · cases he

theorem alloc_op_sound {t : TypeId} (hc : Ctx P ty) (hH : HRel g obj w) (hid : ¬ g.used nid) (ho : o.op = .alloc t) (he : effAlloc ty t nid args = some e) : Does P o a w (After g obj w nid e) := by
  unfold effAlloc at he
  split at he
  · cases ht : ty t with
    | none => rw [ht] at he; cases he
    | some ti =>
      rw [ht] at he
      simp only [Option.bind_some] at he
      split at he
      · cases he
      · rename_i hpos
        cases he
        obtain ⟨v, w', hrun, hA⟩ := alloc_sound (hc.ok t ti ht) (Nat.pos_of_ne_zero hpos) hH hid
        refine does_value (v := v) (w' := w') ?_ hA
        simp only [execOp, ho, Sem.run_bind, hrun, Result.andThen_ok, Sem.run_pure]
  · cases he

theorem box_op_sound {t : TypeId} {x : Operand} (hH : HRel g obj w) (hid : ¬ g.used nid) (ho : o.op = .box t x) (hargs : RepAs g w args [a.eval x]) (he : effBox t nid args = some e) : Does P o a w (After g obj w nid e) := by
  unfold effBox at he
  split at he
  · rename_i y
    have h := one_arg hargs
    cases hl : cellsA y with
    | none => rw [hl] at he; cases he
    | some l =>
      rw [hl] at he
      simp only [Option.bind_some] at he
      split at he
      · cases he
      · rename_i hpos
        cases he
        obtain ⟨hr, ho'⟩ := cellsA_rep h hl
        refine does_value (v := .pointer (some ⟨w.heap.size, 0, none⟩)) (w' := w.alloc (.cells (a.eval x).cells t)) ?_ (box_sound hH hid t l (a.eval x).cells hr ho' (Nat.pos_of_ne_zero hpos))
        simp only [execOp, ho, Instr.box, newVar, newRow, Sem.run_bind, run_newObj, Result.andThen_ok, Sem.run_pure]
        rfl
  · cases he

theorem zip_parts {ps : Array (Nat × Operand)} (hargs : RepAs g w args ((ps.toList.map (·.2)).map a.eval)) :
    (ps.toList.map fun x => (x.1, a.eval x.2)).map (·.1) = ((ps.toList.map (·.1)).zip args).map (·.1) ∧ RepAs g w (((ps.toList.map (·.1)).zip args).map (·.2)) ((ps.toList.map fun x => (x.1, a.eval x.2)).map (·.2)) := by
  have hl : args.length = ps.toList.length := by have := hargs.length; simpa using this.symm
  constructor
  · rw [List.map_fst_zip (by simpa using Nat.le_of_eq hl.symm)]
    simp [List.map_map, Function.comp_def]
  · rw [List.map_snd_zip (by simpa using Nat.le_of_eq hl)]
    simpa [List.map_map, Function.comp_def] using hargs

theorem mapParts (ps : Array (Nat × Operand)) : (ps.map fun x => (x.1, a.eval x.2)) = (ps.toList.map fun x => (x.1, a.eval x.2)).toArray := by
  apply Array.ext'
  simp

theorem buildSlice_op_sound {t : TypeId} {len : Nat} {ps : Array (Nat × Operand)} (hc : Ctx P ty) (hH : HRel g obj w) (hid : ¬ g.used nid) (ho : o.op = .buildSlice t len ps) (hargs : RepAs g w args ((ps.toList.map (·.2)).map a.eval))
    (he : effBuildSlice ty t len (ps.toList.map (·.1)) nid args = some e) : Does P o a w (After g obj w nid e) := by
  unfold effBuildSlice at he
  cases ht : ty t with
  | none => rw [ht] at he; cases he
  | some ti =>
    rw [ht] at he
    simp only [Option.bind_some] at he
    split at he
    · rename_i el hk
      cases hte : ty el with
      | none => rw [hte] at he; cases he
      | some te =>
        rw [hte] at he
        simp only [Option.bind_some] at he
        split at he
        · cases he
        · rename_i hn
          simp only [Option.map_eq_some_iff] at he
          obtain ⟨l', hl', rfl⟩ := he
          obtain ⟨h1, h2⟩ := zip_parts hargs
          obtain ⟨v, w', hrun, hA⟩ := buildSlice_sound (hc.ok t ti ht) hk (hc.ok el te hte) (by omega) hH hid h1 h2 (by omega) hl'
          refine does_value (v := v) (w' := w') ?_ hA
          simp only [execOp, ho, Sem.run_bind, Sem.run_pure]
          rw [show (ps.map fun x => match x with | (i, x) => (i, a.eval x)) = (ps.toList.map fun x => (x.1, a.eval x.2)).toArray from mapParts ps, hrun, Result.andThen_ok]
    · cases he

theorem sizeOf_field {t : TypeId} (h : P.cellsOf t ≠ 0) : (Go.sizeOf t).run P w = .ok (P.cellsOf t) w := by
  unfold Program.cellsOf at h ⊢
  cases hi : P.info? t with
  | none => rw [hi] at h; simp at h
  | some i => simp [Go.sizeOf, typeInfo, hi]

theorem places_run (P : Program) (w : World) : ∀ (fs : List Field), fs.all (fun f => (P.underlying f.type).isSome && decide (P.cellsOf f.type ≠ 0)) = true →
    (fs.mapM (fun f => do pure (f.offset, ← Go.sizeOf f.type) : Field → Sem (Nat × Nat))).run P w = .ok (fs.map fun f => (f.offset, P.cellsOf f.type)) w
  | [], _ => by simp
  | f :: fs, h => by
    simp only [List.all_cons, Bool.and_eq_true, decide_eq_true_eq] at h
    have ih := places_run P w fs h.2
    simp only [List.mapM_cons, Sem.run_bind, sizeOf_field h.1.2, Result.andThen_ok, Sem.run_pure, ih, List.map_cons]

theorem build_op_sound {t : TypeId} {ps : Array (Nat × Operand)} (hc : Ctx P ty) (hH : HRel g obj w) (ho : o.op = .build t ps) (hargs : RepAs g w args ((ps.toList.map (·.2)).map a.eval))
    (he : effBuild ty t (ps.toList.map (·.1)) args = some e) : Does P o a w (After g obj w nid e) := by
  unfold effBuild at he
  cases ht : ty t with
  | none => rw [ht] at he; cases he
  | some ti =>
    rw [ht] at he
    simp only [Option.bind_some] at he
    obtain ⟨z, hz, hr, hoz, _, _⟩ := (hc.ok t ti ht).zero g w
    obtain ⟨h1, h2⟩ := zip_parts hargs
    have hps : (ps.map fun x => match x with | (i, x) => (i, a.eval x)) = (ps.toList.map fun x => (x.1, a.eval x.2)).toArray := mapParts ps
    split at he
    · rename_i fs hk
      simp only [Option.map_eq_some_iff] at he
      obtain ⟨l, hl, rfl⟩ := he
      have hkind := (hc.ok t ti ht).kind
      rw [hk] at hkind
      obtain ⟨fds, hu, hfs, hall⟩ := hkind
      obtain ⟨cs', hf, hr', ho', _⟩ := fill_sound _ _ ti.zero l z.cells h1 h2 hr hoz hl
      have hplaces : (fds.mapM fun f => do pure (f.offset, ← Go.sizeOf f.type) : Sem (Array (Nat × Nat))).run P w = .ok ((fds.toList.map fun f => (f.offset, P.cellsOf f.type)).toArray) w := by
        rw [Array.mapM_eq_mapM_toList]
        simp only [Sem.run_map, places_run P w fds.toList hall, Result.andThen_ok]
      have hpl : (fun (i : Nat) => ((fds.toList.map fun f => (f.offset, P.cellsOf f.type)).toArray)[i]?) = (fun i => (fs[i]?).map fun (f : Nat × Nat × Bool) => (f.1, f.2.1)) := by
        funext i
        rw [← hfs]
        simp only [List.getElem?_toArray, List.getElem?_map, Option.map_map, Function.comp_def]
      refine does_value (v := .agg cs') (w' := w) ?_ (After.same hH (by have := RepA.mkAgg ho' hr'; simpa using this))
      simp only [execOp, ho, hps, Instr.build, Sem.run_bind, hz, Result.andThen_ok, run_underlying hu, hplaces, Sem.run_pure]
      rw [hpl, hf]
      simp
    · rename_i n el hk
      cases hte : ty el with
      | none => rw [hte] at he; cases he
      | some te =>
        rw [hte] at he
        simp only [Option.bind_some, Option.map_eq_some_iff] at he
        obtain ⟨l, hl, rfl⟩ := he
        have hu : P.underlying t = some (.array n el) := by have := (hc.ok t ti ht).kind; rw [hk] at this; exact this
        obtain ⟨cs', hf, hr', ho', _⟩ := fill_sound _ _ ti.zero l z.cells h1 h2 hr hoz hl
        refine does_value (v := .agg cs') (w' := w) ?_ (After.same hH (by have := RepA.mkAgg ho' hr'; simpa using this))
        simp only [execOp, ho, hps, Instr.build, Sem.run_bind, hz, Result.andThen_ok, run_underlying hu, (hc.ok el te hte).sizeOf, hf, Sem.run_pure]
    · cases he

theorem kind_slice {t el : TypeId} {ti : TI} (h : TOk P t ti) (hk : ti.kind = .slice el) : P.underlying t = some (.slice el) := by have := h.kind; rw [hk] at this; exact this
theorem kind_arr {t el : TypeId} {n : Nat} {ti : TI} (h : TOk P t ti) (hk : ti.kind = .arr n el) : P.underlying t = some (.array n el) := by have := h.kind; rw [hk] at this; exact this

theorem struct_field {t : TypeId} {ti : TI} {fs : List (Nat × Nat × Bool)} {f : Nat} {fi : Nat × Nat × Bool} (h : TOk P t ti) (hk : ti.kind = .struct fs) (hf : fs[f]? = some fi) :
    ∃ fds fd, P.underlying t = some (.struct fds) ∧ fds[f]? = some fd ∧ fd.offset = fi.1 ∧ P.cellsOf fd.type = fi.2.1 ∧ fi.2.1 ≠ 0 ∧ (P.underlying fd.type).any descAgg = fi.2.2 ∧ (P.underlying fd.type).isSome = true := by
  have hkind := h.kind
  rw [hk] at hkind
  obtain ⟨fds, hu, hfs, hall⟩ := hkind
  rw [← hfs] at hf
  simp only [List.getElem?_map, Option.map_eq_some_iff] at hf
  obtain ⟨fd, hfd, rfl⟩ := hf
  have := List.all_eq_true.1 hall fd (List.mem_of_getElem? hfd)
  simp only [Bool.and_eq_true, decide_eq_true_eq] at this
  exact ⟨fds, fd, hu, by simpa using hfd, rfl, rfl, this.2, rfl, this.1⟩

theorem run_isAgg_any {t : TypeId} (h : (P.underlying t).isSome = true) : (isAgg t).run P w = .ok ((P.underlying t).any descAgg) w := by
  obtain ⟨d, hd⟩ := Option.isSome_iff_exists.1 h
  unfold isAgg
  simp only [Sem.run_bind, run_underlying hd, Result.andThen_ok, hd, Option.any_some]
  cases d <;> simp [descAgg]

theorem fieldAddr_op_sound {t : TypeId} {x : Operand} {f : Nat} (hc : Ctx P ty) (hH : HRel g obj w) (ho : o.op = .fieldAddr t x f) (hargs : RepAs g w args [a.eval x]) (he : effFieldAddr ty t f obj args = some e) : Does P o a w (After g obj w nid e) := by
  have key : ∀ (ti : TI) (fs : List (Nat × Nat × Bool)) (fi : Nat × Nat × Bool) (b off : Nat), ty t = some ti → ti.kind = .struct fs → fs[f]? = some fi → a.eval x = .pointer (some ⟨b, off, none⟩) → (execOp a.eval o).run P w = .ok (.value (.pointer (some ⟨b, off + fi.1, none⟩))) w := by
    intro ti fs fi b off ht hk hf hx
    obtain ⟨fds, fd, hu, hfd, h1, h2, h3, _⟩ := struct_field (hc.ok t ti ht) hk hf
    simp only [execOp, ho, hx, Instr.fieldAt, Sem.run_bind, run_underlying hu, Result.andThen_ok, hfd, Instr.sureAddr, Sem.run_pure, fieldPlace, sizeOf_field (P := P) (w := w) (t := fd.type) (by omega), h2, h3, if_false, Addr.add_lit, h1]
  unfold effFieldAddr at he
  split at he
  · rename_i id i j
    have h := one_arg hargs
    cases ht : ty t with
    | none => rw [ht] at he; cases he
    | some ti =>
      rw [ht] at he
      simp only [Option.bind_some] at he
      split at he
      · rename_i fs hk
        cases hob : obj id with
        | none => rw [hob] at he; cases he
        | some ob =>
          rw [hob] at he
          simp only [Option.bind_some, Option.map_eq_some_iff] at he
          obtain ⟨fi, hfi, rfl⟩ := he
          simp only [RepA] at h
          obtain ⟨L, hL, hok⟩ := hH.own id ob hob
          obtain ⟨hv, hp⟩ := h.2 L hL
          refine does_value (key ti fs fi _ _ ht hk hfi hp) (After.same hH ?_)
          simp only [RepA]
          refine ⟨⟨h.1.1, rfl⟩, fun M hM => ?_⟩
          rw [hL] at hM; cases hM
          exact ⟨hv, by rw [Nat.add_assoc]⟩
      · cases he
  · rename_i cs
    have h := one_arg hargs
    cases ht : ty t with
    | none => rw [ht] at he; cases he
    | some ti =>
      rw [ht] at he
      simp only [Option.bind_some] at he
      split at he
      · rename_i fs hk
        simp only [Option.map_eq_some_iff] at he
        obtain ⟨fi, hfi, rfl⟩ := he
        simp only [RepA, RepD] at h
        obtain ⟨b, off, us, hp, hb, hr, hcell⟩ := h
        refine does_value (key ti fs fi _ _ ht hk hfi hp) (After.same hH ?_)
        simp only [RepA, RepD]
        exact ⟨b, off + fi.1, us.drop fi.1, rfl, hb, hr.drop fi.1, hcell.drop fi.1⟩
      · cases he
  · cases he

theorem part_list {t : TypeId} {ti : TI} (ht : (P.underlying t).isSome = true) {sz : Nat} (hsz : P.cellsOf t = sz) (h0 : sz ≠ 0) {b : Bool} (hb : (P.underlying t).any descAgg = b) {l : List AV} {us : List Value} {off : Nat} {x : AV} (hr : RepAs g w l us) (hone : OneCells us)
    (hx : (if b then (if off + sz ≤ l.length then some (mkAgg ((l.drop off).take sz)) else none) else l[off]?) = some x) : ∃ v, (part t us.toArray off).run P w = .ok v w ∧ RepA g w x v := by
  have hagg := run_isAgg_any (P := P) (w := w) ht
  rw [hb] at hagg
  cases b
  · simp only [Bool.false_eq_true, if_false] at hx
    obtain ⟨v, hv, hrep⟩ := hr.get _ _ hx
    refine ⟨v, ?_, hrep⟩
    have : us.toArray[off]? = some v := by simpa using hv
    simp only [part, Sem.run_bind, hagg, Result.andThen_ok, Bool.false_eq_true, if_false, this, Sem.run_pure]
  · simp only [if_true] at hx
    split at hx
    · cases hx
      have hl := hr.length
      refine ⟨.agg ((us.drop off).take sz).toArray, ?_, RepA.mkAgg (fun v hv => hone v (List.mem_of_mem_drop (List.mem_of_mem_take hv))) ((hr.drop off).take sz)⟩
      simp only [part, Sem.run_bind, hagg, Result.andThen_ok, if_true, sizeOf_field (P := P) (w := w) (t := t) (by omega), hsz, Sem.run_pure]
      congr 2
      apply Array.ext'
      simp [List.take_drop, Array.toList_extract, List.extract_eq_take_drop]
    · cases hx

theorem field_op_sound {t : TypeId} {x : Operand} {f : Nat} (hc : Ctx P ty) (hH : HRel g obj w) (ho : o.op = .field t x f) (hargs : RepAs g w args [a.eval x]) (he : effField ty t f args = some e) : Does P o a w (After g obj w nid e) := by
  unfold effField at he
  split at he
  · rename_i y
    have h := one_arg hargs
    cases ht : ty t with
    | none => rw [ht] at he; cases he
    | some ti =>
      rw [ht] at he
      simp only [Option.bind_some] at he
      split at he
      · rename_i fs hk
        cases hf : fs[f]? with
        | none => rw [hf] at he; cases he
        | some fi =>
          rw [hf] at he
          simp only [Option.bind_some] at he
          obtain ⟨fds, fd, hu, hfd, h1, h2, h3, h4, h5⟩ := struct_field (hc.ok t ti ht) hk hf
          cases hml : aggList y with
          | none => rw [hml] at he; cases he
          | some l =>
          rw [hml] at he
          simp only [Option.bind_some] at he
          have hl : ∃ us : List Value, a.eval x = .agg us.toArray ∧ OneCells us ∧ RepAs g w l us := by
            unfold aggList at hml
            split at hml
            · cases hml
              simp only [RepA, RepD] at h
              obtain ⟨us, hus, hone, hr⟩ := h
              exact ⟨us, hus, hone, RepAs.of_ds hr⟩
            · cases hml
              simp only [RepA] at h
              exact h
            · cases hml
          obtain ⟨us, hus, hone, hr⟩ := hl
          have hx : ∃ z, e = { val := z } ∧ (if fi.2.2 then (if fi.1 + fi.2.1 ≤ l.length then some (mkAgg ((l.drop fi.1).take fi.2.1)) else none) else l[fi.1]?) = some z := by
            by_cases hb : fi.2.2 = true
            · simp only [hb, if_true] at he ⊢
              split at he
              · rename_i hle
                cases he
                exact ⟨_, rfl, by rw [if_pos hle]⟩
              · cases he
            · simp only [hb, Bool.false_eq_true, if_false] at he ⊢
              simp only [Option.map_eq_some_iff] at he
              obtain ⟨z, hz, rfl⟩ := he
              exact ⟨z, rfl, hz⟩
          obtain ⟨z, rfl, hz⟩ := hx
          obtain ⟨v, hrun, hrep⟩ := part_list (ti := ti) h5 h2 h3 h4 hr hone hz
          refine does_value (v := v) (w' := w) ?_ (After.same hH hrep)
          simp only [execOp, ho, hus, Instr.field, Sem.run_bind, run_underlying hu, Result.andThen_ok, hfd, asAgg, Sem.run_pure, h1, hrun]
      · cases he
  · cases he

theorem TOk.cells {t : TypeId} {ti : TI} (h : TOk P t ti) : P.cellsOf t = ti.size := by
  obtain ⟨i, z, hi, hs, _⟩ := h.info
  simp [Program.cellsOf, hi, hs]

theorem TOk.anyAgg {t : TypeId} {ti : TI} (h : TOk P t ti) : (P.underlying t).any descAgg = ti.isAgg := by
  have hk := h.kind
  unfold TI.isAgg
  cases hti : ti.kind <;> rw [hti] at hk <;> simp only at hk
  case struct l => obtain ⟨fs, hu, _⟩ := hk; simp [hu, descAgg]
  case one => cases hu : P.underlying t <;> rw [hu] at hk <;> simp at hk ⊢; exact hk
  all_goals simp [hk, descAgg]

theorem index_op_sound {t : TypeId} {x y : Operand} (hc : Ctx P ty) (hH : HRel g obj w) (ho : o.op = .index t x y) (hargs : RepAs g w args [a.eval x, a.eval y]) (he : effIndex ty t args = some e) (hob : e.ob) : Does P o a w (After g obj w nid e) := by
  unfold effIndex at he
  split at he
  · rename_i cs k i
    obtain ⟨h1, h2⟩ := two_args hargs
    simp only [RepA, RepD] at h1 h2
    obtain ⟨us, hus, hone, hr⟩ := h1
    cases ht : ty t with
    | none => rw [ht] at he; cases he
    | some ti =>
      rw [ht] at he
      simp only [Option.bind_some] at he
      split at he
      · rename_i n el hk
        cases hte : ty el with
        | none => rw [hte] at he; cases he
        | some te =>
          rw [hte] at he
          simp only [Option.bind_some] at he
          have hu := kind_arr (hc.ok t ti ht) hk
          have hl := hr.length
          have hra : RepAs g w (cs.map AV.d) us := RepAs.of_ds hr
          have go : ∀ v, (part el us.toArray (i.toNat * te.size)).run P w = .ok v w → 0 ≤ i → i < (n : Int) → (execOp a.eval o).run P w = .ok (.value v) w := by
            intro v hrun h0 h1
            simp only [execOp, ho, hus, h2, Instr.index, Sem.run_bind, asIntOf, Sem.run_pure, Result.andThen_ok, run_underlying hu]
            rw [if_pos ⟨h0, h1⟩]
            simp only [Sem.run_bind, (hc.ok el te hte).sizeOf, Result.andThen_ok, hrun]
          split at he
          · rename_i hagg
            cases he
            obtain ⟨o1, o2, o3⟩ := hob
            have hsz : te.size ≠ 0 ∨ te.size = 0 := by omega
            have hrun : (part el us.toArray (i.toNat * te.size)).run P w = .ok (.agg ((us.drop (i.toNat * te.size)).take te.size).toArray) w := by
              simp only [part, Sem.run_bind, (hc.ok el te hte).agg, Result.andThen_ok, hagg, if_true, (hc.ok el te hte).sizeOf, Sem.run_pure]
              congr 2
              apply Array.ext'
              simp [List.take_drop, Array.toList_extract, List.extract_eq_take_drop]
            refine does_value (go _ hrun o1 o2) (After.same hH ?_)
            simp only [RepA, RepD]
            exact ⟨_, rfl, fun v hv => hone v (List.mem_of_mem_drop (List.mem_of_mem_take hv)), (hr.drop _).take _⟩
          · rename_i hagg
            simp only [Option.map_eq_some_iff] at he
            obtain ⟨z, hz, rfl⟩ := he
            obtain ⟨o1, o2⟩ := hob
            obtain ⟨v, hv, hrep⟩ := hr.get _ _ hz
            have hrun : (part el us.toArray (i.toNat * te.size)).run P w = .ok v w := by
              have : us.toArray[i.toNat * te.size]? = some v := by simpa using hv
              simp only [part, Sem.run_bind, (hc.ok el te hte).agg, Result.andThen_ok, hagg, Bool.false_eq_true, if_false, this, Sem.run_pure]
            exact does_value (go _ hrun o1 o2) (After.same hH (by simpa only [RepA] using hrep))
      · cases he
  · cases he

theorem extract_op_sound {x : Operand} {ix : Nat} (hH : HRel g obj w) (ho : o.op = .extract x ix) (hargs : RepAs g w args [a.eval x]) (he : effExtract ix args = some e) : Does P o a w (After g obj w nid e) := by
  unfold effExtract at he
  split at he
  · have h := one_arg hargs
    simp only [RepA, RepD] at h
    obtain ⟨vs, hvs, hr⟩ := h
    simp only [Option.map_eq_some_iff] at he
    obtain ⟨z, hz, rfl⟩ := he
    obtain ⟨v, hv, hrep⟩ := hr.get _ _ hz
    refine does_value (v := v) (w' := w) ?_ (After.same hH (by simpa only [RepA] using hrep))
    have : vs.toArray[ix]? = some v := by simpa using hv
    simp only [execOp, ho, hvs, Instr.extract, this, Sem.run_bind, Sem.run_pure, Result.andThen_ok]
  · have h := one_arg hargs
    simp only [RepA] at h
    obtain ⟨vs, hvs, hr⟩ := h
    simp only [Option.map_eq_some_iff] at he
    obtain ⟨z, hz, rfl⟩ := he
    obtain ⟨v, hv, hrep⟩ := hr.get _ _ hz
    refine does_value (v := v) (w' := w) ?_ (After.same hH hrep)
    have : vs.toArray[ix]? = some v := by simpa using hv
    simp only [execOp, ho, hvs, Instr.extract, this, Sem.run_bind, Sem.run_pure, Result.andThen_ok]
  · cases he

theorem makeFunc_op_sound {fn : Fn} {first caps : Array Operand} (hH : HRel g obj w) (ho : o.op = .makeFunc fn first caps) (hargs : RepAs g w args ((first ++ caps).toList.map a.eval)) (he : effMakeFunc fn first.size args = some e) : Does P o a w (After g obj w nid e) := by
  unfold effMakeFunc at he
  split at he
  · rename_i h0
    cases he
    have hf : first = #[] := Array.eq_empty_of_size_eq_zero h0
    subst hf
    refine does_value (v := .func fn #[] (caps.map a.eval)) (w' := w) ?_ (After.same hH ?_)
    · simp [execOp, ho, Instr.makeFunc]
    · simp only [RepA]
      refine ⟨caps.toList.map a.eval, by congr 1; apply Array.ext'; simp, by simpa using hargs⟩
  · cases he

theorem makeSlice_op_sound {t : TypeId} {x y : Operand} (hc : Ctx P ty) (hH : HRel g obj w) (hid : ¬ g.used nid) (ho : o.op = .makeSlice t x y) (hargs : RepAs g w args [a.eval x, a.eval y]) (he : effMakeSlice ty t nid args = some e) (hob : e.ob) : Does P o a w (After g obj w nid e) := by
  unfold effMakeSlice at he
  split at he
  · rename_i k l k' c
    obtain ⟨h1, h2⟩ := two_args hargs
    simp only [RepA, RepD] at h1 h2
    cases ht : ty t with
    | none => rw [ht] at he; cases he
    | some ti =>
      rw [ht] at he
      simp only [Option.bind_some] at he
      split at he
      · rename_i el hk
        cases hte : ty el with
        | none => rw [hte] at he; cases he
        | some te =>
          rw [hte] at he
          simp only [Option.bind_some] at he
          split at he
          · cases he
          · rename_i hpos
            cases he
            obtain ⟨o2, olc, o3, o4⟩ := hob
            have hu := kind_slice (hc.ok t ti ht) hk
            obtain ⟨i, z, hi, hsz, hby, hz, hzc, hzs, hzo⟩ := (hc.ok el te hte).info
            obtain ⟨z', hz', hr, hone, hzl, hzs'⟩ := (hc.ok el te hte).zero g w
            have hzz : z' = z := by
              have : (zeroValue el).run P w = .ok z w := by simp [zeroValue, typeInfo, hi, hz]
              rw [hz'] at this
              cases this; rfl
            subst hzz
            have hrun := run_make (P := P) w t el i z' hu hi hz k k' l c o2 olc (by rw [hby]; exact o3) o4
            obtain ⟨hmr, hmo⟩ := made_rep hr hone c.toNat (by omega)
            obtain ⟨g', b1, b2, b3, b4, b5, b6⟩ := new_sound hH hid ⟨el, te.size, List.replicate l.toNat te.zero⟩ (madeCells z'.cells (c.toNat * i.size)) c.toNat (Nat.pos_of_ne_zero hpos) (by rw [size_madeCells, hsz]) (by simp; omega) (by simp only [maxLen]; omega)
              (fun j row hj => by
                rw [List.getElem?_replicate] at hj
                split at hj
                · rename_i hlt
                  cases hj
                  refine ⟨hzl, fun q av hq => ?_⟩
                  have hqm : q < te.zero.length := (List.getElem?_eq_some_iff.1 hq).1
                  have hidx : j * te.size + q < c.toNat * te.zero.length := by
                    have := Nat.mul_le_mul_right te.size (show j + 1 ≤ c.toNat by omega)
                    rw [Nat.succ_mul] at this
                    rw [hzl] at hqm ⊢
                    omega
                  have hrg : (rep c.toNat te.zero)[j * te.size + q]? = some av := by
                    rw [rep_get _ _ _ hidx, hzl]
                    rw [show (j * te.size + q) % te.size = q by rw [Nat.mul_comm, Nat.mul_add_mod]; exact Nat.mod_eq_of_lt (by rw [← hzl]; exact hqm)]
                    exact hq
                  obtain ⟨u, hu', hrep⟩ := hmr.get _ _ hrg
                  rw [hzl, ← hsz] at hu' hmo
                  exact ⟨u, by rw [Array.getElem?_toList] at hu'; show (madeCells z'.cells (c.toNat * i.size))[j * te.size + q]? = some u; rw [← hsz]; exact hu', hmo u (List.mem_of_getElem? hu'), hrep⟩
                · cases hj) w (.inl rfl)
            refine does_value (v := .slice (some ⟨w.heap.size, 0, none⟩) l.toNat c.toNat) (w' := w.alloc (.cells (madeCells z'.cells (c.toNat * i.size)) el)) ?_ ⟨g', b3, b4, b5, b6, rep_hs b2 b1 rfl (by show l.toNat ≤ c.toNat; omega)⟩
            simp only [execOp, ho, h1, h2, Sem.run_bind, hrun, Result.andThen_ok, Sem.run_pure]
      · cases he
  · cases he

end
end Go.Abs
