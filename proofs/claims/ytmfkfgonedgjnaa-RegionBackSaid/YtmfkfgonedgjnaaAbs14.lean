/-
  The abstract machine, part 14: what a row's arguments read as; a law's row out of its contract.
-/
import Derived.Test.YtmfkfgonedgjnaaAbs13
set_option linter.unusedVariables false
set_option linter.unusedSimpArgs false
namespace Go.Abs
open Go.RowKit Go.ChangeShapes Go.WideShapes Go.ChangeAt

/-- Cells that read as type t: the shape of their data. -/
def hasT (P : Program) : Nat → TypeId → List D → Prop
  | 0, _, _ => False
  | f + 1, t, ds => match P.underlying t with
    | some .bool => ∃ b, ds = [.bool b]
    | some (.int k) => ∃ n, ds = [.int k n] ∧ (Lit.int k n).wf = true
    | some .string => ∃ s : ByteArray, ds = [.str s] ∧ s.size ≤ maxLen
    | some (.slice e) => ∃ rows, ds = [.sl rows] ∧ rows.length ≤ maxLen ∧ ∀ r ∈ rows, hasT P f e r
    | some (.struct fs) => ds.length = P.cellsOf t ∧ ∀ fd ∈ fs.toList, hasT P f fd.type ((ds.drop fd.offset).take (P.cellsOf fd.type))
    | _ => False

def tileB (P : Program) : List Field → Nat → Nat → Bool
  | [], o, total => o == total
  | f :: r, o, total => f.offset == o && tileB P r (o + P.cellsOf f.type) total

/-- Types without pointers, maps, functions: down to the bottom. -/
def plainB (P : Program) : Nat → TypeId → Bool
  | 0, _ => false
  | f + 1, t => match P.underlying t with
    | some .bool | some (.int _) | some .string => true
    | some (.slice e) => decide (0 < P.cellsOf e) && plainB P f e
    | some (.struct fs) => tileB P fs.toList 0 (P.cellsOf t) && fs.toList.all fun fd => plainB P f fd.type
    | _ => false

section
variable {H : Type} {enc : TypeId × Value → H} {P : Program} {w : World}

theorem struct_cells {fuel : Nat} {spare : Nat → Bool} {held : Bool} (ro : Nat → Prop) (f : Nat) (total : Nat) (cs : List Value) (hcs : cs.length = total)
    (ih : ∀ (t : TypeId) (cs : List Value) (x : DataW H × List MemPlace), plainB P f t = true → DataW.trod enc P w 0 spare held fuel t cs = some x → ∃ ds, RepDs ro w ds cs ∧ OneCells cs ∧ hasT P f t ds) :
    ∀ (fs : List Field) (o : Nat), tileB P fs o total = true → (∀ fd ∈ fs, plainB P f fd.type = true ∧ ∃ x, DataW.trod enc P w 0 spare held fuel fd.type ((cs.drop fd.offset).take (P.cellsOf fd.type)) = some x) →
      ∃ ds, RepDs ro w ds (cs.drop o) ∧ OneCells (cs.drop o) ∧ ds.length = total - o ∧ ∀ fd ∈ fs, o ≤ fd.offset ∧ hasT P f fd.type ((ds.drop (fd.offset - o)).take (P.cellsOf fd.type))
  | [], o, ht, _ => by
    simp only [tileB, beq_iff_eq] at ht
    subst ht
    refine ⟨[], by rw [List.drop_of_length_le (by omega)]; simp [RepDs], (by rw [List.drop_of_length_le (by omega)]; intro v hv; cases hv), by simp, fun _ h => (by cases h)⟩
  | fd :: fs, o, ht, h => by
    simp only [tileB, Bool.and_eq_true, beq_iff_eq] at ht
    obtain ⟨ho, ht⟩ := ht
    obtain ⟨hp, x, hx⟩ := h fd List.mem_cons_self
    obtain ⟨ds1, hr1, ho1, ht1⟩ := ih fd.type _ x hp hx
    obtain ⟨ds2, hr2, ho2, hl2, ht2⟩ := struct_cells ro f total cs hcs ih fs (o + P.cellsOf fd.type) ht fun fd' hfd' => h fd' (List.mem_cons_of_mem _ hfd')
    have hle : ∀ (fs : List Field) (o : Nat), tileB P fs o total = true → o ≤ total := by
      intro fs
      induction fs with
      | nil => intro o h; simp [tileB] at h; omega
      | cons f fs ih => intro o h; simp only [tileB, Bool.and_eq_true] at h; have := ih _ h.2; omega
    have hle2 := hle fs _ ht
    have hsplit : cs.drop o = (cs.drop fd.offset).take (P.cellsOf fd.type) ++ cs.drop (o + P.cellsOf fd.type) := by
      rw [ho]
      conv => lhs; rw [← List.take_append_drop (P.cellsOf fd.type) (cs.drop o)]
      rw [List.drop_drop]
    have hl1 : ds1.length = P.cellsOf fd.type := by
      have := hr1.length
      rw [← this]
      simp; omega
    refine ⟨ds1 ++ ds2, by rw [hsplit]; exact hr1.append hr2, by rw [hsplit]; intro v hv; exact (List.mem_append.1 hv).elim (ho1 v) (ho2 v), by simp [hl1, hl2]; omega, fun fd' hfd' => ?_⟩
    rcases List.mem_cons.1 hfd' with rfl | hmem
    · refine ⟨by omega, ?_⟩
      rw [ho, Nat.sub_self, List.drop_zero, List.take_left' hl1]
      exact ht1
    · obtain ⟨a1, a2⟩ := ht2 fd' hmem
      refine ⟨by omega, ?_⟩
      rw [show fd'.offset - o = ds1.length + (fd'.offset - (o + P.cellsOf fd.type)) by omega, List.drop_append, List.drop_of_length_le (by omega), List.nil_append, Nat.add_sub_cancel_left]
      exact a2

theorem trod_rep (spare : Nat → Bool) (held : Bool) : ∀ (fuel f : Nat) (t : TypeId) (cs : List Value) (x : DataW H × List MemPlace), plainB P f t = true → DataW.trod enc P w 0 spare held fuel t cs = some x → ∃ ds, RepDs (fun b => b < w.heap.size) w ds cs ∧ OneCells cs ∧ hasT P f t ds
  | 0, f, t, cs, x, _, h => by simp [DataW.trod] at h
  | fuel + 1, 0, t, cs, x, hp, _ => by simp [plainB] at hp
  | fuel + 1, f + 1, t, cs, x, hp, h => by
    simp only [plainB] at hp
    split at hp
    · rename_i hu
      obtain ⟨b, rfl, _⟩ := DataW.trod_bool hu h
      exact ⟨[.bool b], by simp [RepDs, RepD], fun v hv => by simp at hv; subst hv; rfl, by simp only [hasT, hu]; exact ⟨b, rfl⟩⟩
    · rename_i k hu
      obtain ⟨n, rfl, _, hwf⟩ := DataW.trod_int hu h
      exact ⟨[.int k n], by simp [RepDs, RepD], fun v hv => by simp at hv; subst hv; rfl, by simp only [hasT, hu]; exact ⟨n, rfl, hwf⟩⟩
    · rename_i hu
      obtain ⟨s, rfl, _, hs⟩ := DataW.trod_string hu h
      exact ⟨[.str s], by simp [RepDs, RepD], fun v hv => by simp at hv; subst hv; rfl, by simp only [hasT, hu]; exact ⟨s, rfl, hs⟩⟩
    · rename_i e hu
      simp only [Bool.and_eq_true, decide_eq_true_eq] at hp
      rcases DataW.trod_slice hu h with ⟨rfl, _⟩ | ⟨a, len, cap, elems, rest, n, hn, rfl, _, _, hlc, hcm, hel, heach, _, _⟩
      · refine ⟨[.sl []], ?_, fun v hv => by simp at hv; subst hv; rfl, by simp only [hasT, hu]; exact ⟨[], rfl, by simp, by simp⟩⟩
        simp only [RepDs]
        exact ⟨_, [], rfl, repD_nil, rfl⟩
      · cases hn
        have rowsEx : ∀ i, i < len → ∃ ds us, w.cells? 0 (a.add (i * P.cellsOf e)) (P.cellsOf e) = some us ∧ RepDs (fun b => b < w.heap.size) w ds us ∧ OneCells us ∧ hasT P f e ds := by
          intro i hi
          have h1 := heach i hi
          have h2 : ∃ y, elems[i]? = some y := ⟨elems[i]'(by omega), List.getElem?_eq_getElem _⟩
          obtain ⟨y, hy⟩ := h2
          rw [hy] at h1
          cases hc : w.cells? 0 (a.add (i * P.cellsOf e)) (P.cellsOf e) with
          | none => rw [hc] at h1; cases h1
          | some us =>
            rw [hc] at h1
            obtain ⟨ds, k1, k2, k3⟩ := trod_rep spare held fuel f e us y hp.2 h1
            exact ⟨ds, us, rfl, k1, k2, k3⟩
        have pick : ∃ g : Nat → List D, ∀ i, i < len → ∃ us, w.cells? 0 (a.add (i * P.cellsOf e)) (P.cellsOf e) = some us ∧ RepDs (fun b => b < w.heap.size) w (g i) us ∧ OneCells us ∧ hasT P f e (g i) := by
          refine ⟨fun i => if hi : i < len then Classical.choose (rowsEx i hi) else [], fun i hi => ?_⟩
          simp only [hi, dif_pos]
          exact Classical.choose_spec (rowsEx i hi)
        obtain ⟨g, hg⟩ := pick
        have hlen : ((List.range len).map g).length = len := by simp
        have hspot : 0 < len → a.spot = none ∧ a.block < w.heap.size := by
          intro hpos
          obtain ⟨us, hc, _⟩ := hg 0 hpos
          obtain ⟨_, hul, hcell⟩ := World.cells?_some hc
          have h0 := hcell 0 hp.1
          have hu0 : ∃ v, us[0]? = some v := ⟨us[0]'(by omega), List.getElem?_eq_getElem _⟩
          obtain ⟨v, hv⟩ := hu0
          rw [hv] at h0
          simp only [Nat.zero_mul, Addr.add_zero'] at h0
          refine ⟨?_, World.block_lt_of_cell? w _ h0⟩
          unfold World.cell? at h0
          split at h0
          · cases hs : a.spot with
            | none => rfl
            | some q => rw [hs] at h0; simp at h0
          · cases h0
        refine ⟨[.sl ((List.range len).map g)], ?_, fun v hv => by simp at hv; subst hv; rfl, ?_⟩
        · simp only [RepDs, RepD]
          refine ⟨_, [], rfl, ⟨some a, cap, by rw [hlen], by rw [hlen]; exact hlc, hcm, ?_⟩, rfl⟩
          by_cases hpos : 0 < len
          · right
            obtain ⟨hs, hb⟩ := hspot hpos
            obtain ⟨blk, off, spot⟩ := a
            simp only at hs hb
            subst hs
            refine ⟨blk, off, P.cellsOf e, rfl, hb, RepRows.of_get fun i r hi => ?_⟩
            have hil : i < len := by
              have h1 := (List.getElem?_eq_some_iff.1 hi).1
              rw [hlen] at h1
              exact h1
            have hr : g i = r := by
              rw [List.getElem?_map, List.getElem?_range hil] at hi
              exact Option.some.inj hi
            subst hr
            obtain ⟨us, hc, k1, k2, k3⟩ := hg i hil
            obtain ⟨_, hul, hcell⟩ := World.cells?_some hc
            refine ⟨us, hul, k1, fun j v hj => ⟨?_, k2 v (List.mem_of_getElem? hj)⟩⟩
            have hjl : j < P.cellsOf e := by rw [← hul]; exact (List.getElem?_eq_some_iff.1 hj).1
            have := hcell j hjl
            rw [hj, Addr.add_lit, Addr.add_lit] at this
            exact this
          · left
            have : len = 0 := by omega
            subst this; rfl
        · simp only [hasT, hu]
          refine ⟨_, rfl, by rw [hlen]; omega, fun r hr => ?_⟩
          obtain ⟨i, hi, rfl⟩ := List.mem_map.1 hr
          obtain ⟨us, _, _, _, k3⟩ := hg i (List.mem_range.1 hi)
          exact k3
    · rename_i fs hu
      simp only [Bool.and_eq_true] at hp
      obtain ⟨xs, n, hn, _, hl, hlen, hf⟩ := DataW.trod_struct hu h
      cases hn
      obtain ⟨ds, k1, k2, k3, k4⟩ := struct_cells (fun b => b < w.heap.size) f (P.cellsOf t) cs hl (fun t cs x h1 h2 => trod_rep spare held fuel f t cs x h1 h2) fs.toList 0 hp.1 fun fd hfd => by
        refine ⟨List.all_eq_true.1 hp.2 fd hfd, ?_⟩
        obtain ⟨i, hi⟩ := List.mem_iff_getElem?.1 hfd
        have hif : fs[i]? = some fd := by simpa using hi
        have := hf i fd hif
        rw [this]
        have hil : i < xs.length := by rw [hlen]; exact (Array.getElem?_eq_some_iff.1 hif).1
        exact ⟨_, List.getElem?_eq_getElem hil⟩
      refine ⟨ds, by simpa using k1, by simpa using k2, ?_⟩
      simp only [hasT, hu]
      exact ⟨by simpa using k3, fun fd hfd => by simpa using (k4 fd hfd).2⟩
    · cases hp

/-- A parameter's datum. -/
def hasV (P : Program) (t : TypeId) (x : D) : Prop :=
  match P.underlying t with
  | some (.struct _) | some (.array _ _) => ∃ cs, x = .agg cs ∧ hasT P 30 t cs
  | _ => hasT P 30 t [x]

theorem trod_repV {t : TypeId} {v : Value} {d : DataW H} {ps : List MemPlace} {base : Nat} (hp : plainB P 30 t = true) (hok : Value.okWide P w .any base t v) (h : DataW.Trod enc P w 0 (fun _ => true) true t v d ps) :
    ∃ x, RepD (fun b => b < w.heap.size) w x v ∧ hasV P t x := by
  obtain ⟨fuel, h⟩ := h
  obtain ⟨ds, h1, h2, h3⟩ := trod_rep _ _ fuel 30 t _ _ hp h
  unfold Value.okWide at hok
  unfold hasV
  have one : v.oneCell' = true → ∃ x, RepD (fun b => b < w.heap.size) w x v ∧ hasT P 30 t [x] := by
    intro hv
    have hc : v.cells.toList = [v] := by cases v <;> simp_all [Value.cells, Value.oneCell']
    rw [hc] at h1
    match ds, h1, h1.length with
    | [x], h1, _ =>
      simp only [RepDs] at h1
      obtain ⟨u, us, heq, hr, _⟩ := h1
      cases heq
      exact ⟨x, hr, h3⟩
  unfold plainB at hp
  cases hu : P.underlying t with
  | none => rw [hu] at hp; cases hp
  | some ty =>
    rw [hu] at hp hok
    cases ty with
    | struct fs =>
      obtain ⟨cs, rfl, _⟩ := hok
      refine ⟨.agg ds, ?_, ds, rfl, h3⟩
      simp only [RepD]
      exact ⟨cs.toList, by simp, by simpa [Value.cells] using h2, by simpa [Value.cells] using h1⟩
    | bool =>
      refine one ?_
      simp only [Cell.okWide, hu] at hok
      cases v <;> first | rfl | (simp [Cell.ok, hu] at hok)
    | int k =>
      refine one ?_
      simp only [Cell.okWide, hu] at hok
      cases v <;> first | rfl | (simp [Cell.ok, hu] at hok)
    | string =>
      refine one ?_
      simp only [Cell.okWide, hu] at hok
      cases v <;> first | rfl | (simp [Cell.ok, hu] at hok)
    | slice e =>
      refine one ?_
      simp only [Cell.okWide, hu] at hok
      cases v <;> first | rfl | (simp [Cell.ok, hu] at hok)
    | _ => cases hp

def hasVs (P : Program) : List TypeId → List D → Prop
  | [], xs => xs = []
  | t :: ts, xs => ∃ x r, xs = x :: r ∧ hasV P t x ∧ hasVs P ts r

theorem trodAll_rep {base : Nat} : ∀ {ts : List TypeId} {vs : List Value} {ds : List (DataW H)} {ps : List MemPlace}, ts.all (plainB P 30) = true → (∀ (j : Nat) t v, ts[j]? = some t → vs[j]? = some v → Value.okWide P w .any base t v) →
    DataW.TrodAll enc P w 0 (fun _ => true) true ts vs ds ps → ∃ xs, RepDs (fun b => b < w.heap.size) w xs vs ∧ hasVs P ts xs
  | [], vs, ds, ps, _, _, h => by
    obtain ⟨rfl, rfl, rfl⟩ := trodAll_nil h
    exact ⟨[], by simp [RepDs], by simp [hasVs]⟩
  | t :: ts, vs, ds, ps, hp, hok, h => by
    obtain ⟨v, vs1, d, ds1, a, b, rfl, rfl, rfl, h1, h2⟩ := trodAll_cons h
    simp only [List.all_cons, Bool.and_eq_true] at hp
    obtain ⟨x, k1, k2⟩ := trod_repV hp.1 (hok 0 t v rfl rfl) h1
    obtain ⟨xs, k3, k4⟩ := trodAll_rep hp.2 (fun j t v hj hv => hok (j + 1) t v (by simpa using hj) (by simpa using hv)) h2
    refine ⟨x :: xs, by simp only [RepDs]; exact ⟨v, vs1, rfl, k1, k3⟩, by simp only [hasVs]; exact ⟨x, xs, rfl, k2, k4⟩⟩

theorem trodAll_below (hl : laidOutB P = true) {W' : World} (hb : Below w.heap.size w W') : ∀ {ts : List TypeId} {vs : List Value} {ds : List (DataW H)} {ps : List MemPlace}, (∀ t ∈ ts, P.readableRec t = true ∧ t < P.types.size) → (∀ p ∈ ps, p.block < w.heap.size) →
    DataW.TrodAll enc P w 0 (fun _ => true) true ts vs ds ps → ∀ sp : Nat → Bool, (∀ p ∈ ps, sp p.block = true) → DataW.TrodAll enc P W' 0 sp true ts vs ds ps
  | [], vs, ds, ps, _, _, h, _, _ => by
    obtain ⟨rfl, rfl, rfl⟩ := trodAll_nil h
    exact rfl
  | t :: ts, vs, ds, ps, hr, hlt, h, sp, hsp => by
    obtain ⟨v, vs1, d, ds1, a, b, rfl, rfl, rfl, h1, h2⟩ := trodAll_cons h
    refine ⟨a, b, ?_, trodAll_below hl hb (fun t ht => hr t (List.mem_cons_of_mem _ ht)) (fun p hp => hlt p (List.mem_append_right _ hp)) h2 sp (fun p hp => hsp p (List.mem_append_right _ hp)), rfl⟩
    obtain ⟨k1, k2⟩ := hr t List.mem_cons_self
    exact WideElems.Trod_stays hl k1 k2 h1 (fun x hx => hb.kit.same (hlt x (List.mem_append_left _ hx))) (fun x hx => hsp x (List.mem_append_left _ hx))

/-- A LAW's CONTRACT GIVES ITS ROW's: it answers true, and each argument reads as it did. -/
theorem law_contract {f : FuncId} {fn : Func} {s : ChangeSpec} {fresh handsOn : Bool} {bt : TypeId} (hvars : s.vars = []) (hspec : ∀ ds : List (DataW H), ds.length = fn.params.size → s.fn H ds = { results := [.lit (.bool true)], args := ds })
    (hl : laidOutB P = true) (hread : ∀ t ∈ fn.params.toList, P.readableRec t = true ∧ t < P.types.size) (hplain : fn.params.toList.all (plainB P 30) = true) (hres : fn.resultTypes = #[bt]) (hbt : P.underlying bt = some .bool)
    (hlaw : ∀ xs, hasVs P fn.params.toList xs → PC P f xs (.p (.bool true)))
    (W : World) (base : Nat) (args : Array Value) (ds gs : List (DataW H)) (before : List MemPlace)
    (hval : ∀ (j : Nat) t v, fn.params[j]? = some t → args[j]? = some v → Value.okWide P W .any base t v)
    (hW : DataW.Whole enc P fn.params.toList s.vars false W args.toList ds gs before) :
    Calls P f args W fun e W' => ∃ v, e = .returned v ∧ s.post enc P fn false fresh handsOn false W args v W' := by
  have hW' := hW
  obtain ⟨p, q, hA, hV, rfl, hfz, _⟩ := hW
  rw [hvars] at hV
  obtain ⟨rfl, rfl⟩ := trodVars_none hV
  simp only [List.append_nil] at hW'
  obtain ⟨xs, hx, hv⟩ := trodAll_rep hplain (fun j t v hj hv => hval j t v (by simpa using hj) (by simpa using hv)) hA
  have hlen : ds.length = fn.params.size := by
    have key : ∀ {ts : List TypeId} {vs : List Value} {ds : List (DataW H)} {ps : List MemPlace}, DataW.TrodAll enc P W 0 (fun _ => true) true ts vs ds ps → ds.length = ts.length := by
      intro ts
      induction ts with
      | nil => intro vs ds ps h; obtain ⟨_, rfl, _⟩ := trodAll_nil h; rfl
      | cons t ts ih => intro vs ds ps h; obtain ⟨v, vs1, d, ds1, a, b, _, rfl, _, _, h2⟩ := trodAll_cons h; simp [ih h2]
    simpa using key hA
  obtain ⟨_, hc⟩ := hlaw xs hv
  have hcall := hc (fun b => b < W.heap.size) W args.toList (fun _ h => h) hx
  simp only [Array.toArray_toList] at hcall
  refine hcall.mono fun e W' ⟨v, he, hb, hr⟩ => ⟨v, he, ?_⟩
  simp only [RepRes, RepD] at hr
  subst hr
  have hlt : ∀ x ∈ p, x.block < W.heap.size := fun x hx => hW'.lt x hx
  refine ⟨ds, [], p, [], p, [], hW', ?_, ?_, ?_, World.keptBut_mono (fun x hx => ⟨hx, .inr (.inl hx)⟩) (hb.kit.frame _), fun h => by cases h⟩
  · rw [List.append_nil, hspec ds hlen, hres]
    exact trodAll_mk1 (shut_bool hbt true)
  · rw [List.append_nil, hspec ds hlen]
    exact trodAll_below hl hb hread hlt hA _ fun x hx => by simpa using hlt x hx
  · rw [List.append_nil, hspec ds hlen, hvars]
    exact rfl

end
end Go.Abs
