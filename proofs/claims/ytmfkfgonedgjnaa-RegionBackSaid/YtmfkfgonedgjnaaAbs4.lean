/-
  The abstract machine, part 4: append and make.
-/
import Derived.Test.YtmfkfgonedgjnaaAbs3
set_option linter.unusedVariables false
set_option linter.unusedSimpArgs false
namespace Go.Abs

/-- Rows lie flat in a list of values. -/
def RowsRep (g : G) (w : World) (m : Nat) (rows : List (List AV)) (flat : List Value) : Prop :=
  ∀ i row, rows[i]? = some row → row.length = m ∧ ∀ (j : Nat) (av : AV), row[j]? = some av → ∃ v : Value, flat[i * m + j]? = some v ∧ v.oneCell' = true ∧ RepA g w av v

/-- A slice's value to copy from: its rows. -/
def SrcOk (g : G) (w : World) (m : Nat) (rows : List (List AV)) (v : Value) : Prop :=
  (rows = [] ∧ ∃ a c, v = .slice a 0 c) ∨
  ∃ b o c flat, v = .slice (some ⟨b, o, none⟩) rows.length c ∧ flat.length = rows.length * m ∧ CellsAt w b o flat ∧ RowsRep g w m rows flat

theorem rows_flat {ro : Nat → Prop} {g : G} {w : World} {b m : Nat} (hro : g.ro = ro) : ∀ (o : Nat) (rows : List (List D)), RepRows ro w b m o rows → (∀ r ∈ rows, r.length = m) →
    ∃ flat : List Value, flat.length = rows.length * m ∧ CellsAt w b o flat ∧ RowsRep g w m (dr rows) flat
  | o, [], _, _ => ⟨[], by simp, fun j v hj => by simp at hj, fun i row hi => by simp [dr] at hi⟩
  | o, r :: rs, h, hm => by
    simp only [RepRows] at h
    obtain ⟨⟨vs, hl, hr, hc⟩, hrest⟩ := h
    obtain ⟨flat, h1, h2, h3⟩ := rows_flat hro (o + m) rs hrest (fun r' hr' => hm r' (List.mem_cons_of_mem _ hr'))
    refine ⟨vs ++ flat, by simp [hl, h1, Nat.add_mul]; omega, fun j v hj => ?_, fun i row hi => ?_⟩
    · rw [List.getElem?_append] at hj
      split at hj
      · exact hc j v hj
      · have := h2 _ v hj
        rwa [show o + m + (j - vs.length) = o + j by omega] at this
    · cases i with
      | zero =>
        simp [dr] at hi; subst hi
        have hrl := hm r List.mem_cons_self
        refine ⟨by simpa using hrl, fun j av hj => ?_⟩
        have hra : RepAs g w (r.map AV.d) vs := by subst hro; exact RepAs.of_ds hr
        obtain ⟨v, hv, hrep⟩ := hra.get j av hj
        have hjl : j < vs.length := (List.getElem?_eq_some_iff.1 hv).1
        exact ⟨v, by rw [Nat.zero_mul, Nat.zero_add, List.getElem?_append_left hjl]; exact hv, (hc j v hv).2, hrep⟩
      | succ i =>
        simp only [dr, List.map_cons, List.getElem?_cons_succ] at hi
        obtain ⟨hl', hr'⟩ := h3 i row hi
        refine ⟨hl', fun j av hj => ?_⟩
        obtain ⟨v, hv, ho, hrep⟩ := hr' j av hj
        refine ⟨v, ?_, ho, hrep⟩
        rw [List.getElem?_append_right (by rw [hl, Nat.succ_mul]; omega)]
        rwa [show (i + 1) * m + j - vs.length = i * m + j by rw [hl, Nat.succ_mul]; omega]

/-- Rows to append, of an abstract slice. -/
def srcRows (hp : Nat → Option Ob) (m : Nat) : AV → Option (List (List AV) × Prop)
  | .nl => some ([], True)
  | .d (.sl rows) => some (dr rows, ∀ r ∈ rows, r.length = m)
  | .hs id off len => (hp id).bind fun o => if o.m = m then some ((o.rows.drop off).take len, off + len ≤ o.rows.length) else none
  | _ => none

theorem src_sound {g : G} {obj : Nat → Option Ob} {w : World} (h : HRel g obj w) {m : Nat} {x : AV} {v : Value} {rows : List (List AV)} {p : Prop} (hs : srcRows obj m x = some (rows, p)) (hp : p) (hx : RepA g w x v) : SrcOk g w m rows v := by
  cases x <;> simp only [srcRows] at hs
  case nl => cases hs; simp only [RepA] at hx; exact .inl ⟨rfl, none, 0, hx⟩
  case d y =>
    cases y <;> simp only [srcRows] at hs
    case sl rs =>
      cases hs
      simp only [RepA, RepD] at hx
      obtain ⟨a, cap, hv, hc, hm, hr⟩ := hx
      rcases hr with rfl | ⟨b, o, m', ha, hb, hr⟩
      · exact .inl ⟨rfl, a, cap, by simpa using hv⟩
      · by_cases hn : rs = []
        · subst hn; exact .inl ⟨rfl, a, cap, by simpa using hv⟩
        · have hm' : m' = m := by
            obtain ⟨r, rs', rfl⟩ := List.exists_cons_of_ne_nil hn
            simp only [RepRows] at hr
            obtain ⟨⟨vs, hl, hd, _⟩, _⟩ := hr
            rw [← hl, hd.length]
            exact hp r List.mem_cons_self
          subst hm'
          obtain ⟨flat, h1, h2, h3⟩ := rows_flat (g := g) rfl o rs hr hp
          exact .inr ⟨b, o, cap, flat, by rw [hv, ha]; simp [dr], by simpa [dr] using h1, h2, h3⟩
    all_goals cases hs
  case hs id off len =>
    cases ho : obj id with
    | none => rw [ho] at hs; cases hs
    | some o =>
      rw [ho] at hs
      simp only [Option.bind_some] at hs
      split at hs
      · rename_i hm
        cases hs
        obtain ⟨L, hL, hok⟩ := h.own id o ho
        simp only [RepA] at hx
        rcases hx.2 L hL with ⟨hv, rfl, rfl, rfl⟩ | ⟨hv, hle, rfl⟩
        · exact .inl ⟨by simp, none, 0, rfl⟩
        · obtain ⟨cur, h1, h2, h3, h5⟩ := hok.cells hv
          have hmL : L.m = m := by rw [hok.m, hm]
          have hlen : ((o.rows.drop off).take len).length = len := by simp; omega
          refine .inr ⟨L.blk, off * L.m, L.cap - off, (cur.toList.drop (off * L.m)).take (len * L.m), by rw [hlen], ?_, ?_, ?_⟩
          · rw [hlen, ← hmL]
            have : (off + len) * L.m ≤ cur.size := by rw [h2]; exact Nat.mul_le_mul_right _ hle
            rw [Nat.add_mul] at this
            simp; omega
          · intro k u hk
            rw [List.getElem?_take] at hk
            split at hk
            · rename_i hlt
              rw [List.getElem?_drop] at hk
              have hmp := hok.pos
              have hi : k / L.m < len := Nat.div_lt_of_lt_mul (by rw [Nat.mul_comm]; exact hlt)
              have hrow : ∃ row, o.rows[off + k / L.m]? = some row := ⟨o.rows[off + k / L.m]'(by omega), List.getElem?_eq_getElem _⟩
              obtain ⟨row, hrow⟩ := hrow
              obtain ⟨hrl, hr'⟩ := h5 _ row hrow
              have hmod : k % L.m < row.length := by rw [hrl]; exact Nat.mod_lt _ hmp
              obtain ⟨u', hu', ho', _⟩ := hr' (k % L.m) _ (List.getElem?_eq_getElem hmod)
              have hidx : (off + k / L.m) * L.m + k % L.m = off * L.m + k := by
                rw [Nat.add_mul, Nat.add_assoc, Nat.mul_comm (k / L.m), Nat.div_add_mod]
              rw [hidx] at hu'
              have : u' = u := by
                have e1 : cur[off * L.m + k]? = some u := by simpa using hk
                rw [e1] at hu'
                exact (Option.some.inj hu').symm
              subst this
              exact ⟨by simp only [World.cell?, h1]; simpa using hu', ho'⟩
            · cases hk
          · intro i row hi
            rw [List.getElem?_take] at hi
            split at hi
            · rename_i hlt
              rw [List.getElem?_drop] at hi
              obtain ⟨hrl, hr'⟩ := h5 _ row hi
              refine ⟨by rw [hrl, hmL], fun j av hj => ?_⟩
              obtain ⟨u, hu, ho', hrep⟩ := hr' j av hj
              refine ⟨u, ?_, ho', hrep⟩
              have hjm : j < L.m := by rw [← hrl]; exact (List.getElem?_eq_some_iff.1 hj).1
              have hb : i * L.m + j < len * L.m := by
                have := Nat.mul_le_mul_right L.m (show i + 1 ≤ len from hlt)
                rw [Nat.succ_mul] at this
                omega
              rw [← hmL, List.getElem?_take, if_pos hb, List.getElem?_drop]
              have : off * L.m + (i * L.m + j) = (off + i) * L.m + j := by rw [Nat.add_mul]; omega
              rw [this]
              simpa using hu
            · cases hi
      · cases hs
  all_goals cases hs

theorem RowsRep.append {g : G} {w : World} {m : Nat} {r1 r2 : List (List AV)} {f1 f2 : List Value} (h1 : RowsRep g w m r1 f1) (hl : f1.length = r1.length * m) (h2 : RowsRep g w m r2 f2) : RowsRep g w m (r1 ++ r2) (f1 ++ f2) := by
  intro i row hi
  rw [List.getElem?_append] at hi
  split at hi
  · rename_i hlt
    obtain ⟨a, b⟩ := h1 i row hi
    refine ⟨a, fun j av hj => ?_⟩
    obtain ⟨v, hv, ho, hr⟩ := b j av hj
    exact ⟨v, by rw [List.getElem?_append_left (List.getElem?_eq_some_iff.1 hv).1]; exact hv, ho, hr⟩
  · rename_i hge
    obtain ⟨a, b⟩ := h2 _ row hi
    refine ⟨a, fun j av hj => ?_⟩
    obtain ⟨v, hv, ho, hr⟩ := b j av hj
    have hle : r1.length * m ≤ i * m := Nat.mul_le_mul_right _ (Nat.le_of_not_lt hge)
    refine ⟨v, ?_, ho, hr⟩
    rw [List.getElem?_append_right (by omega)]
    rwa [show i * m + j - f1.length = (i - r1.length) * m + j by rw [hl, Nat.sub_mul]; omega]

/-- The rows that a slice to be grown has, and the name that goes. -/
def dstRows (hp : Nat → Option Ob) (e : TypeId) (m : Nat) : AV → Option (List (List AV) × List (Nat × Option Ob) × Prop)
  | .nl => some ([], [], True)
  | .hs id 0 len => (hp id).bind fun o => if o.m = m ∧ o.elem = e then some (o.rows.take len, [(id, none)], len ≤ o.rows.length) else none
  | _ => none

theorem run_append_any {P : Program} {w : World} (base : Nat) (t ty e : TypeId) (i : TypeInfo) (z : Value) (size bytes : Nat) (ht : P.underlying t = some (.slice e)) (hi : P.info? e = some i) (hz : i.zero = some z)
    (hsize : i.size = size) (hby : i.bytes = bytes) (hzs : z.cells.size = size) (hsz : 0 < size)
    (v x : Value) (n k : Nat) (xs news : List Value) (hown : w.ownsRow base e size v n xs)
    (hx : (k = 0 ∧ news = [] ∧ ∃ a c, x = .slice a 0 c) ∨ ∃ b o c, x = .slice (some ⟨b, o, none⟩) k c ∧ news.length = k * size ∧ CellsAt w b o news)
    (h63 : n + k ≤ maxLen) (hbytes : (n + k) * bytes ≤ 140737488355328) (hbase : base ≤ w.heap.size) :
    ∃ v' w', (Builtin.append_ #[t, t] ty #[v, x]).run P w = .ok v' w' ∧ w'.ownsRow base e size v' (n + k) (xs ++ news) ∧ w.grownBy w' v.ownBlock ∧
      (v' = .slice none 0 0 ↔ v = .slice none 0 0 ∧ k = 0) ∧ (v'.ownBlock = v.ownBlock ∨ v'.ownBlock = some w.heap.size) := by
  rcases hx with ⟨rfl, rfl, a, c, rfl⟩ | ⟨b, o, c, rfl, hl, hc⟩
  · cases a with
    | none =>
      have hr : (Builtin.append_ #[t, t] ty #[v, .slice none 0 c]).run P w = .ok v w := by
        rcases hown.2 with ⟨rfl, rfl⟩ | ⟨g, cap, cur, rfl, _, _, hnc, _⟩
        · simp [Builtin.append_, run_underlying ht, sizeOf, typeInfo, hi, Builtin.lenOf, Builtin.firstCells]
        · simp [Builtin.append_, run_underlying ht, sizeOf, typeInfo, hi, Builtin.lenOf, Builtin.firstCells, hnc, storeCells]
      exact ⟨v, w, hr, by simpa using hown, ⟨rfl, rfl, rfl, Nat.le_refl _, fun _ _ _ => rfl⟩, by simp, .inl rfl⟩
    | some a =>
      exact run_append_own_at w base t ty e i z size bytes ht hi hz hsize hby hzs hsz v n xs hown a 0 c [] (by simp) (by simp) (by simp) h63 hbytes hbase
  · exact run_append_own_at w base t ty e i z size bytes ht hi hz hsize hby hzs hsz v n xs hown ⟨b, o, none⟩ k c news hl (fun j u hj => by rw [Addr.add_lit]; exact (hc j u hj).1) hc.one h63 hbytes hbase

theorem append_sound {P : Program} {t e ty : TypeId} {ti te : TI} (ht : TOk P t ti) (hk : ti.kind = .slice e) (he : TOk P e te) (hpos : 0 < te.size) (hbpos : 0 < te.bytes) {g : G} {obj : Nat → Option Ob} {w : World} (h : HRel g obj w) {nid : Nat} (hid : ¬ g.used nid)
    {s x : AV} {vs vx : Value} {r1 r2 : List (List AV)} {wr : List (Nat × Option Ob)} {p1 p2 : Prop} (hs : RepA g w s vs) (hx : RepA g w x vx) (hd : dstRows obj e te.size s = some (r1, wr, p1)) (hp1 : p1)
    (hsrc : srcRows obj te.size x = some (r2, p2)) (hp2 : p2) (hb : (r1.length + r2.length) * te.bytes ≤ 140737488355328) :
    ∃ v w', (Builtin.append_ #[t, t] ty #[vs, vx]).run P w = .ok v w' ∧
      After g obj w nid { val := .hs nid 0 (r1.length + r2.length), wr := wr ++ [(nid, some ⟨e, te.size, r1 ++ r2⟩)] } v w' := by
  obtain ⟨i, z, hi, hsz, hby, hz, hzc, hzs, hzo⟩ := he.info
  have hu : P.underlying t = some (.slice e) := by have := ht.kind; rw [hk] at this; exact this
  have h63 : r1.length + r2.length ≤ maxLen := by
    have : r1.length + r2.length ≤ (r1.length + r2.length) * te.bytes := Nat.le_mul_of_pos_right _ hbpos
    simp only [maxLen]; omega
  have hsrc' := src_sound h hsrc hp2 hx
  have hnews : ∃ news : List Value, ((r2.length = 0 ∧ news = [] ∧ ∃ a c, vx = .slice a 0 c) ∨ ∃ b o c, vx = .slice (some ⟨b, o, none⟩) r2.length c ∧ news.length = r2.length * te.size ∧ CellsAt w b o news) ∧ news.length = r2.length * te.size ∧ RowsRep g w te.size r2 news := by
    rcases hsrc' with ⟨rfl, a, c, hv⟩ | ⟨b, o, c, flat, hv, hl, hc, hr⟩
    · exact ⟨[], .inl ⟨rfl, rfl, a, c, hv⟩, by simp, fun i row hi => by simp at hi⟩
    · exact ⟨flat, .inr ⟨b, o, c, hv, hl, hc⟩, hl, hr⟩
  obtain ⟨news, hnx, hnl, hnr⟩ := hnews
  -- what stands before
  have fresh : ∀ (g0 : G) (obj0 : Nat → Option Ob) (w' : World) (v' : Value) (xs : List Value) (cap : Nat) (cur : Array Value), HRel g0 obj0 w → ¬ g0.used nid → RowsRep g0 w te.size r1 xs → RowsRep g0 w te.size r2 news → xs.length = r1.length * te.size →
      v' = .slice (some ⟨w.heap.size, 0, none⟩) (r1.length + r2.length) cap → w'.heap[w.heap.size]? = some (.cells cur e (0, 0)) → r1.length + r2.length ≤ cap → cap ≤ maxLen → cur.size = cap * te.size → cur.toList.take ((r1.length + r2.length) * te.size) = xs ++ news →
      w.grownBy w' none → w.drawn ≤ w'.drawn → After g0 obj0 w nid { val := .hs nid 0 (r1.length + r2.length), wr := [(nid, some ⟨e, te.size, r1 ++ r2⟩)] } v' w' := by
    intro g0 obj0 w' v' xs cap cur h0 hid0 hr1 hr2 hxl hv' hcell hle hcm hcs htake hg hgd
    obtain ⟨g', a1, a2, a3, a4, a5, a6⟩ := HRel.new (w' := w') (B := w.heap.size) (cap := cap) h0 hid0 ⟨e, te.size, r1 ++ r2⟩ cur hg.os ⟨hg.tape, hgd⟩ hg.output (Nat.le_refl _) (Array.getElem?_eq_some_iff.1 hcell).1
      (fun b hb => hg.block b hb (by simp)) hcell hpos hcs (by simpa using hle) hcm (fun i row hi => by
        obtain ⟨c1, c2⟩ := (hr1.append hxl hr2) i row hi
        refine ⟨c1, fun j av hj => ?_⟩
        obtain ⟨u, hu, ho, hrep⟩ := c2 j av hj
        refine ⟨u, ?_, ho, hrep⟩
        rw [← htake, List.getElem?_take] at hu
        split at hu
        · simpa using hu
        · cases hu)
    refine ⟨g', a4, a5, a6, fun k hk => by rw [a2] at hk; exact hk, ?_⟩
    rw [hv']
    exact rep_hs (L := ⟨w.heap.size, te.size, cap, false⟩) (by rw [a2]; exact .inr rfl) a1 rfl hle
  have nothing : ∀ (g0 : G) (obj0 : Nat → Option Ob), HRel g0 obj0 w → ¬ g0.used nid → r1 = [] → vs = .slice none 0 0 → RowsRep g0 w te.size r2 news → ∃ v w', (Builtin.append_ #[t, t] ty #[vs, vx]).run P w = .ok v w' ∧
      After g0 obj0 w nid { val := .hs nid 0 (r1.length + r2.length), wr := [(nid, some ⟨e, te.size, r1 ++ r2⟩)] } v w' := by
    intro g0 obj0 h0 hid0 hr1 hvs hr2
    subst hr1
    obtain ⟨v', w', hrun, hown, hgr, hiff, hblk⟩ := run_append_any (P := P) (w := w) 0 t ty e i z te.size te.bytes hu hi hz hsz hby hzs hpos vs vx 0 r2.length [] news (by rw [hvs]; exact World.ownsRow_nil w 0 e te.size) hnx (by simpa using h63) (by simpa using hb) (Nat.zero_le _)
    refine ⟨v', w', hrun, ?_⟩
    have hgr' : w.grownBy w' none := by rw [hvs] at hgr; simpa [Value.ownBlock] using hgr
    rcases hown.2 with ⟨hv', h0'⟩ | ⟨b, cap, cur, hv', _, hcell, hle, hcm, hcs, htake⟩
    · have hr20 : r2 = [] := List.eq_nil_of_length_eq_zero (by omega)
      subst hr20
      obtain ⟨h1, h2, h3⟩ := h0.idle (w' := w') ⟨hgr'.os, ⟨hgr'.tape, sem_drawn _ _ _ _ hrun⟩, hgr'.output, hgr'.size, fun k hk => hgr'.block k hk (by simp)⟩
      obtain ⟨g', a1, a2, a3, a4, a5, a6⟩ := h1.newVirt hid0 e te.size hpos
      refine ⟨g', a4, h2.trans a5, ?_, fun k hk => by rw [a2] at hk; exact hk, ?_⟩
      · exact ⟨fun b hb => ⟨(a6.fut b hb).1, (h3.fut b hb).2⟩, a6.used, a6.loc⟩
      · simp only [RepA]
        refine ⟨⟨by rw [a2]; exact .inr rfl, by rw [hv']; rfl⟩, fun L hL => ?_⟩
        rw [a1] at hL; cases hL
        exact .inl ⟨by trivial, by trivial, by simp, hv'⟩
    · have hb' : b = w.heap.size := by
        rw [hvs] at hblk
        simp only [hv', Value.ownBlock, Option.some.injEq, reduceCtorEq, false_or] at hblk
        exact hblk
      subst hb'
      exact fresh g0 obj0 w' v' [] cap cur h0 hid0 (fun i row hi => by simp at hi) hr2 (by simp) (by simpa using hv') hcell (by simpa using hle) hcm hcs (by simpa using htake) hgr' (sem_drawn _ _ _ _ hrun)
  cases s <;> simp only [dstRows] at hd
  case nl =>
    cases hd
    simp only [RepA] at hs
    exact nothing g obj h hid rfl hs hnr
  case hs id off len =>
    cases off with
    | succ off => simp [dstRows] at hd
    | zero =>
    simp only [dstRows] at hd
    cases ho : obj id with
    | none => rw [ho] at hd; cases hd
    | some o =>
      rw [ho] at hd
      simp only [Option.bind_some] at hd
      split at hd
      · rename_i hme
        obtain ⟨hm, hel⟩ := hme
        cases hd
        obtain ⟨L, hL, hok⟩ := h.own id o ho
        simp only [RepA] at hs
        have hlen : (o.rows.take len).length = len := by simp; omega
        have hne : nid ≠ id := fun e' => hid (e' ▸ (h.live id L hL).1)
        rcases hs.2 L hL with ⟨hv, _, hl0, hvs⟩ | ⟨hv, hle, hvs⟩
        · subst hl0
          obtain ⟨g1, b1, b2, b3, b4, b5, b6⟩ := h.drop id
          obtain ⟨v, w', hrun, hafter⟩ := nothing g1 (upd1 obj id none) b4 (by rw [b1]; exact hid) (by simp) hvs (fun i row hi => by
            obtain ⟨c1, c2⟩ := hnr i row hi
            refine ⟨c1, fun j av hj => ?_⟩
            obtain ⟨u, hu, ho', hrep⟩ := c2 j av hj
            exact ⟨u, hu, ho', RepA.later b6 av u hrep⟩)
          obtain ⟨g', c1, c2, c3, c4, c5⟩ := hafter
          refine ⟨v, w', hrun, g', by simpa [updL] using c1, b5.trans c2, ?_, fun k hk => by have := c4 k hk; rwa [b1] at this, by simpa using c5⟩
          exact ⟨fun b hb => by
            have := c3.fut b (by rw [b2]; exact hb)
            exact this, fun k hk => c3.used k (by rw [b1]; exact hk), fun k hk => by
            have h1 := c3.loc k (by rw [b1]; exact hk)
            rw [b3] at h1
            by_cases e' : k = id
            · simp only [e', if_true] at h1 ⊢
              right
              rcases h1 with h1 | h1 <;> exact h1
            · simpa [e'] using h1⟩
        · obtain ⟨cur, hc1, hc2, hc3, hc5⟩ := hok.cells hv
          have hmL : L.m = te.size := by rw [hok.m, hm]
          have hvs' : vs = .slice (some ⟨L.blk, 0, none⟩) len L.cap := by simpa using hvs
          have hxl : (cur.toList.take (len * te.size)).length = len * te.size := by
            have : len * te.size ≤ cur.size := by rw [hc2, hmL]; exact Nat.mul_le_mul_right _ (by omega)
            simp; omega
          have hr1 : RowsRep g w te.size (o.rows.take len) (cur.toList.take (len * te.size)) := by
            intro i row hi
            rw [List.getElem?_take] at hi
            split at hi
            · rename_i hlt
              obtain ⟨a1, a2⟩ := hc5 i row hi
              refine ⟨by rw [a1, hmL], fun j av hj => ?_⟩
              obtain ⟨u, hu', ho', hrep⟩ := a2 j av hj
              refine ⟨u, ?_, ho', hrep⟩
              have hjm : j < L.m := by rw [← a1]; exact (List.getElem?_eq_some_iff.1 hj).1
              have hb' : i * te.size + j < len * te.size := by
                have := Nat.mul_le_mul_right te.size (show i + 1 ≤ len from hlt)
                rw [Nat.succ_mul] at this
                omega
              rw [List.getElem?_take, if_pos hb', ← hmL]
              simpa using hu'
            · cases hi
          have hown : w.ownsRow 0 e te.size vs len (cur.toList.take (len * te.size)) := ⟨hxl, .inr ⟨L.blk, L.cap, cur, hvs', Nat.zero_le _, by rw [← hel]; exact hc1, by omega, hc3, by rw [hc2, hmL], rfl⟩⟩
          obtain ⟨v', w', hrun, hown', hgr, hiff, hblk⟩ := run_append_any (P := P) (w := w) 0 t ty e i z te.size te.bytes hu hi hz hsz hby hzs hpos vs vx len r2.length _ news hown hnx (by rw [hlen] at h63; exact h63) (by rw [hlen] at hb; exact hb) (Nat.zero_le _)
          refine ⟨v', w', hrun, ?_⟩
          rcases hown'.2 with ⟨hv', h0'⟩ | ⟨b, cap, cur', hv', _, hcell, hle', hcm, hcs, htake⟩
          · exfalso
            have := hiff.1 hv'
            rw [hvs'] at this
            simp at this
          · have hbb : b = L.blk ∨ b = w.heap.size := by
              rw [hv', hvs'] at hblk
              simpa [Value.ownBlock] using hblk
            have hgb : ∀ k, k < w.heap.size → k ≠ L.blk → w'.heap[k]? = w.heap[k]? := fun k hk hkn => hgr.block k hk (by rw [hvs']; simp [Value.ownBlock, hkn])
            have hbB : b = L.blk ∨ (w.heap.size ≤ b ∧ b < w'.heap.size) := hbb.imp (fun e' => e') fun e' => ⟨by omega, (Array.getElem?_eq_some_iff.1 hcell).1⟩
            obtain ⟨g', a1, a2, a3, a4, a5, a6⟩ := HRel.write (w' := w') (cap := cap) (B := b) h hL hv (.inr hid) ⟨e, te.size, o.rows.take len ++ r2⟩ cur' hgr.os ⟨hgr.tape, sem_drawn _ _ _ _ hrun⟩ hgr.output hgr.size hgb hbB hcell hmL.symm hok.pos (by rw [hcs, hmL]) (by rw [List.length_append, hlen]; exact hle') hcm (fun e' => absurd e' hne)
              (fun i row hi => by
                obtain ⟨c1, c2⟩ := (hr1.append (by rw [hxl, hlen]) hnr) i row hi
                refine ⟨by rw [c1, hmL], fun j av hj => ?_⟩
                obtain ⟨u, hu', ho', hrep⟩ := c2 j av hj
                refine ⟨u, ?_, ho', hrep⟩
                rw [← htake, List.getElem?_take] at hu'
                split at hu'
                · rw [hmL]; simpa using hu'
                · cases hu')
            refine ⟨g', by simpa [updL] using a4, a5, a6, fun k hk => by rw [a2] at hk; exact hk, ?_⟩
            rw [hv', hlen]
            exact rep_hs (by rw [a2]; exact .inr rfl) a1 rfl hle'
      · cases hd
  all_goals cases hd

/-- 'copy' of a whole slice into an owned one that has room for it. -/
theorem copy_sound {P : Program} {t e ty : TypeId} {te : TI} (hu : P.underlying t = some (.slice e)) (he : TOk P e te) {g : G} {obj : Nat → Option Ob} {w : World} (h : HRel g obj w) {id len : Nat} {o : Ob} {x : AV} {vs vx : Value} {rows : List (List AV)} {p : Prop}
    (ho : obj id = some o) (hm : o.m = te.size) (hs : RepA g w (.hs id 0 len) vs) (hx : RepA g w x vx) (hsrc : srcRows obj te.size x = some (rows, p)) (hp : p) (h1 : rows.length ≤ len) (h2 : len ≤ o.rows.length) :
    ∃ w' g', (Builtin.copy_ #[t, t] ty #[vs, vx]).run P w = .ok (.int .i64 rows.length) w' ∧ HRel g' (upd1 obj id (some ⟨o.elem, o.m, rows ++ o.rows.drop rows.length⟩)) w' ∧ Step g w g' w' ∧ Later g w g' w' ∧ (∀ k, g'.used k → g.used k) := by
  have hso := src_sound h hsrc hp hx
  obtain ⟨L, hL, hok⟩ := h.own id o ho
  simp only [RepA] at hs
  by_cases hz : rows = []
  · subst hz
    have hid : upd1 obj id (some ⟨o.elem, o.m, [] ++ o.rows.drop ([] : List (List AV)).length⟩) = obj := by
      funext k
      simp only [upd1, List.length_nil, List.drop_zero, List.nil_append]
      split
      · rename_i e1; subst e1; exact ho.symm
      · rfl
    refine ⟨w, g, ?_, by rw [hid]; exact h, Step.refl g w, ⟨fun b hb => ⟨hb, rfl⟩, fun _ hk => hk, fun _ _ => .inl rfl⟩, fun _ hk => hk⟩
    have hvx : ∃ a c, vx = .slice a 0 c := by
      rcases hso with ⟨_, hv⟩ | ⟨b, o2, c, flat, hv, _⟩
      · exact hv
      · exact ⟨_, _, hv⟩
    obtain ⟨a, c, rfl⟩ := hvx
    rcases hs.2 L hL with ⟨_, _, _, rfl⟩ | ⟨_, _, rfl⟩
    · cases a <;> simp [Builtin.copy_, run_underlying hu, Builtin.lenOf, Builtin.firstCells, he.sizeOf, storeCells, goInt, loadCells, loadCellsFrom]
    · cases a <;> simp [Builtin.copy_, run_underlying hu, Builtin.lenOf, Builtin.firstCells, he.sizeOf, storeCells, goInt, loadCells, loadCellsFrom]
  · have hpos : 0 < rows.length := List.length_pos_iff.2 hz
    obtain ⟨b, o2, c, flat, rfl, hfl, hcells, hrr⟩ : ∃ b o2 c flat, vx = .slice (some ⟨b, o2, none⟩) rows.length c ∧ flat.length = rows.length * te.size ∧ CellsAt w b o2 flat ∧ RowsRep g w te.size rows flat := by
      rcases hso with ⟨hv, _⟩ | hv
      · exact absurd hv hz
      · exact hv
    rcases hs.2 L hL with ⟨_, _, h0, _⟩ | ⟨hvirt, hfit, rfl⟩
    · omega
    · obtain ⟨cur, c1, c2, c3, c5⟩ := hok.cells hvirt
      have hLm : L.m = te.size := by rw [hok.m, hm]
      have hcap : flat.length ≤ cur.size := by
        rw [hfl, c2, hLm]
        exact Nat.mul_le_mul_right _ (by omega)
      have hld := run_loadCells_list (P := P) w ⟨b, o2, none⟩ flat (fun j v hj => by rw [Addr.add_lit]; exact (hcells j v hj).1)
      rw [hfl] at hld
      have hst := run_storeCells_at P L.blk 0 o.elem flat 0 cur w c1 (by omega) hcells.one
      simp only [Nat.add_zero, Nat.zero_add, List.take_zero, List.nil_append] at hst
      have hmin : min rows.length len = rows.length := by omega
      have hrun : (Builtin.copy_ #[t, t] ty #[.slice (some ⟨L.blk, 0 * L.m, none⟩) len (L.cap - 0), .slice (some ⟨b, o2, none⟩) rows.length c]).run P w = .ok (.int .i64 rows.length) (w.setRow L.blk (flat ++ cur.toList.drop flat.length).toArray) := by
        simp [Builtin.copy_, run_underlying hu, Builtin.lenOf, Builtin.firstCells, he.sizeOf, goInt, hmin, hld, hst]
      have hget : ∀ p : Nat, (flat ++ cur.toList.drop flat.length).toArray[p]? = if p < flat.length then flat[p]? else cur[p]? := fun p => by
        rw [List.getElem?_toArray, List.getElem?_append]
        split
        · rfl
        · rw [List.getElem?_drop, show flat.length + (p - flat.length) = p by omega, Array.getElem?_toList]
      have hw := HRel.write (w' := w.setRow L.blk (flat ++ cur.toList.drop flat.length).toArray) h hL hvirt (.inl rfl)
        ⟨o.elem, o.m, rows ++ o.rows.drop rows.length⟩ (flat ++ cur.toList.drop flat.length).toArray rfl ⟨rfl, Nat.le_refl _⟩ rfl (by simp [World.setRow])
        (fun b _ hb => setRow_other w L.blk b _ hb) (.inl rfl) (setRow_heap w L.blk cur _ o.elem _ c1) hok.m.symm hok.pos (cap := L.cap) (by rw [← c2]; simp only [List.size_toArray, List.length_append, List.length_drop, Array.length_toList]; omega) (by have := hok.len; simp; omega) c3 (fun _ => ⟨rfl, rfl⟩) ?_
      · obtain ⟨g', _, hu', hro, hH, hS, hLt⟩ := hw
        refine ⟨_, g', hrun, ?_, hS, hLt, fun k hk => ?_⟩
        · have : upd1 (upd1 obj id none) id (some ⟨o.elem, o.m, rows ++ o.rows.drop rows.length⟩) = upd1 obj id (some ⟨o.elem, o.m, rows ++ o.rows.drop rows.length⟩) := by
            funext k; simp only [upd1]; split <;> rfl
          rw [← this]; exact hH
        · rw [hu'] at hk
          rcases hk with hk | rfl
          · exact hk
          · exact (h.live _ L hL).1
      · intro i row hi
        rw [hLm]
        simp only at hi
        rw [List.getElem?_append] at hi
        split at hi
        · rename_i hlt
          obtain ⟨r1, r2⟩ := hrr i row hi
          refine ⟨r1, fun j av hj => ?_⟩
          obtain ⟨v, v1, v2, v3⟩ := r2 j av hj
          exact ⟨v, by rw [hget, if_pos (List.getElem?_eq_some_iff.1 v1).1]; exact v1, v2, v3⟩
        · rename_i hge
          rw [List.getElem?_drop, show rows.length + (i - rows.length) = i by omega] at hi
          obtain ⟨r1, r2⟩ := c5 i row hi
          rw [hLm] at r1 r2
          refine ⟨r1, fun j av hj => ?_⟩
          obtain ⟨v, v1, v2, v3⟩ := r2 j av hj
          have hmul : rows.length * te.size ≤ i * te.size := Nat.mul_le_mul_right _ (by omega)
          exact ⟨v, by rw [hget, if_neg (by omega)]; exact v1, v2, v3⟩

end Go.Abs
