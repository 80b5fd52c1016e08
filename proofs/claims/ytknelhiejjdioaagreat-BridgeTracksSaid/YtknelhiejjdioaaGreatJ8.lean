/-
  Texts of this seat put together: AbsZ, X4, X5, AbsY, AbsD, B3, B4, U1.
-/
import Derived.Test.YtknelhiejjdioaaGreatJ3
import Derived.Test.YtknelhiejjdioaaGreatJ6
import Derived.Test.YtknelhiejjdioaaGreatJ7
import Derived.Test.YtknelhiejjdioaaGreatJ4
import Derived.Test.YtknelhiejjdioaaGreatJ5
import Derived.Shelf.Sort.Plain
import Derived.Shelf.Slices.In.SortNone
import Derived.Shelf.Slices.CompactI
import Derived.Lib.RowBridge
import Derived.Test.YtknelhiejjdioaaGreatChecked
set_option linter.unusedVariables false
set_option linter.unusedSimpArgs false
namespace Go.Abs
open Go.Shelf Go.RowKit Go.Lib Go.Sort Go.Proofs

abbrev iRow (x : Int) : List D := [.int .i64 x]
abbrev encI (x : Int) : Value := .int .i64 x

theorem heap_rowI (w : World) (blk n : Nat) (d : Array Int) (os : Array Obj) {b : Nat} (hb : b < w.heap.size) (hne : b ≠ blk) : (grow (putRow encI (Go.Sort.ahead w n) blk 0 d) os).heap[b]? = w.heap[b]? := by
  rw [heap_grow_old _ _ (by simpa [putRow, mapBlock, heap_ahead] using hb)]
  simp only [putRow, mapBlock, heap_ahead]
  rw [Array.getElem?_modify, if_neg (fun h => hne h.symm)]
theorem heap_rowI_blk (w : World) (blk n : Nat) (d : Array Int) (os : Array Obj) {cur : Array Value} {e : TypeId} {fr : Nat × Nat} (h : w.heap[blk]? = some (.cells cur e fr)) : (grow (putRow encI (Go.Sort.ahead w n) blk 0 d) os).heap[blk]? = some (.cells (Go.Sort.putCells encI 0 d cur) e fr) := by
  have hb : blk < w.heap.size := (Array.getElem?_eq_some_iff.1 h).1
  rw [heap_grow_old _ _ (by simpa [putRow, mapBlock, heap_ahead] using hb)]
  simp only [putRow, mapBlock, heap_ahead]
  rw [Array.getElem?_modify, if_pos rfl, h]
  rfl
theorem size_rowI (w : World) (blk n : Nat) (d : Array Int) (os : Array Obj) : w.heap.size ≤ (grow (putRow encI (Go.Sort.ahead w n) blk 0 d) os).heap.size := by
  rw [size_grow]; simp [putRow, mapBlock, heap_ahead]
theorem drawn_rowI (w : World) (blk n : Nat) (d : Array Int) (os : Array Obj) : w.drawn ≤ (grow (putRow encI (Go.Sort.ahead w n) blk 0 d) os).drawn := by
  simp [grow, putRow, mapBlock, ahead]

/-- A function that writes numbers into the row that it is handed. -/
theorem int_px {P : Program} {f : FuncId} (hent : Enters P f) (e : TypeId) {zs ys : List Int} (hn : 0 < zs.length) (hlen : ys.length = zs.length) (rv : Nat → Nat → Value) (rA : AV)
    (hrep : ∀ (g : G) (w : World) (L : Loc), g.used 0 → g.loc 0 = some L → (L.virt = false ∧ L.map = false) → zs.length ≤ L.cap → RepA g w rA (rv L.blk L.cap))
    (hc : ∀ (blk cap : Nat) (w : World), Holds encI w blk 0 zs.toArray → blk < w.heap.size → zs.length ≤ cap → Calls P f #[.slice (some ⟨blk, 0, none⟩) zs.length cap] w fun e w' => e = .returned (rv blk cap) ∧ ∃ n os, w' = grow (putRow encI (Go.Sort.ahead w n) blk 0 ys.toArray) os) :
    PX P f [.hs 0 0 zs.length] [(0, ⟨e, 1, dr (zs.map iRow)⟩)] [(0, 0)] [(0, ⟨e, 1, dr (ys.map iRow)⟩)] rA := by
  refine ⟨hent, fun g w vs h hu hvs => ?_⟩
  simp only [RepAs] at hvs
  obtain ⟨v0, _, rfl, h0, rfl⟩ := hvs
  obtain ⟨L0, hL, hok⟩ := h.own 0 ⟨e, 1, dr (zs.map iRow)⟩ (by simp [objL, find])
  have hkm : L0.m = 1 := hok.m
  have hlenr : (dr (zs.map iRow)).length = zs.length := by simp [dr]
  have hvirt : L0.virt = false := by
    cases hv : L0.virt with
    | false => rfl
    | true =>
      have h2 : (dr (zs.map iRow)).length = 0 := by rw [show dr (zs.map iRow) = [] from hok.virt hv]; rfl
      omega
  simp only [RepA] at h0
  have hflat : L0.virt = false ∧ L0.map = false := by
    rcases h0.2 L0 hL with ⟨hv, _⟩ | ⟨hv, _⟩
    · rw [hvirt] at hv; cases hv
    · exact hv
  have hvm := hflat.2
  obtain ⟨cur, hblk, hcs, hcap, hrows⟩ := hok.cells hflat
  have e0 : v0 = .slice (some ⟨L0.blk, 0, none⟩) zs.length L0.cap := by
    rcases h0.2 L0 hL with ⟨hv, _⟩ | ⟨_, _, hv⟩
    · rw [hvirt] at hv; cases hv
    · rw [hv]; simp
  have hcapl : zs.length ≤ L0.cap := by have := hok.len hvm; rw [hlenr] at this; exact this
  have hblt : L0.blk < w.heap.size := (Array.getElem?_eq_some_iff.1 hblk).1
  have hcsz : cur.size = L0.cap := by rw [hcs, hkm]; simp
  have hget : ∀ i (hi : i < zs.length), cur[i]? = some (encI zs[i]) := fun i hi => by
    have hrow := hrows i ((iRow zs[i]).map AV.d) (by simp [dr, hi])
    obtain ⟨u, hu1, hu2, hu3⟩ := hrow.2 0 (.d (.int .i64 zs[i])) (by simp)
    rw [hkm] at hu1
    simp only [RepA, RepD] at hu3
    rw [hu3] at hu1
    simpa using hu1
  have hH : Holds encI w L0.blk 0 zs.toArray := by
    intro j hj
    have hj' : j < zs.length := by simpa using hj
    have h1 := hget j hj'
    refine ⟨?_, ?_⟩
    · simp only [World.cell?, hblk, Nat.zero_add, Option.isSome_none, Bool.false_eq_true, if_false]
      rw [h1, getElem!_pos zs.toArray j hj]
      simp
    · simp only [World.frozen?, hblk]
      simp
  rw [e0]
  refine (hc L0.blk L0.cap w hH hblt hcapl).mono ?_
  rintro ex w' ⟨rfl, n, os, rfl⟩
  have hbs := heap_rowI_blk w L0.blk n ys.toArray os hblk
  obtain ⟨g', h1, h2, h3, h4, h5, h6⟩ := HRel.write h hL hflat (id' := 0) (.inl rfl) ⟨e, 1, dr (ys.map iRow)⟩ (Go.Sort.putCells encI 0 ys.toArray cur) (w' := grow (putRow encI (Go.Sort.ahead w n) L0.blk 0 ys.toArray) os) (cap := L0.cap) (B := L0.blk) rfl ⟨rfl, drawn_rowI _ _ _ _ _⟩ rfl (size_rowI _ _ _ _ _)
    (fun b hb hne => heap_rowI _ _ _ _ _ hb hne) (.inl rfl) hbs hkm.symm hok.pos (by simp only [Go.Sort.putCells, Array.size_mapIdx]; rw [hcs]) (by simp [dr]; omega) hcap (fun _ => ⟨rfl, rfl⟩) (by
      intro i row hi
      have hil : i < ys.length := by have := (List.getElem?_eq_some_iff.1 hi).1; simpa [dr] using this
      have hrow : row = (iRow ys[i]).map AV.d := by
        have : (dr (ys.map iRow))[i]? = some ((iRow ys[i]).map AV.d) := by simp [dr, hil]
        rw [this] at hi; exact (Option.some.inj hi).symm
      subst hrow
      refine ⟨by simp [hkm], fun j av hj => ?_⟩
      have hj0 : j = 0 := by have := (List.getElem?_eq_some_iff.1 hj).1; simp at this; omega
      subst hj0
      have hav : av = .d (.int .i64 ys[i]) := by simpa using hj.symm
      subst hav
      refine ⟨encI ys[i], ?_, rfl, by simp only [RepA, RepD]⟩
      rw [hkm]
      have hic : i < cur.size := by omega
      simp only [Go.Sort.putCells, Nat.mul_one, Nat.add_zero, Array.getElem?_mapIdx, Array.getElem?_eq_getElem hic, Option.map_some]
      rw [if_pos ⟨Nat.zero_le _, by simp; omega⟩]
      have : ys.toArray[i - 0]! = ys[i] := by rw [Nat.sub_zero, getElem!_pos ys.toArray i (by simpa using hil)]; simp
      rw [this])
  refine ⟨_, g', rfl, ?_, ?_, h5, ?_⟩
  · have : (upd1 (upd1 (objL [(0, ⟨e, 1, dr (zs.map iRow)⟩)]) 0 none) 0 (some ⟨e, 1, dr (ys.map iRow)⟩)) = objL [(0, ⟨e, 1, dr (ys.map iRow)⟩)] := by
      funext x
      simp only [upd1, objL, find]
      by_cases hx : x = 0
      · subst hx; simp
      · have hx' : ¬ (0 = x) := fun h => hx h.symm
        simp [hx, hx']
    rw [← this]; exact h4
  · exact hrep g' _ ⟨L0.blk, L0.m, L0.cap, false, false⟩ (by rw [h2]; exact .inr rfl) h1 ⟨rfl, rfl⟩ hcapl
  · intro i j hij
    simp only [List.mem_cons, List.not_mem_nil, or_false, Prod.mk.injEq] at hij
    obtain ⟨rfl, rfl⟩ := hij
    rw [h1, hL]
    cases L0; simp_all

/-- .. one that leaves an empty row as it is. -/
theorem int_px0 {P : Program} {f : FuncId} (hent : Enters P f) (e : TypeId) (rv : Option Addr → Nat → Value) (rA : AV)
    (hrep : ∀ (g : G) (w : World) p c, RepA g w (.hs 0 0 0) (.slice p 0 c) → RepA g w rA (rv p c))
    (hc : ∀ p c (w : World), Calls P f #[.slice p 0 c] w fun e w' => e = .returned (rv p c) ∧ w' = w) :
    PX P f [.hs 0 0 0] [(0, ⟨e, 1, []⟩)] [(0, 0)] [(0, ⟨e, 1, []⟩)] rA := by
  refine ⟨hent, fun g w vs h hu hvs => ?_⟩
  simp only [RepAs] at hvs
  obtain ⟨v0, _, rfl, h0, rfl⟩ := hvs
  have h00 := h0
  obtain ⟨L0, hL, hok⟩ := h.own 0 ⟨e, 1, []⟩ (by simp [objL, find])
  simp only [RepA] at h0
  have e0 : ∃ p c, v0 = .slice p 0 c := by
    rcases h0.2 L0 hL with ⟨_, _, _, hv⟩ | ⟨_, _, hv⟩
    · exact ⟨_, _, hv⟩
    · exact ⟨_, _, hv⟩
  obtain ⟨p, c, rfl⟩ := e0
  refine (hc p c w).mono ?_
  rintro ex w' ⟨rfl, rfl⟩
  refine ⟨_, g, rfl, h, hrep _ _ _ _ h00, Step.refl g _, ?_⟩
  intro i j hij
  simp only [List.mem_cons, List.not_mem_nil, or_false, Prod.mk.injEq] at hij
  obtain ⟨rfl, rfl⟩ := hij
  rfl

/-- slices.Sort at numbers. -/
theorem sortI_px {P : Program} {ρ : Ren} (L : Lays.n189 P ρ) (hent : Enters P (ρ.f 189)) (e : TypeId) (zs : List Int) (hsz : zs.length < 4611686018427387904) :
    PX P (ρ.f 189) [.hs 0 0 zs.length] [(0, ⟨e, 1, dr (zs.map iRow)⟩)] [(0, 0)] [(0, ⟨e, 1, dr ((zs.mergeSort fun x y => decide (x ≤ y)).map iRow)⟩)] (.tup []) := by
  by_cases hn : 0 < zs.length
  · exact int_px hent e hn (List.length_mergeSort zs) (fun _ _ => .tuple #[]) (.tup []) (fun g w L _ _ _ _ => by simp only [RepA, RepAs]; exact ⟨[], rfl, rfl⟩)
      fun blk cap w hH hb _ => Any.slices_Sort_int L blk 0 cap zs w hH hb hsz
  · have : zs = [] := List.eq_nil_of_length_eq_zero (by omega)
    subst this
    have := int_px0 hent e (fun _ _ => .tuple #[]) (.tup []) (fun g w p c _ => by simp only [RepA, RepAs]; exact ⟨[], rfl, rfl⟩) fun p c w => Any.slices_Sort_int_none L p c w
    simpa [dr] using this

/-- slices.Compact at numbers. -/
theorem compactI_px {P : Program} {ρ : Ren} (L : Lays2.n20 P ρ) (hent : Enters P (ρ.f 20)) (e : TypeId) (zs : List Int) (hsz : zs.length ≤ 9223372036854775807) :
    PX P (ρ.f 20) [.hs 0 0 zs.length] [(0, ⟨e, 1, dr (zs.map iRow)⟩)] [(0, 0)] [(0, ⟨e, 1, dr ((Lib.compact zs ++ List.replicate (zs.length - (Lib.compact zs).length) 0).map iRow)⟩)] (.hs 0 0 (Lib.compact zs).length) := by
  have hle := Lib.compact_length_le zs
  by_cases hn : 0 < zs.length
  · refine int_px hent e hn (by simp; omega) (fun blk cap => .slice (some ⟨blk, 0, none⟩) (Lib.compact zs).length cap) (.hs 0 0 (Lib.compact zs).length) (fun g w L hu hL hv hcap => ?_) fun blk cap w hH hb hcap => ?_
    · have := rep_hs (L := L) (w := w) hu hL hv (len := (Lib.compact zs).length) (by omega)
      exact this
    · refine (Any.slices_Compact_int L blk 0 cap zs w hH hsz hcap).mono ?_
      rintro ex w' ⟨h1, q, h2⟩
      exact ⟨h1, q, #[], by rw [grow_empty]; exact h2⟩
  · have : zs = [] := List.eq_nil_of_length_eq_zero (by omega)
    subst this
    have := int_px0 hent e (fun p c => .slice p 0 c) (.hs 0 0 0) (fun g w p c h => h) fun p c w => Any.slices_Compact_int_empty L p c w
    have hc : Lib.compact ([] : List Int) = [] := rfl
    simpa [dr, hc] using this

/-- Of numbers in their order each once. -/
theorem compact_sorted {zs : List Int} (h : zs.Pairwise (· ≤ ·)) : (Lib.compact zs).Pairwise (· < ·) ∧ ∀ y, y ∈ Lib.compact zs ↔ y ∈ zs := by
  have key : ∀ m, m ≤ zs.length → (Lib.compactUpTo zs.toArray m).Pairwise (· < ·) ∧ (∀ y, y ∈ Lib.compactUpTo zs.toArray m ↔ y ∈ zs.take m) := by
    intro m
    induction m with
    | zero => intro _; simp [Lib.compactUpTo]
    | succ m ih =>
      intro hm
      obtain ⟨ih1, ih2⟩ := ih (by omega)
      have hlt : m < zs.length := by omega
      have hg : zs.toArray[m]! = zs[m] := by rw [getElem!_pos zs.toArray m (by simpa using hlt)]; simp
      have htk : zs.take (m + 1) = zs.take m ++ [zs[m]] := by rw [List.take_add_one, List.getElem?_eq_getElem hlt]; rfl
      rw [Lib.compactUpTo_succ, htk, hg]
      by_cases hk : Lib.keeps zs.toArray m = true
      · rw [if_pos hk]
        refine ⟨?_, fun y => by rw [List.mem_append, List.mem_append, ih2]⟩
        rw [List.pairwise_append]
        refine ⟨ih1, by simp, fun a ha b hb => ?_⟩
        simp at hb; subst hb
        rw [ih2] at ha
        obtain ⟨j, hj, rfl⟩ := List.mem_iff_getElem.1 ha
        have hjm : j < m := by simp at hj; omega
        rw [List.getElem_take]
        have hm0 : 0 < m := by omega
        have hg1 : zs.toArray[m - 1]! = zs[m - 1] := by rw [getElem!_pos zs.toArray (m - 1) (by simp; omega)]; simp
        simp only [Lib.keeps, hg, hg1, decide_eq_true_eq] at hk
        have h1 := List.pairwise_iff_getElem.1 h (m - 1) m (by omega) hlt (by omega)
        have h2 : zs[j] ≤ zs[m - 1] := by
          by_cases e : j = m - 1
          · subst e; exact Int.le_refl _
          · exact List.pairwise_iff_getElem.1 h j (m - 1) (by omega) (by omega) (by omega)
        have h3 : zs[m] ≠ zs[m - 1] := by rcases hk with hk | hk; omega; exact hk
        omega
      · rw [if_neg hk, List.append_nil]
        refine ⟨ih1, fun y => ?_⟩
        rw [ih2]
        simp only [Lib.keeps, decide_eq_true_eq] at hk
        have hm0 : m ≠ 0 := fun e => hk (.inl e)
        have hg1 : zs.toArray[m - 1]! = zs[m - 1] := by rw [getElem!_pos zs.toArray (m - 1) (by simp; omega)]; simp
        have he : zs[m] = zs[m - 1] := by
          apply Classical.byContradiction
          intro hne
          exact hk (.inr (by rw [hg, hg1]; exact hne))
        simp only [List.mem_append, List.mem_singleton]
        constructor
        · exact .inl
        · rintro (h1 | h1)
          · exact h1
          · rw [h1, he]
            exact List.mem_iff_getElem.2 ⟨m - 1, by simp; omega, by rw [List.getElem_take]⟩
  have := key zs.length (Nat.le_refl _)
  rw [List.take_length] at this
  exact this
end Go.Abs

set_option linter.unusedVariables false
set_option linter.unusedSimpArgs false
set_option maxRecDepth 100000
namespace Go.Proofs.YtknelhiejjdioaaGreat
open Go.Abs Go.Shelf

def sortInt_ren : Go.Shelf.Ren := ⟨fun | 189 => 70 | 125 => 83 | 257 => 101 | 128 => 122 | 129 => 123 | 294 => 135 | 295 => 136 | 296 => 137 | 297 => 138 | 298 => 139 | 299 => 140 | 216 => 141 | 300 => 142 | 301 => 143 | 328 => 158 | 329 => 148 | 330 => 149 | 331 => 159 | 332 => 160 | 215 => 134 | 343 => 165 | n => n, fun | 28 => 88 | 3 => 3 | 46 => 100 | 0 => 0 | 51 => 130 | 53 => 132 | 4 => 4 | 183 => 124 | 182 => 123 | 131 => 111 | 5 => 5 | 9 => 9 | 218 => 149 | 222 => 153 | 228 => 161 | 229 => 162 | n => n, fun n => n⟩
theorem sortInt_lays : Lays.n189 Tryz.prog sortInt_ren where
  mixed := by kernel_rfl
  f125 := Tryz.func83.trans (congrArg some (by kernel_rfl))
  f128 := Tryz.func122.trans (congrArg some (by kernel_rfl))
  f129 := Tryz.func123.trans (congrArg some (by kernel_rfl))
  f189 := Tryz.func70.trans (congrArg some (by kernel_rfl))
  f215 := Tryz.func134.trans (congrArg some (by kernel_rfl))
  f216 := Tryz.func141.trans (congrArg some (by kernel_rfl))
  f257 := Tryz.func101.trans (congrArg some (by kernel_rfl))
  f294 := Tryz.func135.trans (congrArg some (by kernel_rfl))
  f295 := Tryz.func136.trans (congrArg some (by kernel_rfl))
  f296 := Tryz.func137.trans (congrArg some (by kernel_rfl))
  f297 := Tryz.func138.trans (congrArg some (by kernel_rfl))
  f298 := Tryz.func139.trans (congrArg some (by kernel_rfl))
  f299 := Tryz.func140.trans (congrArg some (by kernel_rfl))
  f300 := Tryz.func142.trans (congrArg some (by kernel_rfl))
  f301 := Tryz.func143.trans (congrArg some (by kernel_rfl))
  f328 := Tryz.func158.trans (congrArg some (by kernel_rfl))
  f329 := Tryz.func148.trans (congrArg some (by kernel_rfl))
  f330 := Tryz.func149.trans (congrArg some (by kernel_rfl))
  f331 := Tryz.func159.trans (congrArg some (by kernel_rfl))
  f332 := Tryz.func160.trans (congrArg some (by kernel_rfl))
  f343 := Tryz.func165.trans (congrArg some (by kernel_rfl))
  t0 := Tryz.underlying0
  a0 := Tryz.isAgg0
  z0 := Tryz.sizeOf0
  v0 := Tryz.zeroValue0
  t3 := Tryz.underlying3
  a3 := Tryz.isAgg3
  z3 := Tryz.sizeOf3
  v3 := Tryz.zeroValue3
  t4 := Tryz.underlying4
  a4 := Tryz.isAgg4
  z4 := Tryz.sizeOf4
  v4 := Tryz.zeroValue4
  t5 := Tryz.underlying5
  a5 := Tryz.isAgg5
  z5 := Tryz.sizeOf5
  v5 := Tryz.zeroValue5
  t9 := Tryz.underlying9
  a9 := Tryz.isAgg9
  z9 := Tryz.sizeOf9
  v9 := Tryz.zeroValue9
  t28 := Tryz.underlying88
  a28 := Tryz.isAgg88
  z28 := Tryz.sizeOf88
  v28 := Tryz.zeroValue88
  t46 := Tryz.underlying100
  a46 := Tryz.isAgg100
  z46 := Tryz.sizeOf100
  v46 := Tryz.zeroValue100
  t51 := Tryz.underlying130
  a51 := Tryz.isAgg130
  z51 := Tryz.sizeOf130
  v51 := Tryz.zeroValue130
  t53 := Tryz.underlying132
  a53 := Tryz.isAgg132
  z53 := Tryz.sizeOf132
  v53 := Tryz.zeroValue132
  t131 := Tryz.underlying111
  a131 := Tryz.isAgg111
  z131 := Tryz.sizeOf111
  v131 := Tryz.zeroValue111
  t182 := Tryz.underlying123
  a182 := Tryz.isAgg123
  z182 := Tryz.sizeOf123
  v182 := Tryz.zeroValue123
  t183 := Tryz.underlying124
  a183 := Tryz.isAgg124
  z183 := Tryz.sizeOf124
  v183 := Tryz.zeroValue124
  t218 := Tryz.underlying149
  a218 := Tryz.isAgg149
  z218 := Tryz.sizeOf149
  v218 := Tryz.zeroValue149
  t222 := Tryz.underlying153
  a222 := Tryz.isAgg153
  z222 := Tryz.sizeOf153
  v222 := Tryz.zeroValue153
  t228 := Tryz.underlying161
  a228 := Tryz.isAgg161
  z228 := Tryz.sizeOf161
  v228 := Tryz.zeroValue161
  t229 := Tryz.underlying162
  a229 := Tryz.isAgg162
  z229 := Tryz.sizeOf162
  v229 := Tryz.zeroValue162
def compactInt_ren : Go.Shelf.Ren := ⟨fun | 20 => 71 | n => n, fun | 22 => 88 | 3 => 3 | 4 => 4 | 0 => 0 | n => n, fun n => n⟩
theorem compactInt_lays : Lays2.n20 Tryz.prog compactInt_ren where
  mixed := by kernel_rfl
  f20 := Tryz.func71.trans (congrArg some (by kernel_rfl))
  t0 := Tryz.underlying0
  a0 := Tryz.isAgg0
  z0 := Tryz.sizeOf0
  v0 := Tryz.zeroValue0
  t3 := Tryz.underlying3
  a3 := Tryz.isAgg3
  z3 := Tryz.sizeOf3
  v3 := Tryz.zeroValue3
  t4 := Tryz.underlying4
  a4 := Tryz.isAgg4
  z4 := Tryz.sizeOf4
  v4 := Tryz.zeroValue4
  t22 := Tryz.underlying88
  a22 := Tryz.isAgg88
  z22 := Tryz.sizeOf88
  v22 := Tryz.zeroValue88
  i3 := by kernel_rfl

theorem sortInts_px (l : List Int) (hl : l.length ≤ 1000000000) : PX Tryz.prog 70 [.hs 0 0 l.length] [(0, ⟨3, 1, dr (l.map iRow)⟩)] [(0, 0)] [(0, ⟨3, 1, dr ((l.mergeSort fun x y => decide (x ≤ y)).map iRow)⟩)] (.tup []) :=
  sortI_px sortInt_lays ⟨_, Tryz.func70, by kernel_rfl, by kernel_rfl⟩ 3 l (by omega)
theorem compactInts_px (l : List Int) (hl : l.length ≤ 1000000000) : PX Tryz.prog 71 [.hs 0 0 l.length] [(0, ⟨3, 1, dr (l.map iRow)⟩)] [(0, 0)] [(0, ⟨3, 1, dr ((Go.Lib.compact l ++ List.replicate (l.length - (Go.Lib.compact l).length) 0).map iRow)⟩)] (.hs 0 0 (Go.Lib.compact l).length) :=
  compactI_px compactInt_lays ⟨_, Tryz.func71, by kernel_rfl, by kernel_rfl⟩ 3 l (by omega)

theorem free_runs : ∀ l : List Run, D.freess (l.map Run.row) = true
  | [] => rfl
  | c :: l => by simp [D.freess, D.frees, D.free, free_runs l]
theorem cloneR_ok (l : List Run) (hl : l.length ≤ 100000000) : PC Tryz.prog 73 [encRuns l] (.f (encRuns l)) := by
  have h16 : l.length * 16 ≤ 140737488355328 := by omega
  refine pc_of_awp cx (fn := Tryz.f73) (c := _) Tryz.func73 rfl rfl (Nat.le_of_ble_eq_true rfl) ?_
  rw [Tryz.ntmps73]; refine Nav.imp ?_
  refine awp_region cx [] fun K hK => ?_
  simp [push_cast]
  repeat (refine And.intro (by clear hK; intros; first | omega | (simp_all; done) | (simp_all <;> omega)) ?_)
  refine hK _ ?_; clear hK K; refine Nav.imp ?_
  refine awp_region cx [] fun K hK => ?_
  simp [push_cast]
  repeat (refine And.intro (by clear hK; intros; first | omega | (simp_all; done) | (simp_all <;> omega)) ?_)
  refine hK _ ?_; clear hK K; refine Nav.imp ?_
  refine awp_ub 4 (by simp [push_cast]; exact ⟨rfl, rfl⟩) fun bu hu1 hu2 => ?_
  refine awp_cond (b := bu) (by simp [push_cast]) (fun hb => ?_) (fun hb => ?_) <;> (refine Nav.imp ?_)
  · have hl0 : l = [] := by simpa using hu1 hb
    subst hl0
    refine awp_region cx [] fun K hK => ?_
    simp [push_cast]
    repeat (refine And.intro (by clear hK; intros; first | omega | (simp_all; done) | (simp_all <;> omega)) ?_)
    refine hK _ ?_; clear hK K; refine Nav.imp ?_
    simp [push_cast]
  · refine awp_region cx [] fun K hK => ?_
    simp [push_cast, h16]
    repeat (refine And.intro (by clear hK; intros; first | omega | (simp_all; done) | (simp_all <;> omega)) ?_)
    refine hK _ ?_; clear hK K; refine Nav.imp ?_
    have ht : List.take l.length (l.map Run.row) = l.map Run.row := List.take_of_length_le (by simp)
    simp [push_cast, ht, free_runs]
end Go.Proofs.YtknelhiejjdioaaGreat

set_option linter.unusedVariables false
set_option linter.unusedSimpArgs false
set_option maxRecDepth 100000
namespace Go.Proofs.YtknelhiejjdioaaGreat
open Go.Abs

theorem take_flat_one' {α β : Type} {f : α → List β} (h : ∀ x, (f x).length ≤ 1) (l : List α) (k : Nat) : ((l.take k).flatMap f).length ≤ l.length := by
  have key : ∀ m : List α, (m.flatMap f).length ≤ m.length := by
    intro m
    induction m with
    | nil => simp
    | cons x m ih => have := h x; rw [List.flatMap_cons, List.length_append, List.length_cons]; omega
  have := key (l.take k)
  simp at this ⊢; omega
theorem swOut_len (now o : Bool) (out : List Run) (x : Int) : (swOut now o out x).length ≤ out.length + 1 := by
  unfold swOut
  split
  · simp
  · split
    · simp
      try omega
    · omega
theorem swF_len (f : Bool → Bool → Bool) (a b : List Run) : ∀ (n p q : Nat) (out : List Run) (o : Bool), (swF f a b n p q out o).length ≤ out.length + n
  | 0, _, _, out, _ => by simp [swF]
  | n + 1, p, q, out, o => by
    unfold swF
    split
    · omega
    · refine Nat.le_trans (swF_len f a b n _ _ _ _) ?_
      have := swOut_len (f (swP a (swX a b p q) p % 2 == 1) (swP b (swX a b p q) q % 2 == 1)) o out (swX a b p q)
      omega
theorem sweep_len (f : Bool → Bool → Bool) (a b : List Run) : (sweep f a b).length ≤ 2 * a.length + 2 * b.length := by
  unfold sweep
  split
  · simpa using swF_len f a b (2 * a.length + 2 * b.length) 0 0 [] false
  · simp
theorem rowOf_len {R : List Row} (hR : smallR R) (y : Int) : (rowOf R y).length ≤ 1000000 := by
  unfold rowOf
  split
  · rename_i w h; exact hR.2 w (List.mem_of_find?_eq_some h)
  · simp
theorem opRow_len (f : Bool → Bool → Bool) (a b : List Row) (y : Int) : (opRow f a b y).length ≤ 1 := by unfold opRow; split <;> simp
/-- The rows' numbers that the first k regions give. -/
def ysK (a b : List Row) (k : Nat) : List Int := if k = 0 then [] else if k = 1 then a.map Row.y else a.map Row.y ++ b.map Row.y

set_option maxHeartbeats 4000000 in
theorem combine_big (f : Bool → Bool → Bool) (hf : f false false = false) (g : FuncId) (hg : ∀ x y : List Run, x.length ≤ 1000000 → y.length ≤ 1000000 → rvalid x = true → rvalid y = true → PC Tryz.prog g [encRuns x, encRuns y] (.p (encRuns (sweep f x y)))) (a b : List Row) (hA : bigR a) (hB : bigR b) :
    PC Tryz.prog 39 [.agg (regRow a), .agg (regRow b), .fn (.func g) []] (.p (.agg (regRow (opR f a b)))) := by
  have c1 := valid_big a hA
  have c2 := valid_big b hB
  have hop : opR f a b = if validR a && validR b then opOn f a b (dedup (allY a b)) else [] := rfl
  cases ha : validR a with
  | false =>
    rw [ha] at c1
    have h0 : opR f a b = [] := by rw [hop, ha]; simp
    rw [h0]
    refine pc_of_awp cx (fn := Tryz.f39) (c := _) Tryz.func39 rfl rfl (Nat.le_of_ble_eq_true rfl) ?_
    rw [Tryz.ntmps39]; refine Nav.imp ?_
    refine awp_region cx [] fun K hK => ?_
    simp [push_cast]
    repeat (refine And.intro (by clear hK; intros; first | omega | (simp_all; done) | (simp_all <;> omega)) ?_)
    refine hK _ ?_; clear hK K; refine Nav.imp ?_
    refine awp_region cx [(1, .p (.bool false)), (5, .skip)] fun K hK => ?_
    simp [push_cast, c1]
    repeat (refine And.intro (by clear hK; intros; first | omega | (simp_all; done) | (simp_all <;> omega)) ?_)
    refine hK _ ?_; clear hK K; refine Nav.imp ?_
    refine awp_cond (b := true) (by simp [push_cast]) (fun hb => ?_) (fun hb => ?_) <;> (refine Nav.imp ?_)
    · refine awp_region cx [] fun K hK => ?_
      simp [push_cast]
      repeat (refine And.intro (by clear hK; intros; first | omega | (simp_all; done) | (simp_all <;> omega)) ?_)
      refine hK _ ?_; clear hK K; refine Nav.imp ?_
      simp [push_cast]
    · simp at hb
  | true =>
    rw [ha] at c1
    cases hb0 : validR b with
    | false =>
      rw [hb0] at c2
      have h0 : opR f a b = [] := by rw [hop, ha, hb0]; simp
      rw [h0]
      refine pc_of_awp cx (fn := Tryz.f39) (c := _) Tryz.func39 rfl rfl (Nat.le_of_ble_eq_true rfl) ?_
      rw [Tryz.ntmps39]; refine Nav.imp ?_
      refine awp_region cx [] fun K hK => ?_
      simp [push_cast]
      repeat (refine And.intro (by clear hK; intros; first | omega | (simp_all; done) | (simp_all <;> omega)) ?_)
      refine hK _ ?_; clear hK K; refine Nav.imp ?_
      refine awp_region cx [(1, .p (.bool true)), (5, .p (.bool false))] fun K hK => ?_
      simp [push_cast, c1, c2]
      repeat (refine And.intro (by clear hK; intros; first | omega | (simp_all; done) | (simp_all <;> omega)) ?_)
      refine hK _ ?_; clear hK K; refine Nav.imp ?_
      refine awp_cond (b := true) (by simp [push_cast]) (fun hb => ?_) (fun hb => ?_) <;> (refine Nav.imp ?_)
      · refine awp_region cx [] fun K hK => ?_
        simp [push_cast]
        repeat (refine And.intro (by clear hK; intros; first | omega | (simp_all; done) | (simp_all <;> omega)) ?_)
        refine hK _ ?_; clear hK K; refine Nav.imp ?_
        simp [push_cast]
      · simp at hb
    | true =>
      rw [hb0] at c2
      replace hA := small_valid ha
      replace hB := small_valid hb0
      have hal := hA.1
      have hbl := hB.1
      have hon := fun ys hp hys => @opR_on f hf a b ha hb0 ys hp hys
      clear hop
      generalize opR f a b = res at *
      refine pc_of_awp cx (fn := Tryz.f39) (c := _) Tryz.func39 rfl rfl (Nat.le_of_ble_eq_true rfl) ?_
      rw [Tryz.ntmps39]; refine Nav.imp ?_
      refine awp_region cx [] fun K hK => ?_
      simp [push_cast]
      repeat (refine And.intro (by clear hK; intros; first | omega | (simp_all; done) | (simp_all <;> omega)) ?_)
      refine hK _ ?_; clear hK K; refine Nav.imp ?_
      refine awp_region cx [(1, .p (.bool true)), (5, .p (.bool true))] fun K hK => ?_
      simp [push_cast, c1, c2]
      repeat (refine And.intro (by clear hK; intros; first | omega | (simp_all; done) | (simp_all <;> omega)) ?_)
      refine hK _ ?_; clear hK K; refine Nav.imp ?_
      refine awp_cond (b := false) (by simp [push_cast]) (fun hb => ?_) (fun hb => ?_) <;> (refine Nav.imp ?_)
      · simp at hb
      · refine awp_region cx [] fun K hK => ?_
        simp [push_cast]
        repeat (refine And.intro (by clear hK; intros; first | omega | (simp_all; done) | (simp_all <;> omega)) ?_)
        refine hK _ ?_; clear hK K; refine Nav.imp ?_
        refine awp_region cx [] fun K hK => ?_
        simp [push_cast]
        repeat (refine And.intro (by clear hK; intros; first | omega | (simp_all; done) | (simp_all <;> omega)) ?_)
        refine hK _ ?_; clear hK K; refine Nav.imp ?_
        refine awp_loop (β := Nat × List Int) (fun s => ⟨76, [(2, .d (.fn (.func g) [])), (3, .ptr 0 0 0), (4, .ptr 1 0 0), (6, .ptr 2 0 0), (7, .hs 3 0 s.2.length), (27, .d (.agg [encRows a, encRows b])), (28, .d (.int .i64 s.1))], [(0, some ⟨24, 1, [(regRow a).map .d]⟩), (1, some ⟨24, 1, [(regRow b).map .d]⟩), (2, some ⟨24, 1, [[.nl]]⟩), (3, some ⟨3, 1, dr (s.2.map iRow)⟩)], 4⟩) (fun s => s.1 ≤ 2 ∧ s.2 = ysK a b s.1) (fun s => 2 - s.1) (0, []) ?_ ⟨by simp only; omega, by simp [ysK]⟩ ?_
        · refine weak_of [(0, some 0), (1, some 1), (2, some 2), (3, none)] rfl (by simp [upT, up, upL, push_cast]) (by simp [upH, upR, upL, up, push_cast]) (by simp [namesOk, push_cast]) (by simp [olds])
        · rintro ⟨k, Y⟩ ⟨hk, hY⟩
          simp only at hk hY
          refine Nav.imp ?_
          have hYl : Y.length ≤ 2000000 := by
            rw [hY]; unfold ysK; split <;> (try split) <;> simp <;> omega
          by_cases hk2 : k < 2
          · obtain ⟨R, hR⟩ : ∃ R, R = if k = 0 then a else b := ⟨_, rfl⟩
            have hRl : R.length ≤ 1000000 := by rw [hR]; split <;> omega
            have hnx : ysK a b (k + 1) = Y ++ R.map Row.y := by
              rw [hY, hR]
              rcases (by omega : k = 0 ∨ k = 1) with rfl | rfl <;> simp [ysK]
            have hYK : Y.length + R.length ≤ 2000000 := by
              have : (Y ++ R.map Row.y).length ≤ a.length + b.length := by
                rw [← hnx]; unfold ysK; split <;> (try split) <;> simp <;> omega
              simp at this; omega
            have e0 := wrap_i64 (n := (k : Int) + 1) (by omega) (by omega)
            have hk2' : (k : Int) < 2 := by omega
            clear hY
            apply cut_
            · intro key
              rcases (by omega : k = 0 ∨ k = 1) with hk0 | hk0
              · have hR : R = a := by rw [hR, hk0]; rfl
                refine awp_region cx [] fun K hK => ?_
                simp [push_cast, hk0]
                repeat (refine And.intro (by clear hK; intros; first | omega | (simp_all; done) | (simp_all <;> omega)) ?_)
                refine hK _ ?_; clear hK K; refine Nav.imp ?_
                refine awp_cond (b := true) (by simp [push_cast, hk0]) (fun hb => ?_) (fun hb => ?_) <;> (refine Nav.imp ?_)
                · refine awp_region cx [] fun K hK => ?_
                  simp [push_cast, hk0]
                  repeat (refine And.intro (by clear hK; intros; first | omega | (simp_all; done) | (simp_all <;> omega)) ?_)
                  refine hK _ ?_; clear hK K; refine Nav.imp ?_
                  refine awp_weak (s' := ⟨76, [(2, .d (.fn (.func g) [])), (3, .ptr 0 0 0), (4, .ptr 1 0 0), (6, .ptr 2 0 0), (7, .hs 3 0 Y.length), (9, .ptr 4 0 0), (27, .d (.agg [encRows a, encRows b])), (28, .d (.int .i64 k))], [(0, some ⟨24, 1, [(regRow a).map .d]⟩), (1, some ⟨24, 1, [(regRow b).map .d]⟩), (2, some ⟨24, 1, [[.nl]]⟩), (3, some ⟨3, 1, dr (Y.map iRow)⟩), (4, some ⟨24, 1, [(regRow R).map .d]⟩)], 5⟩) ?_ key.h
                  refine weak_of [(0, some 0), (1, some 1), (2, some 2), (3, some 3), (4, some 6)] rfl (by simp [upT, up, upL, push_cast, hk0, hR]) (by simp [upH, upR, upL, up, push_cast, hk0, hR]) (by simp [namesOk, push_cast]) (by simp [olds])
                · simp at hb
              · have hR : R = b := by rw [hR, hk0]; rfl
                refine awp_region cx [] fun K hK => ?_
                simp [push_cast, hk0]
                repeat (refine And.intro (by clear hK; intros; first | omega | (simp_all; done) | (simp_all <;> omega)) ?_)
                refine hK _ ?_; clear hK K; refine Nav.imp ?_
                refine awp_cond (b := true) (by simp [push_cast, hk0]) (fun hb => ?_) (fun hb => ?_) <;> (refine Nav.imp ?_)
                · refine awp_region cx [] fun K hK => ?_
                  simp [push_cast, hk0]
                  repeat (refine And.intro (by clear hK; intros; first | omega | (simp_all; done) | (simp_all <;> omega)) ?_)
                  refine hK _ ?_; clear hK K; refine Nav.imp ?_
                  refine awp_weak (s' := ⟨76, [(2, .d (.fn (.func g) [])), (3, .ptr 0 0 0), (4, .ptr 1 0 0), (6, .ptr 2 0 0), (7, .hs 3 0 Y.length), (9, .ptr 4 0 0), (27, .d (.agg [encRows a, encRows b])), (28, .d (.int .i64 k))], [(0, some ⟨24, 1, [(regRow a).map .d]⟩), (1, some ⟨24, 1, [(regRow b).map .d]⟩), (2, some ⟨24, 1, [[.nl]]⟩), (3, some ⟨3, 1, dr (Y.map iRow)⟩), (4, some ⟨24, 1, [(regRow R).map .d]⟩)], 5⟩) ?_ key.h
                  refine weak_of [(0, some 0), (1, some 1), (2, some 2), (3, some 3), (4, some 6)] rfl (by simp [upT, up, upL, push_cast, hk0, hR]) (by simp [upH, upR, upL, up, push_cast, hk0, hR]) (by simp [namesOk, push_cast]) (by simp [olds])
                · simp at hb
            · refine Nav.imp ?_
              refine awp_region cx [] fun K hK => ?_
              simp [push_cast]
              repeat (refine And.intro (by clear hK; intros; first | omega | (simp_all; done) | (simp_all <;> omega)) ?_)
              refine hK _ ?_; clear hK K; refine Nav.imp ?_
              refine awp_loop (β := Nat × List Int) (fun s => ⟨76, [(2, .d (.fn (.func g) [])), (3, .ptr 0 0 0), (4, .ptr 1 0 0), (6, .ptr 2 0 0), (7, .hs 3 0 s.2.length), (27, .d (.agg [encRows a, encRows b])), (28, .d (.int .i64 k)), (32, .d (encRows R)), (33, .d (.int .i64 R.length)), (34, .d (.int .i64 s.1))], [(0, some ⟨24, 1, [(regRow a).map .d]⟩), (1, some ⟨24, 1, [(regRow b).map .d]⟩), (2, some ⟨24, 1, [[.nl]]⟩), (3, some ⟨3, 1, dr (s.2.map iRow)⟩)], 4⟩) (fun s => s.1 ≤ R.length ∧ s.2 = Y ++ (R.take s.1).map Row.y) (fun s => R.length - s.1) (0, Y) ?_ ⟨Nat.zero_le _, by simp⟩ ?_
              · refine weak_of [(0, some 0), (1, some 1), (2, some 2), (3, some 3)] rfl (by simp [upT, up, upL, push_cast]) (by simp [upH, upR, upL, up, push_cast]) (by simp [namesOk, push_cast]) (by simp [olds])
              · rintro ⟨j, Z⟩ ⟨hj, hZ⟩
                simp only at hj hZ
                refine Nav.imp ?_
                refine awp_region cx [] fun K hK => ?_
                simp [push_cast]
                repeat (refine And.intro (by clear hK; intros; first | omega | (simp_all; done) | (simp_all <;> omega)) ?_)
                refine hK _ ?_; clear hK K; refine Nav.imp ?_
                refine awp_cond (b := decide ((j : Int) < R.length)) (by simp [push_cast]) (fun hb => ?_) (fun hb => ?_) <;> (refine Nav.imp ?_)
                · have hjl : j < R.length := by simpa using hb
                  obtain ⟨w, hw⟩ := getq hjl
                  have e1 := wrap_i64 (n := (j : Int) + 1) (by omega) (by omega)
                  have hZl : Z.length ≤ 2000000 := by rw [hZ]; simp; omega
                  have hZ8 : (Z.length + 1) * 8 ≤ 140737488355328 := by omega
                  have hnz : Y ++ (R.take (j + 1)).map Row.y = Z ++ [w.y] := by rw [take_get hw, List.map_append, hZ]; simp
                  obtain ⟨wy, wr⟩ := w
                  simp only at hnz
                  refine awp_region cx [] fun K hK => ?_
                  simp [push_cast, hw, Row.row]
                  repeat (refine And.intro (by clear hK; intros; first | omega | (simp_all; done) | (simp_all <;> omega)) ?_)
                  refine hK _ ?_; clear hK K; refine Nav.imp ?_
                  refine awp_region cx [] fun K hK => ?_
                  simp [push_cast, hZ8, Row.row]
                  repeat (refine And.intro (by clear hK; intros; first | omega | (simp_all; done) | (simp_all <;> omega)) ?_)
                  refine hK _ ?_; clear hK K; refine Nav.imp ?_
                  refine awp_region cx [] fun K hK => ?_
                  simp [push_cast, e1]
                  repeat (refine And.intro (by clear hK; intros; first | omega | (simp_all; done) | (simp_all <;> omega)) ?_)
                  refine hK _ ?_; clear hK K; refine Nav.imp ?_
                  refine ⟨(j + 1, Z ++ [wy]), ⟨hjl, hnz.symm⟩, by simp only; omega, ?_⟩
                  refine weak_of [(0, some 0), (1, some 1), (2, some 2), (3, some 13)] rfl (by simp [upT, up, upL, push_cast]) (by simp [upH, upR, upL, up, push_cast]) (by simp [namesOk, push_cast]) (by simp [olds])
                · have hjn : j = R.length := by simp at hb; omega
                  subst hjn
                  rw [List.take_length, ← hnx] at hZ
                  refine awp_region cx [] fun K hK => ?_
                  simp [push_cast, e0]
                  repeat (refine And.intro (by clear hK; intros; first | omega | (simp_all; done) | (simp_all <;> omega)) ?_)
                  refine hK _ ?_; clear hK K; refine Nav.imp ?_
                  refine ⟨(k + 1, Z), ⟨by simp only; omega, hZ⟩, by simp only; omega, ?_⟩
                  refine weak_of [(0, some 0), (1, some 1), (2, some 2), (3, some 3)] rfl (by simp [upT, up, upL, push_cast]) (by simp [upH, upR, upL, up, push_cast]) (by simp [namesOk, push_cast]) (by simp [olds])
          · have hk2 : k = 2 := by omega
            subst hk2
            have hY : Y = a.map Row.y ++ b.map Row.y := by rw [hY]; simp [ysK]
            have d1 := sortInts_px Y (by omega)
            have hsrt : (Y.mergeSort fun x y => decide (x ≤ y)) = allY a b := by rw [hY]; rfl
            rw [hsrt] at d1
            have hsl : (allY a b).length = Y.length := by rw [← hsrt]; exact List.length_mergeSort Y
            have d2 := compactInts_px (allY a b) (by omega)
            obtain ⟨q1, q2⟩ := compact_sorted (allY_le a b)
            have hcl := Go.Lib.compact_length_le (allY a b)
            have hres := hon (Go.Lib.compact (allY a b)) q1 (fun w hw => by
              rw [q2, (allY_perm a b).mem_iff, List.mem_append]
              rcases hw with h | h
              · exact .inl (List.mem_map_of_mem h)
              · exact .inr (List.mem_map_of_mem h))
            clear hon q1 q2 hsrt hY
            generalize allY a b = S at *
            generalize hC : Go.Lib.compact S = C at *
            generalize hZs : List.replicate (S.length - C.length) (0 : Int) = Zs at *
            have htk : List.take C.length ((C ++ Zs).map iRow) = C.map iRow := by rw [List.map_append, List.take_left' (by simp)]
            have hCl : C.length ≤ 2000000 := by omega
            have hCle : C.length ≤ (C ++ Zs).length := by simp
            generalize hE : C ++ Zs = E at *
            refine awp_region cx [] fun K hK => ?_
            simp [push_cast]
            repeat (refine And.intro (by clear hK; intros; first | omega | (simp_all; done) | (simp_all <;> omega)) ?_)
            refine hK _ ?_; clear hK K; refine Nav.imp ?_
            refine awp_cond (b := false) (by simp [push_cast]) (fun hb => ?_) (fun hb => ?_) <;> (refine Nav.imp ?_)
            · simp at hb
            · refine awp_region cx [(1, .x ⟨[(0, 3)], [.hs 0 0 Y.length], [(0, ⟨3, 1, dr (Y.map iRow)⟩)], [(0, 0)], none, [(0, ⟨3, 1, dr (S.map iRow)⟩)], .tup []⟩)] fun K hK => ?_
              simp [push_cast, d1]
              repeat (refine And.intro (by clear hK; intros; first | omega | (simp_all; done) | (simp_all <;> omega)) ?_)
              refine hK _ ?_; clear hK K; refine Nav.imp ?_
              rw [← hsl]
              refine awp_region cx [] fun K hK => ?_
              simp [push_cast]
              repeat (refine And.intro (by clear hK; intros; first | omega | (simp_all; done) | (simp_all <;> omega)) ?_)
              refine hK _ ?_; clear hK K; refine Nav.imp ?_
              refine awp_region cx [(1, .x ⟨[(0, 3)], [.hs 0 0 S.length], [(0, ⟨3, 1, dr (S.map iRow)⟩)], [(0, 0)], none, [(0, ⟨3, 1, dr (E.map iRow)⟩)], .hs 0 0 C.length⟩)] fun K hK => ?_
              simp [push_cast, d2]
              repeat (refine And.intro (by clear hK; intros; first | omega | (simp_all; done) | (simp_all <;> omega)) ?_)
              refine hK _ ?_; clear hK K; refine Nav.imp ?_
              refine awp_freeze 3 (E.map iRow) rfl (by simp [push_cast, htk]) fun K hK => ?_
              simp [push_cast, St.fz, fzT, fzH, fzO, fz, fzL, fzR, fzR_dr, fzR_app, fzR_set, fzL_map, htk]
              refine hK _ ?_; clear hK K; refine Nav.imp ?_
              refine awp_loop (β := Nat × List Row) (fun s => ⟨76, [(2, .d (.fn (.func g) [])), (3, .ptr 0 0 0), (4, .ptr 1 0 0), (6, .ptr 2 0 0), (12, .ptr 3 0 0), (48, .d (.sl (C.map iRow))), (49, .d (.int .i64 C.length)), (50, .d (.int .i64 s.1))], [(0, some ⟨24, 1, [(regRow a).map .d]⟩), (1, some ⟨24, 1, [(regRow b).map .d]⟩), (2, some ⟨24, 1, [[.nl]]⟩), (3, some ⟨24, 1, [[.hs 4 0 s.2.length]]⟩), (4, some ⟨40, 2, dr (s.2.map Row.row)⟩)], 5⟩) (fun s => s.1 ≤ C.length ∧ s.2 = opOn f a b (C.take s.1)) (fun s => C.length - s.1) (0, []) ?_ ⟨Nat.zero_le _, by simp [opOn]⟩ ?_
              · refine weak_of [(0, some 0), (1, some 1), (2, some 2), (3, some 7), (4, none)] rfl (by simp [upT, up, upL, push_cast, hCle]) (by simp [upH, upR, upL, up, push_cast, hCle]) (by simp [namesOk, push_cast]) (by simp [olds])
              · rintro ⟨k, Z⟩ ⟨hk, hZ⟩
                simp only at hk hZ
                refine Nav.imp ?_
                refine awp_region cx [] fun K hK => ?_
                simp [push_cast]
                repeat (refine And.intro (by clear hK; intros; first | omega | (simp_all; done) | (simp_all <;> omega)) ?_)
                refine hK _ ?_; clear hK K; refine Nav.imp ?_
                refine awp_cond (b := decide ((k : Int) < C.length)) (by simp [push_cast]) (fun hb => ?_) (fun hb => ?_) <;> (refine Nav.imp ?_)
                · have hlt : k < C.length := by simpa using hb
                  obtain ⟨y, hy⟩ := getq hlt
                  have e0 := wrap_i64 (n := (k : Int) + 1) (by omega) (by omega)
                  have hnx : opOn f a b (C.take (k + 1)) = Z ++ opRow f a b y := by rw [hZ]; unfold opOn; rw [flat_take _ hy]
                  have hZl : Z.length ≤ 2000000 := by
                    have : Z.length ≤ C.length := by rw [hZ]; exact take_flat_one' (opRow_len f a b) C k
                    omega
                  have hZ32 : (Z.length + 1) * 32 ≤ 140737488355328 := by omega
                  have g1 := row_ok a y hA ha
                  have g2 := row_ok b y hB hb0
                  have g3 := hg (rowOf a y) (rowOf b y) (rowOf_len hA y) (rowOf_len hB y) (rowOf_rv ha y) (rowOf_rv hb0 y)
                  have hl1 := rowOf_len hA y
                  have hl2 := rowOf_len hB y
                  have hsl2 := sweep_len f (rowOf a y) (rowOf b y)
                  have g4 := cloneR_ok (sweep f (rowOf a y) (rowOf b y)) (by omega)
                  have hor : opRow f a b y = if sweep f (rowOf a y) (rowOf b y) = [] then [] else [⟨y, sweep f (rowOf a y) (rowOf b y)⟩] := rfl
                  rw [hor] at hnx
                  clear hor hl1 hl2 hsl2
                  generalize sweep f (rowOf a y) (rowOf b y) = r at *
                  generalize rowOf a y = ra at *
                  generalize rowOf b y = rb at *
                  refine awp_region cx [] fun K hK => ?_
                  simp [push_cast, hy]
                  repeat (refine And.intro (by clear hK; intros; first | omega | (simp_all; done) | (simp_all <;> omega)) ?_)
                  refine hK _ ?_; clear hK K; refine Nav.imp ?_
                  refine awp_region_draw cx mixed [(3, .p (encRuns ra)), (6, .p (encRuns rb)), (7, .p (encRuns r))] fun K hK => ?_
                  simp [push_cast, g1, g2, g3]
                  repeat (refine And.intro (by clear hK; intros; first | omega | (simp_all; done) | (simp_all <;> omega)) ?_)
                  refine hK _ _ (by kernel_rfl) ?_; clear hK K; refine Nav.imp ?_
                  refine awp_region cx [] fun K hK => ?_
                  simp [push_cast]
                  repeat (refine And.intro (by clear hK; intros; first | omega | (simp_all; done) | (simp_all <;> omega)) ?_)
                  refine hK _ ?_; clear hK K; refine Nav.imp ?_
                  refine awp_cond (b := decide (0 < (r.length : Int))) (by simp [push_cast]) (fun hb => ?_) (fun hb => ?_) <;> (refine Nav.imp ?_)
                  · have hb : 0 < r.length := by simp at hb; omega
                    have hne : r ≠ [] := List.length_pos_iff.1 hb
                    rw [if_neg hne] at hnx
                    refine awp_region_draw cx mixed [(4, .f (encRuns r))] fun K hK => ?_
                    simp [push_cast, g4, hZ32]
                    repeat (refine And.intro (by clear hK; intros; first | omega | (simp_all; done) | (simp_all <;> omega)) ?_)
                    refine hK _ _ (by kernel_rfl) ?_; clear hK K; refine Nav.imp ?_
                    refine awp_region cx [] fun K hK => ?_
                    simp [push_cast, e0]
                    repeat (refine And.intro (by clear hK; intros; first | omega | (simp_all; done) | (simp_all <;> omega)) ?_)
                    refine hK _ ?_; clear hK K; refine Nav.imp ?_
                    refine ⟨(k + 1, Z ++ [⟨y, r⟩]), ⟨hlt, hnx.symm⟩, by simp only; omega, ?_⟩
                    refine weak_of [(0, some 0), (1, some 1), (2, some 2), (3, some 3), (4, some 28)] rfl (by simp [upT, up, upL, push_cast, Row.row]) (by simp [upH, upR, upL, up, push_cast, Row.row]) (by simp [namesOk, push_cast]) (by simp [olds])
                  · have hb : r = [] := by simpa using hb
                    rw [if_pos hb, List.append_nil] at hnx
                    refine awp_region cx [] fun K hK => ?_
                    simp [push_cast, e0]
                    repeat (refine And.intro (by clear hK; intros; first | omega | (simp_all; done) | (simp_all <;> omega)) ?_)
                    refine hK _ ?_; clear hK K; refine Nav.imp ?_
                    refine ⟨(k + 1, Z), ⟨hlt, hnx.symm⟩, by simp only; omega, ?_⟩
                    refine weak_of [(0, some 0), (1, some 1), (2, some 2), (3, some 3), (4, some 4)] rfl (by simp [upT, up, upL, push_cast, Row.row]) (by simp [upH, upR, upL, up, push_cast, Row.row]) (by simp [namesOk, push_cast]) (by simp [olds])
                · have hge : k = C.length := by simp at hb; omega
                  subst hge
                  rw [List.take_length, hres] at hZ
                  subst hZ
                  refine awp_freeze 4 (Z.map Row.row) rfl (by simp [push_cast, Row.row]) fun K hK => ?_
                  simp [push_cast, St.fz, fzT, fzH, fzO, fz, fzL, fzR, fzR_dr, fzR_app, fzR_set, fzL_map, Row.row]
                  refine hK _ ?_; clear hK K; refine Nav.imp ?_
                  refine awp_region cx [] fun K hK => ?_
                  simp [push_cast]
                  repeat (refine And.intro (by clear hK; intros; first | omega | (simp_all; done) | (simp_all <;> omega)) ?_)
                  refine hK _ ?_; clear hK K; refine Nav.imp ?_
                  simp [push_cast]


theorem intersectR_big (a b : List Row) (hA : bigR a) (hB : bigR b) : PC Tryz.prog 85 [.agg (regRow a), .agg (regRow b)] (.p (.agg (regRow (opR fI a b)))) := by
  have c1 := combine_big fI rfl 68 (fun x y h1 h2 h3 h4 => intersect_ok x y h1 h2 h3 h4) a b hA hB
  generalize opR fI a b = r at *
  refine pc_of_awp cx (fn := Tryz.f85) (c := _) Tryz.func85 rfl rfl (Nat.le_of_ble_eq_true rfl) ?_
  rw [Tryz.ntmps85]; refine Nav.imp ?_
  refine awp_region cx [] fun K hK => ?_
  simp [push_cast]
  repeat (refine And.intro (by clear hK; intros; first | omega | (simp_all; done) | (simp_all <;> omega)) ?_)
  refine hK _ ?_; clear hK K; refine Nav.imp ?_
  refine awp_region cx [(2, .p (.agg (regRow r)))] fun K hK => ?_
  simp [push_cast, c1]
  repeat (refine And.intro (by clear hK; intros; first | omega | (simp_all; done) | (simp_all <;> omega)) ?_)
  refine hK _ ?_; clear hK K; refine Nav.imp ?_
  simp [push_cast]
theorem subtractR_big (a b : List Row) (hA : bigR a) (hB : bigR b) : PC Tryz.prog 22 [.agg (regRow a), .agg (regRow b)] (.p (.agg (regRow (opR fD a b)))) := by
  have c1 := combine_big fD rfl 40 (fun x y h1 h2 h3 h4 => subtract_ok x y h1 h2 h3 h4) a b hA hB
  generalize opR fD a b = r at *
  refine pc_of_awp cx (fn := Tryz.f22) (c := _) Tryz.func22 rfl rfl (Nat.le_of_ble_eq_true rfl) ?_
  rw [Tryz.ntmps22]; refine Nav.imp ?_
  refine awp_region cx [] fun K hK => ?_
  simp [push_cast]
  repeat (refine And.intro (by clear hK; intros; first | omega | (simp_all; done) | (simp_all <;> omega)) ?_)
  refine hK _ ?_; clear hK K; refine Nav.imp ?_
  refine awp_region cx [(2, .p (.agg (regRow r)))] fun K hK => ?_
  simp [push_cast, c1]
  repeat (refine And.intro (by clear hK; intros; first | omega | (simp_all; done) | (simp_all <;> omega)) ?_)
  refine hK _ ?_; clear hK K; refine Nav.imp ?_
  simp [push_cast]

theorem intersectR_ok (a b : List Row) (hA : smallR a) (hB : smallR b) : PC Tryz.prog 85 [.agg (regRow a), .agg (regRow b)] (.p (.agg (regRow (opR fI a b)))) := intersectR_big a b (big_of hA) (big_of hB)
theorem subtractR_ok (a b : List Row) (hA : smallR a) (hB : smallR b) : PC Tryz.prog 22 [.agg (regRow a), .agg (regRow b)] (.p (.agg (regRow (opR fD a b)))) := subtractR_big a b (big_of hA) (big_of hB)
end Go.Proofs.YtknelhiejjdioaaGreat

set_option linter.unusedVariables false
set_option linter.unusedSimpArgs false
namespace Go.Abs

def effY (P : Program) (f : FuncId) (c : XC) (ti : List (Nat × Nat)) (obj : Nat → Option Ob) (args : List AV) : Eff :=
  { val := dn (swp ti) c.r, wr := gone c.σ ++ back (swp ti) c.hp' ti,
    ob := (rnsOk c.σ c.as args ∧ hpOk obj c.σ c.hp ∧ nodupB (c.σ.map (·.2)) = true ∧ c.σ.map (·.1) = c.hp.map (·.1) ∧ nodupB (ti.map (·.1)) = true ∧ nodupB (ti.map (·.2)) = true) ∧ PX P f c.as c.hp c.pin c.hp' c.r }

/-- What a call leaves that makes objects with the names N. -/
def AfterN (g : G) (obj : Nat → Option Ob) (w : World) (N : Nat → Prop) (e : Eff) (v : Value) (w' : World) : Prop :=
  ∃ g', HRel g' (updL obj e.wr) w' ∧ Step g w g' w' ∧ Later g w g' w' ∧ (∀ k, g'.used k → g.used k ∨ N k) ∧ RepA g' w' e.val v

theorem y_sound {P : Program} {f : FuncId} {g : G} {obj : Nat → Option Ob} {w : World} (h : HRel g obj w) {c : XC} {ti : List (Nat × Nat)} {N : Nat → Prop} (hid : ∀ x, N x → ¬ g.used x) (hti : ∀ x j, find ti x = some j → N x ∨ ∃ i, (i, j) ∈ c.pin ∧ find c.σ i = some x) {args : List AV} {us : List Value} (hargs : RepAs g w args us) (hob : (effY P f c ti obj args).ob) :
    Calls P f us.toArray w fun e w' => ∃ v, e = .returned v ∧ AfterN g obj w N (effY P f c ti obj args) v w' := by
  obtain ⟨⟨ha, hhp, hσ0, hdom, ht10, ht20⟩, _, hpx⟩ := hob
  have hσ := nodup_of hσ0
  have ht1 := nodup_of ht10
  have ht2 := nodup_of ht20
  have hin : ∀ {i x}, find c.σ i = some x → (find c.hp i).isSome = true := fun {i x} hi => by
    have := find_key hi
    rw [hdom] at this
    obtain ⟨v, hv⟩ := find_some_of_key this
    rw [hv]; rfl
  let g0 : G := via g c.σ c.hp
  have hloc0 : ∀ i x, find c.σ i = some x → g0.loc i = g.loc x := fun i x hi => via_loc hi
  have hused0 : ∀ i x, find c.σ i = some x → g0.used i := fun i x hi => hin hi
  have hl0 : ∀ i L, g0.loc i = some L → ∃ x, find c.σ i = some x ∧ g.loc x = some L := fun i L hL => via_loc' hL
  have hH0 : HRel g0 (objL c.hp) w := via_rel h hhp hσ hdom
  refine (hpx g0 w us hH0 (fun _ hk => hk) (rnsOk_rep hused0 hloc0 (fun _ hb => hb) ha hargs)).mono fun e w' ⟨v, g1, he, hH1, hr1, hs1, hp1⟩ => ⟨v, he, ?_⟩
  have hown0 : ∀ b, g0.owns b → ∃ x, x ∈ c.σ.map (·.2) ∧ ∃ L, g.loc x = some L ∧ L.virt = false ∧ L.blk = b := by
    rintro b ⟨i, L, hL, hv, hb⟩
    obtain ⟨x, h1, h2⟩ := hl0 i L hL
    exact ⟨x, find_val h1, L, h2, hv, hb⟩
  have hkeep : ∀ x L, x ∉ c.σ.map (·.2) → g.loc x = some L → L.virt = false → ¬ g0.owns L.blk := by
    rintro x L hx hL hv ho
    obtain ⟨y, hy, M, hM, hvM, hb⟩ := hown0 _ ho
    have := h.inj y x M L hM hL hvM hv hb
    exact hx (this ▸ hy)
  let g2 : G := ⟨g1.ro, fun x => match find ti x with | some j => g1.loc j | none => if x ∈ c.σ.map (·.2) then none else g.loc x, fun x => g.used x ∨ find ti x ≠ none⟩
  have hg2t : ∀ x j, find ti x = some j → g2.loc x = g1.loc j := fun x j hx => by simp only [g2, hx]
  have hg2n : ∀ x, find ti x = none → g2.loc x = if x ∈ c.σ.map (·.2) then none else g.loc x := fun x hx => by simp only [g2, hx]
  have hτ : ∀ i x, find (swp ti) i = some x → find ti x = some i := fun i x hi => swp_find ht1 ht2 hi
  have hlater : Later g w g2 w' := by
    refine ⟨fun b hb => ⟨hs1.ro b hb, ?_⟩, fun x hx => .inl hx, fun x hx => ?_⟩
    · refine hs1.block b (h.ro b hb) fun ho => ?_
      obtain ⟨y, hy, M, hM, hvM, hbb⟩ := hown0 b ho
      exact ((h.live y M hM).2 hvM).2 (hbb ▸ hb)
    · cases hf : find ti x with
      | none =>
        rw [hg2n x hf]
        split
        · exact .inr rfl
        · exact .inl rfl
      | some j =>
        rcases hti x j hf with hN | ⟨i, h1, h2⟩
        · exact absurd hx (hid x hN)
        · left
          rw [hg2t x j hf, hp1 i j h1, hloc0 i x h2]
  have hobj2 : ∀ x, updL obj (effY P f c ti obj args).wr x = match find ti x with
      | some j => (find c.hp' j).map fun o => ⟨o.elem, o.m, dnR (swp ti) o.rows⟩
      | none => if x ∈ c.σ.map (·.2) then none else obj x := by
    intro x
    simp only [effY]
    rw [updL_append, updL_get (by rw [back_keys]; exact ht1), updL_get (by rw [gone_keys]; exact hσ), back_find, gone_find]
    cases find ti x with
    | some j => rfl
    | none => simp only [Option.map_none, Option.getD_none]; split <;> rfl
  refine ⟨g2, ⟨?_, ?_, ?_, ?_, hH1.ro⟩, ?_, hlater, ?_, ?_⟩
  · intro x o ho
    rw [hobj2] at ho
    cases hf : find ti x with
    | some j =>
      rw [hf] at ho
      simp only [Option.map_eq_some_iff] at ho
      obtain ⟨o1, ho1, rfl⟩ := ho
      obtain ⟨L, hL, hok⟩ := hH1.own j o1 ho1
      refine ⟨L, by rw [hg2t x j hf]; exact hL, hok.m, hok.pos, by simpa only [dnR_length] using hok.len, fun hv => by simp [hok.virt hv, dnR], fun hv => ?_, fun hv => ⟨(hok.ents hv).1, (hok.ents hv).2.imp fun es he => he.imp fun clock he => ⟨he.1, he.2.1, dnR_ents (fun i y hy => Or.inr (by rw [hτ i y hy]; simp)) (fun i y hy => hg2t y i (hτ i y hy)) (fun _ hb => hb) _ _ he.2.2⟩⟩⟩
      obtain ⟨cur, c1, c2, c3, c5⟩ := hok.cells hv
      refine ⟨cur, c1, c2, c3, fun k row hi => ?_⟩
      obtain ⟨r0, hr0, rfl⟩ := dnR_get _ _ k row hi
      obtain ⟨d1, d2⟩ := c5 k r0 hr0
      refine ⟨by rw [dnL_length]; exact d1, fun q av hq => ?_⟩
      obtain ⟨a0, ha0, rfl⟩ := dnL_get _ _ q av hq
      obtain ⟨u, q1, q2, q3⟩ := d2 q a0 ha0
      exact ⟨u, q1, q2, dn_rep (fun i y hy => Or.inr (by rw [hτ i y hy]; simp)) (fun i y hy => hg2t y i (hτ i y hy)) (fun _ hb => hb) _ _ q3⟩
    | none =>
      rw [hf] at ho
      simp only at ho
      split at ho
      · cases ho
      · rename_i hx
        obtain ⟨L, hL, hok⟩ := h.own x o ho
        exact ⟨L, by rw [hg2n x hf, if_neg hx]; exact hL, hok.later hlater fun hv => hs1.block _ ((h.live x L hL).2 hv).1 (hkeep x L hx hL hv)⟩
  · intro x hx
    rw [hobj2] at hx
    cases hf : find ti x with
    | some j =>
      rw [hf] at hx
      rw [hg2t x j hf]
      simp only [Option.map_eq_none_iff] at hx
      exact hH1.gone j hx
    | none =>
      rw [hf] at hx
      simp only at hx
      rw [hg2n x hf]
      split
      · rfl
      · rename_i hn; rw [if_neg hn] at hx; exact h.gone x hx
  · intro x L hL
    cases hf : find ti x with
    | some j =>
      rw [hg2t x j hf] at hL
      exact ⟨.inr (by rw [hf]; simp), (hH1.live j L hL).2⟩
    | none =>
      rw [hg2n x hf] at hL
      split at hL
      · cases hL
      · rename_i hx
        refine ⟨.inl (h.live x L hL).1, fun hv => ⟨Nat.lt_of_lt_of_le ((h.live x L hL).2 hv).1 hs1.size, fun hro => ?_⟩⟩
        rcases hs1.ro' _ hro with h1 | h1 | h1
        · exact ((h.live x L hL).2 hv).2 h1
        · have := ((h.live x L hL).2 hv).1; omega
        · exact hkeep x L hx hL hv h1
  · intro x y L L' hL hL' hv hv' hb
    have mix : ∀ x y L L', (∃ j, find ti x = some j) → find ti y = none → g2.loc x = some L → g2.loc y = some L' → L.virt = false → L'.virt = false → L.blk = L'.blk → False := by
      rintro x y L L' ⟨j, hx⟩ hy hL hL' hv hv' hb
      rw [hg2t x j hx] at hL
      rw [hg2n y hy] at hL'
      split at hL'
      · cases hL'
      · rename_i hny
        rcases hs1.own L.blk ⟨j, L, hL, hv, rfl⟩ with h1 | h1
        · have := ((h.live y L' hL').2 hv').1; omega
        · exact hkeep y L' hny hL' hv' (hb ▸ h1)
    cases hx : find ti x with
    | some j =>
      cases hy : find ti y with
      | some k =>
        rw [hg2t x j hx] at hL
        rw [hg2t y k hy] at hL'
        have := hH1.inj j k L L' hL hL' hv hv' hb
        subst this
        exact find_inj2 ht2 hx hy
      | none => exact (mix x y L L' ⟨j, hx⟩ hy hL hL' hv hv' hb).elim
    | none =>
      cases hy : find ti y with
      | some k => exact (mix y x L' L ⟨k, hy⟩ hx hL' hL hv' hv hb.symm).elim
      | none =>
        rw [hg2n x hx] at hL
        rw [hg2n y hy] at hL'
        split at hL
        · cases hL
        · split at hL'
          · cases hL'
          · exact h.inj x y L L' hL hL' hv hv' hb
  · refine ⟨hs1.os, hs1.tape, hs1.output, hs1.size, fun b hb hn => hs1.block b hb fun ho => hn ?_, ?_, fun b hb => hs1.ro b hb, fun b hb => ?_⟩
    · obtain ⟨x, _, L, h1, h2, h3⟩ := hown0 b ho
      exact ⟨x, L, h1, h2, h3⟩
    · rintro b ⟨x, L, hL, hv, hb⟩
      cases hf : find ti x with
      | some j =>
        rw [hg2t x j hf] at hL
        rcases hs1.own b ⟨j, L, hL, hv, hb⟩ with h1 | h1
        · exact .inl h1
        · obtain ⟨y, _, M, q1, q2, q3⟩ := hown0 b h1
          exact .inr ⟨y, M, q1, q2, q3⟩
      | none =>
        rw [hg2n x hf] at hL
        split at hL
        · cases hL
        · exact .inr ⟨x, L, hL, hv, hb⟩
    · rcases hs1.ro' b hb with h1 | h1 | h1
      · exact .inl h1
      · exact .inr (.inl h1)
      · obtain ⟨y, _, M, q1, q2, q3⟩ := hown0 b h1
        exact .inr (.inr ⟨y, M, q1, q2, q3⟩)
  · intro k hk
    rcases hk with hk | hk
    · exact .inl hk
    · cases hf : find ti k with
      | none => exact absurd hf hk
      | some j =>
        rcases hti k j hf with hN | ⟨i, h1, h2⟩
        · exact .inr hN
        · have h3 := hin h2
          obtain ⟨o, ho⟩ := Option.isSome_iff_exists.1 h3
          obtain ⟨x', o', q1, q2, _⟩ := hpOk_find hhp i o ho
          rw [h2] at q1
          cases q1
          obtain ⟨L, hL, _⟩ := h.own k o' q2
          exact .inl (h.live k L hL).1
  · exact dn_rep (fun i y hy => Or.inr (by rw [hτ i y hy]; simp)) (fun i y hy => hg2t y i (hτ i y hy)) (fun _ hb => hb) _ _ hr1

theorem wpT_sound2 {P : Program} {ty : TypeId → Option TI} (hc : Ctx P ty) {orc : List (Nat × Res)} {gs : List (Option Tmp)} {ops : Array Oper} (hgs : ∀ j : Nat, gs[j]? = (ops[j]?).map fun o : Oper => o.dst) {base nxt : Nat} {Q : Exit → Act → World → Prop} {K : St → Prop} {g0 : G} {w0 : World}
    {l2 : List Oper} {en n0 : Nat} (hQ : ∀ s g a w, s.nxt = nxt → s.n = n0 → Rel (· < base + en) g s.get s.obj s.n a w → Step g0 w0 g w → K s → wpList P ops Q l2 a w) :
    ∀ (l : List Oper) (i : Nat) (s : St) (g : G) (a : Act) (w : World), i + l.length = en → s.nxt = nxt → s.n = n0 → Rel (· < base + i) g s.get s.obj s.n a w → Step g0 w0 g w → wpT ty P orc gs base i l s K → wpList P ops Q (l ++ l2) a w
  | [], i, s, g, a, w, hle, hnx, hn0, h, hs, hk => hQ s g a w hnx hn0 (by simp at hle; rw [← hle]; exact h) hs hk
  | o :: rest, i, s, g, a, w, hle, hnx, hn0, h, hs, hk => by
    simp only [List.length_cons] at hle
    have hargs : RepAs g w (o.op.operands.toList.map s.eval) (o.op.operands.toList.map a.eval) := by
      refine RepAs.of_get (by simp) fun j av hj => ?_
      rw [List.getElem?_map] at hj ⊢
      cases hx : o.op.operands.toList[j]? with
      | none => rw [hx] at hj; cases hj
      | some x => rw [hx] at hj; cases hj; exact ⟨a.eval x, rfl, eval_rep h (fun _ => rfl) x⟩
    have relapp : ∀ (e : Eff) (g' : G) (a' : Act) (w' : World), Rel (fun k => k < base + i ∨ k = base + i) g' (putG s.get o.dst e.val) (updL s.obj e.wr) s.n a' w' → Rel (· < base + (i + 1)) g' (s.app o.dst e).get (s.app o.dst e).obj (s.app o.dst e).n a' w' := by
      intro e g' a' w' hr
      have hn : (s.app o.dst e).n = s.n := by unfold St.app St.put; cases o.dst <;> rfl
      rw [hn]
      exact ⟨hr.defers, hr.size, fun t => by rw [app_get]; exact hr.tmp t, fun id hu => by
        have := hr.used id hu
        show id < base + (i + 1)
        rcases this with hh | hh <;> omega, by
        have : (s.app o.dst e).obj = updL s.obj e.wr := funext (app_obj s o.dst e)
        rw [this]; exact hr.heap⟩
    have hnapp : ∀ e, (s.app o.dst e).nxt = nxt := fun e => by rw [← hnx]; unfold St.app St.put; cases o.dst <;> rfl
    have hna : ∀ e, (s.app o.dst e).n = s.n := fun e => by unfold St.app St.put; cases o.dst <;> rfl
    have hnput : ∀ v, (s.put o.dst v).nxt = nxt := fun v => by rw [← hnx]; unfold St.put; cases o.dst <;> rfl
    have hnn : ∀ v, (s.put o.dst v).n = s.n := fun v => by unfold St.put; cases o.dst <;> rfl
    have relput : ∀ (v : AV) (g' : G) (a' : Act) (w' : World) (U : Nat → Prop), (∀ k, U k → k < base + (i + 1)) → Rel U g' (putG s.get o.dst v) s.obj s.n a' w' → Rel (· < base + (i + 1)) g' (s.put o.dst v).get (s.put o.dst v).obj (s.put o.dst v).n a' w' := by
      intro v g' a' w' U hU hr
      rw [hnn]
      have := hr.congr (get' := (s.put o.dst v).get) (obj' := (s.put o.dst v).obj) (fun t => St.get_put s o.dst v t) (fun id => put_obj s o.dst v id)
      exact ⟨this.defers, this.size, this.tmp, fun k hk => hU k (this.used k hk), this.heap⟩
    have skipped : ∀ v, (∀ d, o.dst = some d → d < s.n) → RepA g w v undef → wpT ty P orc gs base (i + 1) rest (s.put o.dst v) K → wpList P ops Q (rest ++ l2) (a.put o.dst undef) w := by
      intro v hd hv hrest
      have hr := rel_put (U' := (· < base + i)) (dst := o.dst) (v := v) (u := undef) h h.heap ⟨fun b hb => ⟨hb, rfl⟩, fun _ hx => hx, fun _ _ => .inl rfl⟩ (fun k hk => h.used k hk) hv hd
      exact wpT_sound2 (nxt := nxt) hc hgs hQ rest (i + 1) _ g _ w (by omega) (hnput v) ((hnn v).trans hn0) (relput v g _ w _ (fun k hk => by omega) hr) hs hrest
    simp only [List.cons_append, wpList]
    unfold wpT at hk
    split at hk
    · rename_i hg
      have hw : Region.wanted o (yielded ops a.tmps) = true := by simp [Region.wanted, hg]
      rw [if_pos hw]
      left
      unfold doOp at hk
      split at hk
      · rename_i e he
        obtain ⟨hob, hd, hrest⟩ := hk
        exact op_step hc (nid := base + i) h (by simp) hargs he hob (fun d hd' => by rw [hd'] at hd; exact hd) fun g' a' w' hr hst =>
          wpT_sound2 (nxt := nxt) hc hgs hQ rest (i + 1) (s.app o.dst e) g' a' w' (by omega) (hnapp e) ((hna e).trans hn0) (relapp e g' a' w' hr) (hs.trans hst) hrest
      · exact hk.elim
    · rename_i j want hg
      split at hk
      · rename_i x hgv
        have hw := guard_wanted (a := a) hgs h.tmp hg hgv
        rw [hw]
        obtain ⟨hd, hk⟩ := hk
        have hd' : ∀ d, o.dst = some d → d < s.n := fun d hd' => by rw [hd'] at hd; exact hd
        split at hk
        · rename_i e he
          split at hk
          · rename_i hwr
            obtain ⟨hexec, hrest⟩ := hk
            cases x with
            | true =>
              rw [if_pos rfl]
              left
              obtain ⟨hso, hob⟩ := hexec rfl
              refine op_step hc (nid := base + i) h (by simp) (strips_repG hargs hso) he hob hd' fun g' a' w' hr hst => ?_
              rw [hwr] at hr
              exact wpT_sound2 (nxt := nxt) hc hgs hQ rest (i + 1) _ g' a' w' (by omega) (hnput _) ((hnn _).trans hn0) (relput _ g' a' w' _ (fun k hk => by rcases hk with hh | hh <;> omega) hr.opt) (hs.trans hst) hrest
            | false =>
              rw [if_neg (by simp)]
              exact skipped _ hd' (by simp [RepA]) hrest
          · obtain ⟨rfl, hso, hob, hrest⟩ := hk
            rw [if_pos rfl]
            left
            exact op_step hc (nid := base + i) h (by simp) (strips_repG hargs hso) he hob hd' fun g' a' w' hr hst =>
              wpT_sound2 (nxt := nxt) hc hgs hQ rest (i + 1) (s.app o.dst e) g' a' w' (by omega) (hnapp e) ((hna e).trans hn0) (relapp e g' a' w' hr) (hs.trans hst) hrest
        · obtain ⟨rfl, hrest⟩ := hk
          rw [if_neg (by simp)]
          exact skipped _ hd' (by simp [RepA]) hrest
      · exact hk.elim


/-- The new names of a call. -/
def freshOk (lo n : Nat) : List (Nat × Nat) → Prop
  | [] => True
  | (x, _) :: r => (lo ≤ x ∧ x < lo + n) ∧ freshOk lo n r
theorem freshOk_find {lo n x j : Nat} : ∀ {l : List (Nat × Nat)}, freshOk lo n l → find l x = some j → lo ≤ x ∧ x < lo + n
  | [], _, h => by simp [find] at h
  | (y, k) :: r, hl, h => by
    simp only [freshOk] at hl
    simp only [find] at h
    split at h
    · rename_i e; rw [← e]; exact hl.1
    · exact freshOk_find hl.2 h
theorem find_append' {α : Type} (x : Nat) : ∀ (a b : List (Nat × α)), find (a ++ b) x = (find a x).or (find b x)
  | [], b => by simp [find]
  | (y, k) :: r, b => by
    simp only [List.cons_append, find]
    split
    · rfl
    · exact find_append' x r b

/-- A REGION IN THE TEXT's ORDER with one call that makes m more objects than one. -/
theorem awp_region2 {P : Program} {ty : TypeId → Option TI} (hc : Ctx P ty) (orc : List (Nat × Res)) {id : Nat} {l pre post : List Oper} {o : Oper} (hl : l = pre ++ o :: post) (hg : o.guard = none) {cl : Call} {fo : Operand} (ho : o.op = .call cl) (hcal : cl.callee = .value fo) (m : Nat) (c : XC) (fr : List (Nat × Nat)) {Q : Exit → St → Prop} {s : St}
    (h : ∀ K : St → Prop, (∀ s', Q .normal s' → K s') → wpT ty P orc (l.map (·.dst)) s.nxt 0 pre { s with nxt := s.nxt + l.length + m } fun s1 =>
      match calleeA (s1.eval fo) with
      | some q => freshOk (s.nxt + pre.length) (m + 1) fr ∧ (effY P q.1 c (fr ++ pinT c.σ c.pin) s1.obj (cl.args.toList.map s1.eval ++ q.2)).ob ∧ (match o.dst with | some d => d < s1.n | none => True) ∧
          wpT ty P orc (l.map (·.dst)) (s.nxt + m) (pre.length + 1) post (s1.app o.dst (effY P q.1 c (fr ++ pinT c.σ c.pin) s1.obj (cl.args.toList.map s1.eval ++ q.2))) K
      | none => False) : AWp P (.region id l.toArray false) Q s := by
  intro g a w hr
  refine wp_region ?_
  have hgs : ∀ j : Nat, (l.map (·.dst))[j]? = (l.toArray[j]?).map fun o : Oper => o.dst := by intro j; simp
  have hlen : l.length = pre.length + 1 + post.length := by rw [hl]; simp; omega
  have hh := h _ fun _ hq => hq
  have key : wpList P l.toArray (fun e a' w' => ∃ s' g', RelS s' g' a' w' ∧ Step g w g' w' ∧ Q e s') l a w := by
    have h2 := wpT_sound2 (P := P) hc (orc := orc) (gs := l.map (·.dst)) (ops := l.toArray) hgs (base := s.nxt) (nxt := s.nxt + l.length + m)
      (Q := fun e a' w' => ∃ s' g', RelS s' g' a' w' ∧ Step g w g' w' ∧ Q e s') (g0 := g) (w0 := w) (l2 := o :: post) (en := pre.length) (n0 := s.n) (K := fun s1 =>
        match calleeA (s1.eval fo) with
        | some q => freshOk (s.nxt + pre.length) (m + 1) fr ∧ (effY P q.1 c (fr ++ pinT c.σ c.pin) s1.obj (cl.args.toList.map s1.eval ++ q.2)).ob ∧ (match o.dst with | some d => d < s1.n | none => True) ∧
            wpT ty P orc (l.map (·.dst)) (s.nxt + m) (pre.length + 1) post (s1.app o.dst (effY P q.1 c (fr ++ pinT c.σ c.pin) s1.obj (cl.args.toList.map s1.eval ++ q.2))) fun s' => Q .normal s'
        | none => False) ?_ pre 0 { s with nxt := s.nxt + l.length + m } g a w (by simp) rfl rfl ⟨hr.defers, hr.size, hr.tmp, fun id hu => by have := hr.used id hu; simpa using this, hr.heap⟩ (Step.refl g w) hh
    · rw [← hl] at h2; exact h2
    · intro s1 g1 a1 w1 hnx hn0 hrel hst hk
      simp only [wpList]
      have hw : Region.wanted o (yielded l.toArray a1.tmps) = true := by simp [Region.wanted, hg]
      rw [if_pos hw]
      left
      have hev : ∀ x : Operand, RepA g1 w1 (s1.eval x) (a1.eval x) := fun x => eval_rep hrel (fun _ => rfl) x
      cases hq : calleeA (s1.eval fo) with
      | none => rw [hq] at hk; exact hk.elim
      | some q =>
        rw [hq] at hk
        obtain ⟨hfr, hob, hd, hrest⟩ := hk
        obtain ⟨k, caps⟩ := q
        have hargs : RepAs g1 w1 (cl.args.toList.map s1.eval) (cl.args.toList.map a1.eval) := by
          refine RepAs.of_get (by simp) fun j av hj => ?_
          rw [List.getElem?_map] at hj ⊢
          cases hx : cl.args.toList[j]? with
          | none => rw [hx] at hj; cases hj
          | some x => rw [hx] at hj; cases hj; exact ⟨a1.eval x, rfl, hev x⟩
        have hf : ∃ cs : List Value, a1.eval fo = .func (.func k) #[] cs.toArray ∧ RepAs g1 w1 caps cs := by
          have hfv := hev fo
          unfold calleeA at hq
          split at hq
          · rename_i heq
            cases hq
            rw [heq] at hfv
            simp only [RepA, RepD] at hfv
            obtain ⟨cs, h1, h2⟩ := hfv
            exact ⟨cs, h1, RepAs.of_ds h2⟩
          · rename_i heq
            cases hq
            rw [heq] at hfv
            simp only [RepA] at hfv
            exact hfv
          · cases hq
        obtain ⟨cs, hcs, hrc⟩ := hf
        obtain ⟨fn, hfn, hname, hbody⟩ := hob.2.1
        have hrun : (execOp a1.eval o).run P w1 = .ok (.enter k ((cl.args.toList.map a1.eval) ++ cs).toArray) w1 := by
          unfold execOp
          simp only [ho, resolve, hcal, Deferred.ofValue, hcs, Sem.run_bind, Sem.run_pure, Result.andThen_ok, invoke, callFunc, run_program, hfn, hname, hbody, Bool.false_eq_true, if_false]
          congr 2
          simp
        have hys := y_sound (N := fun x => s.nxt + pre.length ≤ x ∧ x < s.nxt + pre.length + (m + 1)) hrel.heap (fun x hx hu => by have := hrel.used x hu; omega) (c := c) (ti := fr ++ pinT c.σ c.pin) (fun x j hxj => by
          rw [find_append'] at hxj
          cases hfx : find fr x with
          | some j' => exact .inl (freshOk_find hfr hfx)
          | none =>
            rw [hfx] at hxj
            exact .inr (pinT_find hxj)) (hargs.append hrc) hob
        refine does_calls hrun hys _ _ fun v w2 hA => ?_
        obtain ⟨g2, k1, k2, k3, k4, k5⟩ := hA
        have hput := rel_put (U' := fun x => x < s.nxt + m + (pre.length + 1)) (dst := o.dst) hrel k1 k3 (fun x hx => by
          rcases k4 x hx with hx | hx
          · have := hrel.used x hx; omega
          · omega) k5 (fun d hd' => by rw [hd'] at hd; exact hd)
        have hn : (s1.app o.dst (effY P k c (fr ++ pinT c.σ c.pin) s1.obj (cl.args.toList.map s1.eval ++ caps))).n = s1.n := by unfold St.app St.put; cases o.dst <;> rfl
        have hnx' : (s1.app o.dst (effY P k c (fr ++ pinT c.σ c.pin) s1.obj (cl.args.toList.map s1.eval ++ caps))).nxt = s.nxt + l.length + m := by rw [← hnx]; unfold St.app St.put; cases o.dst <;> rfl
        refine wpT_sound (P := P) hc (orc := orc) (gs := l.map (·.dst)) (ops := l.toArray) hgs (base := s.nxt + m) (nxt := s.nxt + l.length + m) (K := fun s' => Q .normal s') (g0 := g) (w0 := w)
          (fun s' g' a' w' h1 h2 h3 => ⟨s', g', h1, h2, h3⟩) post (pre.length + 1) _ g2 _ w2 (by omega) hnx' ?_ (hst.trans k2) hrest
        rw [hn]
        exact ⟨hput.defers, hput.size, fun t => by rw [app_get]; exact hput.tmp t, hput.used, by
          have : (s1.app o.dst (effY P k c (fr ++ pinT c.σ c.pin) s1.obj (cl.args.toList.map s1.eval ++ caps))).obj = updL s1.obj (effY P k c (fr ++ pinT c.σ c.pin) s1.obj (cl.args.toList.map s1.eval ++ caps)).wr := funext (app_obj s1 o.dst _)
          rw [this]; exact hput.heap⟩
  have := wpOps_eq_wpList (P := P) (ops := l.toArray) (Q := fun e a' w' => ∃ s' g', RelS s' g' a' w' ∧ Step g w g' w' ∧ Q e s') l 0 (by intro j; simp)
  rw [show List.range l.toArray.size = List.range' 0 l.length by simp [List.range_eq_range'], this]
  exact key
end Go.Abs

set_option linter.unusedVariables false
set_option linter.unusedSimpArgs false
namespace Go.Abs
open Go.RowKit

/-- The inner slices' objects: elements of type e, m cells each; the k-th is called 1000000 + k. -/
def dyn (e : TypeId) (m : Nat) : Nat → List (List (List D)) → List (Nat × Option Ob)
  | _, [] => []
  | k, r :: S => (1000000 + k, some ⟨e, m, dr r⟩) :: dyn e m (k + 1) S
def dynP (e : TypeId) (m : Nat) : Nat → List (List (List D)) → List (Nat × Ob)
  | _, [] => []
  | k, r :: S => (1000000 + k, ⟨e, m, dr r⟩) :: dynP e m (k + 1) S
def dynN : Nat → List Nat → List (Nat × Option Nat)
  | _, [] => []
  | k, x :: r => (1000000 + k, some x) :: dynN (k + 1) r
def dynI : Nat → Nat → List (Nat × Nat)
  | _, 0 => []
  | k, n + 1 => (1000000 + k, 1000000 + k) :: dynI (k + 1) n
/-- The outer slice's rows: a slice each, over the objects called ids. -/
def rowsAt (ids lens : List Nat) : List (List AV) := List.zipWith (fun x l => [AV.hs x 0 l]) ids lens
def idsN (n : Nat) : List Nat := (List.range n).map fun k => 1000000 + k

section
variable {e : TypeId} {m : Nat}
theorem find_dyn : ∀ (S : List (List (List D))) (k i : Nat), find (dyn e m k S) i = if 1000000 + k ≤ i then (S[i - (1000000 + k)]?).map (fun r => some ⟨e, m, dr r⟩) else none
  | [], k, i => by simp [dyn, find]
  | r :: S, k, i => by
    simp only [dyn, find]
    by_cases h : 1000000 + k = i
    · subst h; simp
    · rw [if_neg h, find_dyn S (k + 1) i]
      by_cases h2 : 1000000 + k ≤ i
      · rw [if_pos h2, if_pos (by omega), show i - (1000000 + k) = (i - (1000000 + (k + 1))) + 1 by omega, List.getElem?_cons_succ]
      · rw [if_neg h2, if_neg (by omega)]
theorem find_dyn0 (S : List (List (List D))) (j : Nat) : find (dyn e m 0 S) (1000000 + j) = (S[j]?).map (fun r => some ⟨e, m, dr r⟩) := by
  rw [find_dyn, if_pos (by omega), show 1000000 + j - (1000000 + 0) = j by omega]
theorem find_dynP : ∀ (S : List (List (List D))) (k i : Nat), find (dynP e m k S) i = if 1000000 + k ≤ i then (S[i - (1000000 + k)]?).map (fun r => ⟨e, m, dr r⟩) else none
  | [], k, i => by simp [dynP, find]
  | r :: S, k, i => by
    simp only [dynP, find]
    by_cases h : 1000000 + k = i
    · subst h; simp
    · rw [if_neg h, find_dynP S (k + 1) i]
      by_cases h2 : 1000000 + k ≤ i
      · rw [if_pos h2, if_pos (by omega), show i - (1000000 + k) = (i - (1000000 + (k + 1))) + 1 by omega, List.getElem?_cons_succ]
      · rw [if_neg h2, if_neg (by omega)]
theorem find_dynN : ∀ (S : List Nat) (k i : Nat), find (dynN k S) i = if 1000000 + k ≤ i then (S[i - (1000000 + k)]?).map some else none
  | [], k, i => by simp [dynN, find]
  | r :: S, k, i => by
    simp only [dynN, find]
    by_cases h : 1000000 + k = i
    · subst h; simp
    · rw [if_neg h, find_dynN S (k + 1) i]
      by_cases h2 : 1000000 + k ≤ i
      · rw [if_pos h2, if_pos (by omega), show i - (1000000 + k) = (i - (1000000 + (k + 1))) + 1 by omega, List.getElem?_cons_succ]
      · rw [if_neg h2, if_neg (by omega)]
theorem find_dynN0 (S : List Nat) (j : Nat) : find (dynN 0 S) (1000000 + j) = (S[j]?).map some := by
  rw [find_dynN, if_pos (by omega), show 1000000 + j - (1000000 + 0) = j by omega]
theorem find_dynI : ∀ (n k i : Nat), find (dynI k n) i = if 1000000 + k ≤ i ∧ i < 1000000 + k + n then some i else none
  | 0, k, i => by simp only [dynI, find]; rw [if_neg (by omega)]
  | n + 1, k, i => by
    simp only [dynI, find]
    by_cases h : 1000000 + k = i
    · subst h; simp
    · rw [if_neg h, find_dynI n (k + 1) i]
      by_cases h2 : 1000000 + k ≤ i ∧ i < 1000000 + k + (n + 1)
      · rw [if_pos h2, if_pos (by omega)]
      · rw [if_neg h2, if_neg (by omega)]
end

theorem find_app {α : Type} (x : Nat) : ∀ (a b : List (Nat × α)), find (a ++ b) x = (find a x).or (find b x) := find_append' x
theorem find_lowN {α : Type} {x b : Nat} : ∀ {l : List (Nat × α)}, (l.all fun y => Nat.blt y.1 b) = true → b ≤ x → find l x = none
  | [], _, _ => rfl
  | (k, v) :: r, h, hx => by
    simp only [List.all_cons, Bool.and_eq_true] at h
    have h1 : k < b := Nat.le_of_ble_eq_true h.1
    simp only [find]
    rw [if_neg (by omega)]
    exact find_lowN h.2 hx

theorem idsN_length (n : Nat) : (idsN n).length = n := by simp [idsN]
theorem idsN_get {n k : Nat} (h : k < n) : (idsN n)[k]? = some (1000000 + k) := by simp [idsN, h]
theorem idsN_get' {n k x : Nat} (h : (idsN n)[k]? = some x) : k < n ∧ x = 1000000 + k := by
  have hk : k < n := by have := (List.getElem?_eq_some_iff.1 h).1; simpa [idsN] using this
  rw [idsN_get hk] at h
  exact ⟨hk, by cases h; rfl⟩
theorem idsN_succ (n : Nat) : idsN (n + 1) = idsN n ++ [1000000 + n] := by simp [idsN, List.range_succ]
theorem idsN_mem {n x : Nat} : x ∈ idsN n ↔ 1000000 ≤ x ∧ x < 1000000 + n := by
  simp only [idsN, List.mem_map, List.mem_range]
  constructor
  · rintro ⟨k, hk, rfl⟩; omega
  · intro h; exact ⟨x - 1000000, by omega, by omega⟩
theorem idsN_nodup (n : Nat) : (idsN n).Nodup := by
  induction n with
  | zero => simp [idsN]
  | succ n ih =>
    rw [idsN_succ, List.nodup_append]
    exact ⟨ih, by simp, fun a ha b hb => by have := idsN_mem.1 ha; simp at hb; omega⟩
theorem rowsAt_length {ids lens : List Nat} (h : ids.length = lens.length) : (rowsAt ids lens).length = lens.length := by simp [rowsAt, h]
theorem rowsAt_get {ids lens : List Nat} {k x l : Nat} (h1 : ids[k]? = some x) (h2 : lens[k]? = some l) : (rowsAt ids lens)[k]? = some [.hs x 0 l] := by
  simp [rowsAt, List.getElem?_zipWith, h1, h2]
theorem rowsAt_get' {ids lens : List Nat} {k : Nat} {r : List AV} (h : (rowsAt ids lens)[k]? = some r) : ∃ x l, ids[k]? = some x ∧ lens[k]? = some l ∧ r = [.hs x 0 l] := by
  simp only [rowsAt, List.getElem?_zipWith] at h
  cases h1 : ids[k]? <;> cases h2 : lens[k]? <;> simp [h1, h2] at h
  exact ⟨_, _, rfl, rfl, h.symm⟩
theorem rowsAt_app {ids lens : List Nat} (h : ids.length = lens.length) (x l : Nat) : rowsAt ids lens ++ [[.hs x 0 l]] = rowsAt (ids ++ [x]) (lens ++ [l]) := by
  simp only [rowsAt]
  rw [List.zipWith_append h]; rfl

theorem upR_of {σ : List (Nat × Option Nat)} : ∀ {x y : List (List AV)}, x.length = y.length → (∀ (i : Nat) (r q : List AV), x[i]? = some r → y[i]? = some q → upL σ r = some q) → upR σ x = some y
  | [], [], _, _ => rfl
  | [], _ :: _, h, _ => by simp at h
  | _ :: _, [], h, _ => by simp at h
  | a :: x, b :: y, h, hg => by
    have h1 := hg 0 a b rfl rfl
    have h2 := upR_of (x := x) (y := y) (by simpa using h) fun i r q hr hq => hg (i + 1) r q (by simpa using hr) (by simpa using hq)
    simp [upR, h1, h2]
theorem upR_rows {σ0 : List (Nat × Option Nat)} (hlow : (σ0.all fun x => Nat.blt x.1 1000000) = true) {ns lens : List Nat} (h : ns.length = lens.length) : upR (σ0 ++ dynN 0 ns) (rowsAt (idsN lens.length) lens) = some (rowsAt ns lens) := by
  refine upR_of (by rw [rowsAt_length (by rw [idsN_length]), rowsAt_length h]) fun i r q hr hq => ?_
  obtain ⟨x, l, h1, h2, rfl⟩ := rowsAt_get' hr
  obtain ⟨y, l', h3, h4, rfl⟩ := rowsAt_get' hq
  obtain ⟨hk, rfl⟩ := idsN_get' h1
  rw [h2] at h4
  cases h4
  simp [upL, up, find_app, find_lowN hlow (show 1000000 ≤ 1000000 + i by omega), find_dynN0, h3]
theorem rnR_of {σ : List (Nat × Nat)} : ∀ {x y : List (List AV)}, x.length = y.length → (∀ (i : Nat) (r q : List AV), x[i]? = some r → y[i]? = some q → rnL σ r = some q) → rnR σ x = some y
  | [], [], _, _ => rfl
  | [], _ :: _, h, _ => by simp at h
  | _ :: _, [], h, _ => by simp at h
  | a :: x, b :: y, h, hg => by
    have h1 := hg 0 a b rfl rfl
    have h2 := rnR_of (x := x) (y := y) (by simpa using h) fun i r q hr hq => hg (i + 1) r q (by simpa using hr) (by simpa using hq)
    simp [rnR, h1, h2]
theorem rnR_rows {ρ0 : List (Nat × Nat)} (hlow : (ρ0.all fun x => Nat.blt x.1 1000000) = true) {lens : List Nat} : rnR (ρ0 ++ dynI 0 lens.length) (rowsAt (idsN lens.length) lens) = some (rowsAt (idsN lens.length) lens) := by
  refine rnR_of rfl fun i r q hr hq => ?_
  rw [hr] at hq
  cases hq
  obtain ⟨x, l, h1, h2, rfl⟩ := rowsAt_get' hr
  obtain ⟨hk, rfl⟩ := idsN_get' h1
  have : find (dynI 0 lens.length) (1000000 + i) = some (1000000 + i) := by rw [find_dynI, if_pos (by omega)]
  simp [rnL, rn, find_app, find_lowN hlow (show 1000000 ≤ 1000000 + i by omega), this]
theorem dnR_of {τ : List (Nat × Nat)} : ∀ {x : List (List AV)}, (∀ (i : Nat) (r : List AV), x[i]? = some r → dnL τ r = r) → dnR τ x = x
  | [], _ => rfl
  | a :: x, hg => by
    have h1 := hg 0 a rfl
    have h2 := dnR_of (x := x) fun i r hr => hg (i + 1) r (by simpa using hr)
    simp [dnR, h1, h2]

theorem upH_app {σ : List (Nat × Option Nat)} {s : St} : ∀ {a b : List (Nat × Option Ob)}, upH σ s a → upH σ s b → upH σ s (a ++ b)
  | [], b, _, h => h
  | (k, some o) :: a, b, ha, hb => by
    simp only [List.cons_append, upH] at ha ⊢
    exact ⟨ha.1, upH_app ha.2 hb⟩
  | (k, none) :: a, b, ha, hb => by
    simp only [List.cons_append, upH] at ha ⊢
    exact upH_app ha hb
theorem upH_dyn {σ : List (Nat × Option Nat)} {s : St} {e : TypeId} {m : Nat} : ∀ {S : List (List (List D))} {k : Nat}, (∀ (j : Nat) (r : List (List D)), S[j]? = some r → ∃ x o0, find σ (1000000 + (k + j)) = some (some x) ∧ s.obj x = some o0 ∧ o0.elem = e ∧ o0.m = m ∧ o0.rows = dr r) → upH σ s (dyn e m k S)
  | [], k, _ => trivial
  | r :: S, k, h => by
    simp only [dyn, upH]
    obtain ⟨x, o0, h1, h2, h3, h4, h5⟩ := h 0 r rfl
    refine ⟨?_, upH_dyn fun j r' hr => ?_⟩
    · rw [Nat.add_zero] at h1
      rw [h1]
      exact ⟨o0, h2, h3, h4, by rw [h5]; exact upR_dr σ r⟩
    · have := h (j + 1) r' (by simpa using hr)
      rwa [show k + (j + 1) = k + 1 + j by omega] at this
theorem namesOk_app {s' : St} : ∀ {a b : List (Nat × Option Nat)}, namesOk s' a → namesOk s' b → namesOk s' (a ++ b)
  | [], b, _, h => h
  | (k, v) :: a, b, ha, hb => by
    simp only [List.cons_append, namesOk] at ha ⊢
    exact ⟨ha.1, ha.2.1, namesOk_app ha.2.2 hb⟩
theorem namesOk_dyn {s' : St} : ∀ {ns : List Nat} {k : Nat}, (∀ j, j < ns.length → (s'.obj (1000000 + (k + j))).isSome = true ∧ 1000000 + (k + j) < s'.nxt) → namesOk s' (dynN k ns)
  | [], k, _ => trivial
  | x :: r, k, h => by
    simp only [dynN, namesOk]
    have h0 := h 0 (by simp)
    refine ⟨h0.1, h0.2, namesOk_dyn fun j hj => ?_⟩
    have := h (j + 1) (by simpa using hj)
    rwa [show k + (j + 1) = k + 1 + j by omega] at this
theorem olds_app : ∀ (a b : List (Nat × Option Nat)), olds (a ++ b) = olds a ++ olds b
  | [], b => rfl
  | (k, some x) :: a, b => by simp [olds, olds_app a b]
  | (k, none) :: a, b => by simp [olds, olds_app a b]
theorem olds_dyn : ∀ (ns : List Nat) (k : Nat), olds (dynN k ns) = ns
  | [], k => rfl
  | x :: r, k => by simp [dynN, olds, olds_dyn r]

/-- A STATE SEEN AS ANOTHER, with inner slices: ns are the names that they had. -/
theorem weak_dyn {s : St} {n : Nat} {tm : List (Nat × AV)} {nxt : Nat} {e : TypeId} {m : Nat} (σ0 : List (Nat × Option Nat)) (ns : List Nat) (H0 : List (Nat × Option Ob)) (S : List (List (List D)))
    (hlow : (σ0.all fun x => Nat.blt x.1 1000000) = true) (hlow2 : (H0.all fun x => Nat.blt x.1 1000000) = true) (hnx : 1000000 + S.length ≤ nxt) (hlen : ns.length = S.length)
    (hn : n = s.n) (htm : upT (σ0 ++ dynN 0 ns) s tm) (hh : upH (σ0 ++ dynN 0 ns) s H0) (hnm : namesOk ⟨n, tm, H0, nxt⟩ σ0)
    (ho : (olds σ0).Nodup) (hns : ns.Nodup) (hd : ∀ x ∈ ns, x ∉ olds σ0)
    (hS : ∀ (j : Nat) (r : List (List D)) (x : Nat), S[j]? = some r → ns[j]? = some x → s.obj x = some ⟨e, m, dr r⟩) : Weak s ⟨n, tm, H0 ++ dyn e m 0 S, nxt⟩ := by
  have hget : ∀ x, find (σ0 ++ dynN 0 ns) x = (find σ0 x).or (find (dynN 0 ns) x) := fun x => find_app x _ _
  refine weak_of (σ0 ++ dynN 0 ns) hn htm (upH_app hh (upH_dyn fun j r hr => ?_)) (namesOk_app ?_ (namesOk_dyn fun j hj => ?_)) ?_
  · have hj : j < ns.length := by rw [hlen]; exact (List.getElem?_eq_some_iff.1 hr).1
    have hx : ns[j]? = some ns[j] := List.getElem?_eq_getElem hj
    refine ⟨ns[j], _, ?_, hS j r _ hr hx, rfl, rfl, rfl⟩
    rw [hget, find_lowN hlow (by omega), Nat.zero_add, find_dynN0, hx]; rfl
  · have key : ∀ (σ : List (Nat × Option Nat)), namesOk ⟨n, tm, H0, nxt⟩ σ → namesOk ⟨n, tm, H0 ++ dyn e m 0 S, nxt⟩ σ := by
      intro σ
      induction σ with
      | nil => intro _; trivial
      | cons p r ih =>
        obtain ⟨k, v⟩ := p
        intro h
        simp only [namesOk] at h ⊢
        refine ⟨?_, h.2.1, ih h.2.2⟩
        have h1 := h.1
        simp only [St.obj] at h1 ⊢
        rw [find_app]
        cases hf : find H0 k with
        | none => rw [hf] at h1; simp at h1
        | some o => rw [hf] at h1; simpa using h1
    exact key σ0 hnm
  · have hj' : j < S.length := by omega
    refine ⟨?_, by simp only; omega⟩
    simp only [St.obj]
    rw [find_app, find_lowN hlow2 (by omega), Nat.zero_add, find_dyn0, List.getElem?_eq_getElem hj']; rfl
  · rw [olds_app, olds_dyn, List.nodup_append]
    exact ⟨ho, hns, fun a ha b hb hab => hd b hb (hab ▸ ha)⟩

/-- States that say the same. -/
theorem weak_ext {s s' : St} (hn : s'.n = s.n) (h1 : ∀ t, s'.get t = s.get t) (h2 : ∀ x, s'.obj x = s.obj x) (h3 : s.nxt ≤ s'.nxt) : Weak s s' := by
  intro g a w hr
  refine ⟨g, ?_, Step.refl g w⟩
  have := Rel.congr hr h1 h2
  exact ⟨this.defers, by rw [hn]; exact this.size, this.tmp, fun id hu => Nat.lt_of_lt_of_le (this.used id hu) h3, this.heap⟩

theorem fzH_dyn {e : TypeId} {m : Nat} (id : Nat) (rs : List (List D)) : ∀ (S : List (List (List D))) (k : Nat), fzH id rs (dyn e m k S) = dyn e m k S
  | [], k => rfl
  | r :: S, k => by
    have h := fzH_dyn (e := e) (m := m) id rs S (k + 1)
    simp only [dyn, fzH] at h ⊢
    rw [h, fzO, fzR_dr]

/-- The rows of the outer slice, the first k of them plain data. -/
def mixR (S : List (List (List D))) (k : Nat) : List (List AV) := dr ((S.take k).map fun r => [D.sl r]) ++ rowsAt ((idsN S.length).drop k) ((S.map List.length).drop k)
theorem mixR_all (S : List (List (List D))) : mixR S S.length = dr (S.map fun r => [D.sl r]) := by
  have : (idsN S.length).drop S.length = [] := by rw [List.drop_eq_nil_iff]; simp [idsN]
  simp only [mixR, List.take_length, this]
  simp [rowsAt]
theorem mixR_zero (S : List (List (List D))) : mixR S 0 = rowsAt (idsN S.length) (S.map List.length) := by simp [mixR, dr]
theorem fzR_appA (id : Nat) (rs : List (List D)) : ∀ (a b : List (List AV)), fzR id rs (a ++ b) = fzR id rs a ++ fzR id rs b
  | [], b => rfl
  | x :: a, b => by simp only [List.cons_append, fzR, fzR_appA id rs a b]
theorem fzR_keep (id : Nat) (rs : List (List D)) : ∀ {x : List (List AV)}, (∀ (i : Nat) (r : List AV), x[i]? = some r → fzL id rs r = r) → fzR id rs x = x
  | [], _ => rfl
  | a :: x, hg => by
    have h1 := hg 0 a rfl
    have h2 := fzR_keep id rs (x := x) fun i r hr => hg (i + 1) r (by simpa using hr)
    simp [fzR, h1, h2]
theorem mixR_step {S : List (List (List D))} {k : Nat} {r : List (List D)} (h : S[k]? = some r) : fzR (1000000 + k) r (mixR S k) = mixR S (k + 1) := by
  have hk : k < S.length := (List.getElem?_eq_some_iff.1 h).1
  have h1 : (idsN S.length).drop k = (1000000 + k) :: (idsN S.length).drop (k + 1) := by
    rw [List.drop_eq_getElem_cons (by rw [idsN_length]; exact hk)]
    congr 1
    have := idsN_get hk
    rw [List.getElem?_eq_getElem (by rw [idsN_length]; exact hk)] at this
    exact Option.some.inj this
  have h2 : (S.map List.length).drop k = r.length :: (S.map List.length).drop (k + 1) := by
    rw [List.drop_eq_getElem_cons (by simpa using hk)]
    congr 1
    rw [List.getElem_map]
    rw [List.getElem?_eq_getElem hk] at h
    rw [Option.some.inj h]
  have h3 : S.take (k + 1) = S.take k ++ [r] := by rw [List.take_add_one, h]; rfl
  unfold mixR
  rw [h1, h2, h3, fzR_appA, fzR_dr, List.map_append, List.map_cons, List.map_nil]
  rw [show rowsAt ((1000000 + k) :: (idsN S.length).drop (k + 1)) (r.length :: (S.map List.length).drop (k + 1)) = [AV.hs (1000000 + k) 0 r.length] :: rowsAt ((idsN S.length).drop (k + 1)) ((S.map List.length).drop (k + 1)) from rfl]
  simp only [fzR]
  rw [fzR_keep]
  · simp [fzL, fz, dr]
  · intro i q hq
    obtain ⟨x, l, q1, q2, rfl⟩ := rowsAt_get' hq
    rw [List.getElem?_drop] at q1
    obtain ⟨_, rfl⟩ := idsN_get' q1
    simp only [fzL, fz]
    rw [if_neg (by omega)]

/-- Nothing but data, the outer slice and what is not looked at. -/
def tmLow : List (Nat × AV) → Bool
  | [] => true
  | (_, .d _) :: r => tmLow r
  | (_, .any) :: r => tmLow r
  | (_, .nl) :: r => tmLow r
  | (_, .hs i _ _) :: r => Nat.blt i 1000000 && tmLow r
  | (_, .ptr i _ _) :: r => Nat.blt i 1000000 && tmLow r
  | _ :: _ => false
theorem fzT_low {id : Nat} (hid : 1000000 ≤ id) (rs : List (List D)) : ∀ {tm : List (Nat × AV)}, tmLow tm = true → fzT id rs tm = tm
  | [], _ => rfl
  | (t, v) :: r, h => by
    cases v <;> simp only [tmLow, Bool.and_eq_true] at h <;> try (cases h; done)
    all_goals simp only [fzT, fz]
    case any => rw [fzT_low hid rs h]
    case nl => rw [fzT_low hid rs h]
    case d => rw [fzT_low hid rs h]
    case hs =>
      have h1 : _ < 1000000 := Nat.le_of_ble_eq_true h.1
      rw [fzT_low hid rs h.2, if_neg (by omega)]
    case ptr =>
      have h1 : _ < 1000000 := Nat.le_of_ble_eq_true h.1
      rw [fzT_low hid rs h.2, if_neg (by omega)]

/-- All inner slices become plain data. -/
theorem weak_fzdyn {n : Nat} {tm : List (Nat × AV)} {nxt id eo mo : Nat} {e : TypeId} {m : Nat} (hid : id < 1000000) (htm : tmLow tm = true) (S : List (List (List D))) :
    Weak ⟨n, tm, (id, some ⟨eo, mo, rowsAt (idsN S.length) (S.map List.length)⟩) :: dyn e m 0 S, nxt⟩ ⟨n, tm, [(id, some ⟨eo, mo, dr (S.map fun r => [D.sl r])⟩)], nxt⟩ := by
  have step : ∀ k, k ≤ S.length → Weak ⟨n, tm, (id, some ⟨eo, mo, mixR S 0⟩) :: dyn e m 0 S, nxt⟩ ⟨n, tm, (id, some ⟨eo, mo, mixR S k⟩) :: dyn e m k (S.drop k), nxt⟩ := by
    intro k
    induction k with
    | zero => intro _; exact Weak.refl _
    | succ k ih =>
      intro hk
      refine Weak.trans (ih (by omega)) ?_
      have hr : S[k]? = some S[k] := List.getElem?_eq_getElem (by omega)
      have hdk : S.drop k = S[k] :: S.drop (k + 1) := List.drop_eq_getElem_cons (by omega)
      rw [hdk]
      simp only [dyn]
      refine Weak.trans (weak_freeze (1000000 + k) S[k] (o := ⟨e, m, dr S[k]⟩) (by simp only [St.obj, find]; rw [if_neg (by omega)]; simp) (rowsD_dr _)) ?_
      refine weak_ext rfl (fun t => ?_) (fun x => ?_) (Nat.le_refl _)
      · simp only [St.get, St.fz]; rw [fzT_low (by omega) _ htm]
      · simp only [St.obj, St.fz, fzH, fzO, find, mixR_step hr, fzH_dyn, find_dyn]
        by_cases h1 : id = x
        · subst h1; rw [if_pos rfl, if_neg (by omega), if_pos rfl]
        · rw [if_neg h1, if_neg h1]
          by_cases h2 : 1000000 + k = x
          · subst h2; rw [if_pos rfl, if_neg (by omega)]; rfl
          · rw [if_neg h2, if_neg h2]
  have h := step S.length (Nat.le_refl _)
  rw [mixR_zero, mixR_all, List.drop_length] at h
  exact h

/-! ### A region whose order is drawn, its orders gone through one by one; its last operations: a call that makes inner slices, and what follows it. -/
inductive Tr where
  | leaf
  | stop
  | alt (i : Nat) (t u : Tr)
def Tr.heads : Tr → List Nat
  | .alt i _ u => i :: u.heads
  | _ => []
def seqOk (ops : Array Oper) : Nat → Array Bool → Nat → Bool
  | 0, listed, k => (Region.ready .any ops listed).isEmpty
  | f + 1, listed, k => decide (Region.ready .any ops listed = [k]) && seqOk ops f (listed.setIfInBounds k true) (k + 1)
def trOk (ops : Array Oper) (d m : Nat) : Bool → Nat → Array Bool → Tr → Bool
  | top, fuel, listed, .leaf => top && decide (fuel = m) && seqOk ops m listed d
  | top, fuel, listed, .stop => !top
  | top, f + 1, listed, .alt i t u => (!top || decide (Region.ready .any ops listed = i :: u.heads)) && trOk ops d m true f (listed.setIfInBounds i true) t && trOk ops d m false (f + 1) listed u
  | _, 0, _, .alt _ _ _ => false

theorem seqOk_any {P : Program} {ops : Array Oper} {Q : Exit → Act → World → Prop} : ∀ (f : Nat) (listed : Array Bool) (k : Nat) (a : Act) (w : World), seqOk ops f listed k = true → wpOps P ops Q (List.range' k f) a w → wpAny P .any ops Q f listed a w
  | 0, listed, k, a, w, h, hw => by
    simp only [seqOk, List.isEmpty_iff] at h
    exact ⟨h, by simpa [wpOps] using hw⟩
  | f + 1, listed, k, a, w, h, hw => by
    simp only [seqOk, Bool.and_eq_true, decide_eq_true_eq] at h
    refine ⟨fun hn => (by rw [h.1] at hn; cases hn), fun i hi => ?_⟩
    rw [h.1] at hi
    simp only [List.mem_singleton] at hi
    subst hi
    rw [List.range'_succ, wpOps_cons] at hw
    exact wpOp_mono (fun a w hh => seqOk_any f _ _ a w h.2 hh) hw

section
variable (ty : TypeId → Option TI) (P : Program) (orc : List (Nat × Res)) (l : List Oper)
def stepE (i : Nat) (s : St) (K : St → Prop) : Prop :=
  match l[i]? with
  | some o => o.guard = none ∧ (match eff ty P (find orc i) o.op s.obj s.nxt (o.op.operands.toList.map s.eval) with
    | some e => e.ob ∧ (match o.dst with | some d => d < s.n | none => True) ∧ K { s.app o.dst e with nxt := s.nxt + 1 }
    | none => False)
  | none => False
def wpTr : Tr → St → (St → Prop) → Prop
  | .leaf, s, K => K s
  | .stop, _, _ => True
  | .alt i t u, s, K => stepE ty P orc l i s (fun s' => wpTr t s' K) ∧ wpTr u s K
end

theorem wpTr_sound {P : Program} {ty : TypeId → Option TI} (hc : Ctx P ty) {orc : List (Nat × Res)} {l : List Oper} {d m : Nat} {Q : Exit → Act → World → Prop} {K : St → Prop} {g0 : G} {w0 : World}
    (hQ : ∀ s g a w, RelS s g a w → Step g0 w0 g w → K s → wpOps P l.toArray Q (List.range' d m) a w) :
    ∀ (T : Tr) (top : Bool) (fuel : Nat) (listed : Array Bool) (s : St) (g : G) (a : Act) (w : World), trOk l.toArray d m top fuel listed T = true → RelS s g a w → Step g0 w0 g w → wpTr ty P orc l T s K →
      (top = true → wpAny P .any l.toArray Q fuel listed a w) ∧ (top = false → ∀ i ∈ T.heads, ∃ f, fuel = f + 1 ∧ wpOp P l.toArray Q i (wpAny P .any l.toArray Q f (listed.setIfInBounds i true)) a w)
  | .leaf, top, fuel, listed, s, g, a, w, h, hr, hs, hk => by
    simp only [trOk, Bool.and_eq_true, decide_eq_true_eq] at h
    obtain ⟨⟨h1, h2⟩, h3⟩ := h
    subst h2
    exact ⟨fun _ => seqOk_any fuel listed d a w h3 (hQ s g a w hr hs hk), fun h => by rw [h1] at h; cases h⟩
  | .stop, top, fuel, listed, s, g, a, w, h, hr, hs, hk => by
    simp only [trOk, Bool.not_eq_true'] at h
    exact ⟨fun h' => (by rw [h] at h'; cases h'), fun _ i hi => by simp [Tr.heads] at hi⟩
  | .alt i t u, top, 0, listed, s, g, a, w, h, hr, hs, hk => by simp [trOk] at h
  | .alt i t u, top, f + 1, listed, s, g, a, w, h, hr, hs, hk => by
    simp only [trOk, Bool.and_eq_true] at h
    obtain ⟨⟨h1, h2⟩, h3⟩ := h
    simp only [wpTr] at hk
    obtain ⟨k1, k2⟩ := hk
    have hu := (wpTr_sound hc hQ u false (f + 1) listed s g a w h3 hr hs k2).2 rfl
    have hi : wpOp P l.toArray Q i (wpAny P .any l.toArray Q f (listed.setIfInBounds i true)) a w := by
      unfold stepE at k1
      split at k1
      · rename_i o ho
        obtain ⟨hg, k1⟩ := k1
        split at k1
        · rename_i e he
          obtain ⟨hob, hd, k1⟩ := k1
          have ho' : l.toArray[i]? = some o := by simpa using ho
          unfold wpOp
          rw [ho']
          simp only
          rw [if_pos (by simp [Region.wanted, hg])]
          left
          have hargs : RepAs g w (o.op.operands.toList.map s.eval) (o.op.operands.toList.map a.eval) := by
            refine RepAs.of_get (by simp) fun j av hj => ?_
            rw [List.getElem?_map] at hj ⊢
            cases hx : o.op.operands.toList[j]? with
            | none => rw [hx] at hj; cases hj
            | some x => rw [hx] at hj; cases hj; exact ⟨a.eval x, rfl, eval_rep hr (fun _ => rfl) x⟩
          refine op_step hc (nid := s.nxt) hr (by simp) hargs he hob (fun d' hd' => by rw [hd'] at hd; exact hd) fun g' a' w' hr' hs' => ?_
          refine (wpTr_sound hc hQ t true f _ { s.app o.dst e with nxt := s.nxt + 1 } g' a' w' h2 ?_ (hs.trans hs') k1).1 rfl
          have hn : (s.app o.dst e).n = s.n := by unfold St.app St.put; cases o.dst <;> rfl
          have hcg := hr'.congr (get' := (s.app o.dst e).get) (obj' := (s.app o.dst e).obj) (fun t => app_get s o.dst e t) (fun id => app_obj s o.dst e id)
          exact ⟨hcg.defers, by show a'.tmps.size = (s.app o.dst e).n; rw [hn]; exact hcg.size, hcg.tmp, fun k hk => by
            show k < s.nxt + 1
            rcases hcg.used k hk with hh | hh <;> omega, hcg.heap⟩
        · exact k1.elim
      · exact k1.elim
    refine ⟨fun ht => ⟨fun hn => ?_, fun j hj => ?_⟩, fun _ j hj => ?_⟩
    · rw [ht] at h1
      simp only [Bool.not_true, Bool.false_or, decide_eq_true_eq] at h1
      rw [h1] at hn; cases hn
    · rw [ht] at h1
      simp only [Bool.not_true, Bool.false_or, decide_eq_true_eq] at h1
      rw [h1] at hj
      rcases List.mem_cons.1 hj with rfl | hj
      · exact hi
      · obtain ⟨f', e1, e2⟩ := hu j hj
        cases e1; exact e2
    · rcases List.mem_cons.1 hj with rfl | hj
      · exact ⟨f, rfl, hi⟩
      · exact hu j hj

theorem nodupB_of : ∀ {l : List Nat}, l.Nodup → nodupB l = true
  | [], _ => rfl
  | a :: r, h => by
    have h' := List.nodup_cons.1 h
    simp only [nodupB, Bool.and_eq_true, List.all_eq_true, Bool.not_eq_true']
    refine ⟨fun b hb => ?_, nodupB_of h'.2⟩
    cases hab : Nat.beq a b with
    | false => rfl
    | true => exact absurd (Nat.eq_of_beq_eq_true hab ▸ hb) h'.1
theorem dynI_fst : ∀ (n k : Nat), (dynI k n).map (·.1) = List.range' (1000000 + k) n
  | 0, k => rfl
  | n + 1, k => by simp [dynI, dynI_fst n (k + 1), List.range'_succ]; omega
theorem dynI_snd : ∀ (n k : Nat), (dynI k n).map (·.2) = List.range' (1000000 + k) n
  | 0, k => rfl
  | n + 1, k => by simp [dynI, dynI_snd n (k + 1), List.range'_succ]; omega
theorem dynI_swp : ∀ (n k : Nat), swp (dynI k n) = dynI k n
  | 0, k => rfl
  | n + 1, k => by simp [dynI, swp, dynI_swp n (k + 1)]
theorem dynP_fst {e : TypeId} {m : Nat} : ∀ (S : List (List (List D))) (k : Nat), (dynP e m k S).map (·.1) = List.range' (1000000 + k) S.length
  | [], k => rfl
  | r :: S, k => by simp [dynP, dynP_fst S (k + 1), List.range'_succ]; omega
theorem fresh_dyn {lo n : Nat} (hlo : lo ≤ 999999) (hn : n ≤ 1000000000) : ∀ (j k : Nat), k + j ≤ n → freshOk lo 1000000000000 (dynI k j)
  | 0, k, _ => trivial
  | j + 1, k, h => ⟨by omega, fresh_dyn hlo hn j (k + 1) (by omega)⟩

/-- The contract's objects: an outer slice and its inner ones. -/
def nestP (eo e m : Nat) (S : List (List (List D))) : List (Nat × Ob) := (0, ⟨eo, 1, rowsAt (idsN S.length) (S.map List.length)⟩) :: dynP e m 0 S
def nestH (eo e m : Nat) (S : List (List (List D))) : List (Nat × Option Ob) := (999999, some ⟨eo, 1, rowsAt (idsN S.length) (S.map List.length)⟩) :: dyn e m 0 S

theorem nest_ob {eo e m : Nat} {S : List (List (List D))} {obj : Nat → Option Ob} (x : Nat) : updL obj (gone [] ++ back (swp ((999999, 0) :: dynI 0 S.length)) (nestP eo e m S) ((999999, 0) :: dynI 0 S.length)) x = (find (nestH eo e m S) x).getD (obj x) := by
  have hsw : swp ((999999, 0) :: dynI 0 S.length) = [(0, 999999)] ++ dynI 0 S.length := by simp [swp, dynI_swp]
  rw [show (gone [] : List (Nat × Option Ob)) = [] from rfl, List.nil_append, updL_get (by
    rw [back_keys, List.map_cons, dynI_fst]
    refine List.nodup_cons.2 ⟨fun h => ?_, List.nodup_range'⟩
    obtain ⟨_, h1, h2⟩ := List.mem_range'.1 h
    omega), back_find]
  congr 1
  simp only [nestH, nestP, find]
  by_cases h0 : 999999 = x
  · subst h0
    rw [if_pos rfl, if_pos rfl]
    simp only [Option.map_some, if_true]
    congr 2
    have : dnR (swp ((999999, 0) :: dynI 0 S.length)) (rowsAt (idsN S.length) (S.map List.length)) = rowsAt (idsN S.length) (S.map List.length) := by
      refine dnR_of fun i r hr => ?_
      obtain ⟨x, l, h1, h2, rfl⟩ := rowsAt_get' hr
      obtain ⟨hk, rfl⟩ := idsN_get' h1
      have hf : find (dynI 0 S.length) (1000000 + i) = some (1000000 + i) := by rw [find_dynI, if_pos (by omega)]
      have hf2 : find (swp ((999999, 0) :: dynI 0 S.length)) (1000000 + i) = some (1000000 + i) := by
        rw [hsw]; simp only [List.cons_append, List.nil_append, find]; rw [if_neg (by omega), hf]
      simp only [dnL, dn, hf2]
    rw [this]
  · rw [if_neg h0, if_neg h0, find_dynI, find_dyn]
    by_cases h1 : 1000000 + 0 ≤ x ∧ x < 1000000 + 0 + S.length
    · rw [if_pos h1, if_pos h1.1]
      have hlt : x - (1000000 + 0) < S.length := by omega
      rw [List.getElem?_eq_getElem hlt]
      simp only [Option.map_some]
      rw [if_neg (by omega), find_dynP, if_pos h1.1, List.getElem?_eq_getElem hlt]
      simp only [Option.map_some, dnR_dr]
    · rw [if_neg h1]
      by_cases h2 : 1000000 + 0 ≤ x
      · rw [if_pos h2, List.getElem?_eq_none (by omega)]; rfl
      · rw [if_neg h2]; rfl

theorem wpOps_range {P : Program} {l pre post : List Oper} {o : Oper} (hl : l = pre ++ o :: post) {Q : Exit → Act → World → Prop} {a : Act} {w : World} (h : wpOp P l.toArray Q pre.length (fun a' w' => wpList P l.toArray Q post a' w') a w) : wpOps P l.toArray Q (List.range' pre.length (post.length + 1)) a w := by
  rw [List.range'_succ, wpOps_cons]
  refine wpOp_mono (fun a' w' hh => ?_) h
  rw [wpOps_eq_wpList post (pre.length + 1) (fun j => by simp [hl, show pre.length + 1 + j = pre.length + (1 + j) by omega, List.getElem?_append_right, Nat.add_comm 1 j])]
  exact hh

section
variable {P : Program} {ty : TypeId → Option TI} {orc : List (Nat × Res)} {l pre post : List Oper} {o : Oper} {cl : Call} {fo : Operand} {I s1 : St} {f : FuncId} {caps av : List AV} {eo e m : Nat} {S : List (List (List D))} {Q : Exit → St → Prop} {g g1 : G} {w w1 : World} {a1 : Act}
/-- The call itself, and what follows it. -/
theorem dyn_core (hc : Ctx P ty) (hl : l = pre ++ o :: post) (ho : o.op = .call cl) (hcal : cl.callee = .value fo) (hf : calleeA (I.eval fo) = some (f, caps))
    (hpx : PX P f av [] [] (nestP eo e m S) (.hs 0 0 S.length)) (hS : S.length ≤ 1000000000) (has : rnsOk [] av (cl.args.toList.map I.eval ++ caps)) (hnx : I.nxt ≤ 999999) (hd : match o.dst with | some d => d < I.n | none => True)
    (h2 : ∀ K : St → Prop, (∀ s', Q .normal s' → K s') → wpT ty P orc (l.map (·.dst)) 1000000000000 0 post { (I.put o.dst (.hs 999999 0 S.length)) with hp := nestH eo e m S ++ I.hp, nxt := 1000000000000 + post.length } K)
    (hr1 : RelS s1 g1 a1 w1) (hs1 : Step g w g1 w1) (hw1 : Weak s1 I) : o.wp P a1 w1 (fun a' w' => wpList P l.toArray (fun e a' w' => ∃ s' g', RelS s' g' a' w' ∧ Step g w g' w' ∧ Q e s') post a' w') (fun e a' w' => ∃ s' g', RelS s' g' a' w' ∧ Step g w g' w' ∧ Q e s') := by
  have hgs : ∀ j : Nat, (l.map (·.dst))[j]? = (l.toArray[j]?).map fun o : Oper => o.dst := by intro j; simp
  obtain ⟨g2, hr2, hs2⟩ := hw1 g1 a1 w1 hr1
  have hev : ∀ x : Operand, RepA g2 w1 (I.eval x) (a1.eval x) := fun x => eval_rep hr2 (fun _ => rfl) x
  have hargs : RepAs g2 w1 (cl.args.toList.map I.eval) (cl.args.toList.map a1.eval) := by
    refine RepAs.of_get (by simp) fun j av hj => ?_
    rw [List.getElem?_map] at hj ⊢
    cases hx : cl.args.toList[j]? with
    | none => rw [hx] at hj; cases hj
    | some x => rw [hx] at hj; cases hj; exact ⟨a1.eval x, rfl, hev x⟩
  have hfv : ∃ cs : List Value, a1.eval fo = .func (.func f) #[] cs.toArray ∧ RepAs g2 w1 caps cs := by
    have hfv := hev fo
    unfold calleeA at hf
    split at hf
    · rename_i heq
      cases hf
      rw [heq] at hfv
      simp only [RepA, RepD] at hfv
      obtain ⟨cs, h1, h2⟩ := hfv
      exact ⟨cs, h1, RepAs.of_ds h2⟩
    · rename_i heq
      cases hf
      rw [heq] at hfv
      simp only [RepA] at hfv
      exact hfv
    · cases hf
  obtain ⟨cs, hcs, hrc⟩ := hfv
  obtain ⟨fn, hfn, hname, hbody⟩ := hpx.1
  have hrun : (execOp a1.eval o).run P w1 = .ok (.enter f ((cl.args.toList.map a1.eval) ++ cs).toArray) w1 := by
    unfold execOp
    simp only [ho, resolve, hcal, Deferred.ofValue, hcs, Sem.run_bind, Sem.run_pure, Result.andThen_ok, invoke, callFunc, run_program, hfn, hname, hbody, Bool.false_eq_true, if_false]
    congr 2
    simp
  have hkeys : ∀ x j, find ((999999, 0) :: dynI 0 S.length) x = some j → 999999 ≤ x ∧ x < 1000000000000 := by
    intro x j hx
    simp only [find] at hx
    split at hx
    · rename_i e0; omega
    · rw [find_dynI] at hx
      split at hx
      · omega
      · cases hx
  have hob : (effY P f ⟨[], av, [], [], none, nestP eo e m S, .hs 0 0 S.length⟩ ((999999, 0) :: dynI 0 S.length) I.obj (cl.args.toList.map I.eval ++ caps)).ob := by
    refine ⟨⟨has, trivial, rfl, rfl, ?_, ?_⟩, hpx⟩
    · refine nodupB_of ?_
      rw [List.map_cons, dynI_fst]
      refine List.nodup_cons.2 ⟨fun h => ?_, List.nodup_range'⟩
      obtain ⟨_, h1, h2⟩ := List.mem_range'.1 h
      omega
    · refine nodupB_of ?_
      rw [List.map_cons, dynI_snd]
      refine List.nodup_cons.2 ⟨fun h => ?_, List.nodup_range'⟩
      obtain ⟨_, h1, h2⟩ := List.mem_range'.1 h
      omega
  have hys := y_sound (N := fun x => 999999 ≤ x ∧ x < 1000000000000) hr2.heap (fun x hx hu => by have h3 : x < I.nxt := hr2.used x hu; omega) (c := ⟨[], av, [], [], none, nestP eo e m S, .hs 0 0 S.length⟩) (ti := (999999, 0) :: dynI 0 S.length) (fun x j hx => .inl (hkeys x j hx)) (hargs.append hrc) hob
  refine does_calls hrun hys _ _ fun v w2 hA => ?_
  obtain ⟨g3, k1, k2, k3, k4, k5⟩ := hA
  have hval : (effY P f ⟨[], av, [], [], none, nestP eo e m S, .hs 0 0 S.length⟩ ((999999, 0) :: dynI 0 S.length) I.obj (cl.args.toList.map I.eval ++ caps)).val = .hs 999999 0 S.length := by
    simp [effY, dn, swp, find]
  have hput := rel_put (U' := fun x => x < 1000000000000 + 0) (dst := o.dst) hr2 k1 k3 (fun x hx => by
    rcases k4 x hx with hx | hx
    · have h3 : x < I.nxt := hr2.used x hx
      omega
    · omega) k5 (fun d hd' => by rw [hd'] at hd; exact hd)
  rw [hval] at hput
  have hn : ({ (I.put o.dst (.hs 999999 0 S.length)) with hp := nestH eo e m S ++ I.hp, nxt := 1000000000000 + post.length } : St).n = I.n := by unfold St.put; cases o.dst <;> rfl
  refine wpT_sound (P := P) hc (orc := orc) (gs := l.map (·.dst)) (ops := l.toArray) hgs (base := 1000000000000) (nxt := 1000000000000 + post.length) (K := fun s' => Q .normal s') (g0 := g) (w0 := w)
    (fun s' g' a' w' h1 h2 h3 => ⟨s', g', h1, h2, h3⟩) post 0 _ g3 _ w2 (by omega) rfl ?_ ((hs1.trans hs2).trans k2) (h2 _ fun _ hq => hq)
  rw [hn]
  refine hput.congr (fun t => ?_) fun x => ?_
  · rw [← St.get_put]
    unfold St.get St.put; cases o.dst <;> rfl
  · have hb := nest_ob (eo := eo) (e := e) (m := m) (S := S) (obj := I.obj) x
    simp only [effY]
    rw [hb]
    simp only [St.obj]
    rw [find_app]
    cases find (nestH eo e m S) x <;> rfl
end

/-- A REGION, its order drawn, that ends with a call which makes inner slices. -/
theorem awp_region_dyn {P : Program} {ty : TypeId → Option TI} (hc : Ctx P ty) (hm : P.follows .mixedOrders = true) (orc : List (Nat × Res)) {id : Nat} {l : List Oper} (pre post : List Oper) (o : Oper) (hl : l = pre ++ o :: post) (hg : o.guard = none) {cl : Call} {fo : Operand} (ho : o.op = .call cl) (hcal : cl.callee = .value fo)
    (T : Tr) (hT : trOk l.toArray pre.length (post.length + 1) true l.length (Array.replicate l.length false) T = true) (I : St) (f : FuncId) (caps : List AV) (hf : calleeA (I.eval fo) = some (f, caps)) (av : List AV) (eo e m : Nat) (S : List (List (List D)))
    (hpx : PX P f av [] [] (nestP eo e m S) (.hs 0 0 S.length)) (hS : S.length ≤ 1000000000) (has : rnsOk [] av (cl.args.toList.map I.eval ++ caps)) (hnx : I.nxt ≤ 999999) (hd : match o.dst with | some d => d < I.n | none => True) {Q : Exit → St → Prop} {s : St}
    (h1 : ∀ K : St → Prop, (∀ s', Weak s' I → K s') → wpTr ty P orc l T s K)
    (h2 : ∀ K : St → Prop, (∀ s', Q .normal s' → K s') → wpT ty P orc (l.map (·.dst)) 1000000000000 0 post { (I.put o.dst (.hs 999999 0 S.length)) with hp := nestH eo e m S ++ I.hp, nxt := 1000000000000 + post.length } K) : AWp P (.region id l.toArray true) Q s := by
  intro g a w hr
  refine wp_region_any hm ?_
  obtain ⟨d1, d2, d3⟩ := hr.heap.idle (w' := { w with drawn := w.drawn + 1 }) ⟨rfl, ⟨rfl, Nat.le_succ _⟩, rfl, Nat.le_refl _, fun _ _ => rfl⟩
  have hr' : RelS s g a { w with drawn := w.drawn + 1 } := ⟨hr.defers, hr.size, fun t => RepA.later d3 _ _ (hr.tmp t), hr.used, d1⟩
  have hsz : l.toArray.size = l.length := by simp
  rw [hsz]
  refine (wpTr_sound hc (orc := orc) (d := pre.length) (m := post.length + 1) (K := fun s' => Weak s' I) (g0 := g) (w0 := w) ?_ T true l.length (Array.replicate l.length false) s g a _ hT hr' d2 (h1 _ fun _ hq => hq)).1 rfl
  intro s1 g1 a1 w1 hr1 hs1 hw1
  refine wpOps_range hl ?_
  unfold wpOp
  have hlo : l.toArray[pre.length]? = some o := by simp [hl]
  rw [hlo]
  simp only
  rw [if_pos (by simp [Region.wanted, hg])]
  left
  exact dyn_core hc hl ho hcal hf hpx hS has hnx hd h2 hr1 hs1 hw1

/-- The same in the text's order. -/
theorem awp_region_dynT {P : Program} {ty : TypeId → Option TI} (hc : Ctx P ty) (orc : List (Nat × Res)) {id : Nat} {l : List Oper} (pre post : List Oper) (o : Oper) (hl : l = pre ++ o :: post) (hg : o.guard = none) {cl : Call} {fo : Operand} (ho : o.op = .call cl) (hcal : cl.callee = .value fo)
    (I : St) (f : FuncId) (caps : List AV) (hf : calleeA (I.eval fo) = some (f, caps)) (av : List AV) (eo e m : Nat) (S : List (List (List D)))
    (hpx : PX P f av [] [] (nestP eo e m S) (.hs 0 0 S.length)) (hS : S.length ≤ 1000000000) (has : rnsOk [] av (cl.args.toList.map I.eval ++ caps)) (hnx : I.nxt ≤ 999999) (hd : match o.dst with | some d => d < I.n | none => True) {Q : Exit → St → Prop} {s : St}
    (h1 : ∀ K : St → Prop, (∀ s', Weak s' I → K s') → wpT ty P orc (l.map (·.dst)) s.nxt 0 pre { s with nxt := s.nxt + l.length } K)
    (h2 : ∀ K : St → Prop, (∀ s', Q .normal s' → K s') → wpT ty P orc (l.map (·.dst)) 1000000000000 0 post { (I.put o.dst (.hs 999999 0 S.length)) with hp := nestH eo e m S ++ I.hp, nxt := 1000000000000 + post.length } K) : AWp P (.region id l.toArray false) Q s := by
  intro g a w hr
  refine wp_region ?_
  have hgs : ∀ j : Nat, (l.map (·.dst))[j]? = (l.toArray[j]?).map fun o : Oper => o.dst := by intro j; simp
  have hlen : l.length = pre.length + 1 + post.length := by rw [hl]; simp; omega
  have key : wpList P l.toArray (fun e a' w' => ∃ s' g', RelS s' g' a' w' ∧ Step g w g' w' ∧ Q e s') l a w := by
    have h3 := wpT_sound2 (P := P) hc (orc := orc) (gs := l.map (·.dst)) (ops := l.toArray) hgs (base := s.nxt) (nxt := s.nxt + l.length)
      (Q := fun e a' w' => ∃ s' g', RelS s' g' a' w' ∧ Step g w g' w' ∧ Q e s') (g0 := g) (w0 := w) (l2 := o :: post) (en := pre.length) (n0 := s.n) (K := fun s1 => Weak s1 I) ?_ pre 0 { s with nxt := s.nxt + l.length } g a w (by simp) rfl rfl ⟨hr.defers, hr.size, hr.tmp, fun id hu => by have := hr.used id hu; simpa using this, hr.heap⟩ (Step.refl g w) (h1 _ fun _ hq => hq)
    · rw [← hl] at h3; exact h3
    · intro s1 g1 a1 w1 hnx1 hn0 hrel hst hk
      simp only [wpList]
      rw [if_pos (by simp [Region.wanted, hg])]
      left
      have hr1 : RelS s1 g1 a1 w1 := ⟨hrel.defers, hrel.size, hrel.tmp, fun id hu => by have := hrel.used id hu; show id < s1.nxt; rw [hnx1]; omega, hrel.heap⟩
      exact dyn_core hc hl ho hcal hf hpx hS has hnx hd h2 hr1 hst hk
  have := wpOps_eq_wpList (P := P) (ops := l.toArray) (Q := fun e a' w' => ∃ s' g', RelS s' g' a' w' ∧ Step g w g' w' ∧ Q e s') l 0 (by intro j; simp)
  rw [show List.range l.toArray.size = List.range' 0 l.length by simp [List.range_eq_range'], this]
  exact key

/-- The end of a function that hands back an outer slice. -/
theorem rx_nest {ty : TypeId → Option TI} {rs : List ResultVar} {n : Nat} {Ls : Nat → Loc} {s : St} {eo e m idO : Nat} {S : List (List (List D))} {rows : List (List AV)} (hid : idO < 1000000) (hl : resAs ty s rs = some [.hs idO 0 S.length]) (hO : s.obj idO = some ⟨eo, 1, rows⟩) (hrows : rows = rowsAt (idsN S.length) (S.map List.length))
    (hS : ∀ (j : Nat) (r : List (List D)), S[j]? = some r → s.obj (1000000 + j) = some ⟨e, m, dr r⟩) : retX ty rs n [] (nestP eo e m S) (.hs 0 0 S.length) Ls .ret s := by
  subst hrows
  refine rx_r ([(0, idO)] ++ dynI 0 S.length) ?_
  rw [hl]
  have hlen : (S.map List.length).length = S.length := by simp
  refine ⟨by simp [rnsOk, rn, oneOf, find], ?_, ?_, ?_, trivial⟩
  · simp only [nestP, hpOk]
    refine ⟨?_, ?_⟩
    · simp only [List.cons_append, find, if_true, hO]
      refine ⟨trivial, trivial, ?_⟩
      have := rnR_rows (ρ0 := [(0, idO)]) rfl (lens := S.map List.length)
      rw [hlen] at this
      exact this
    · have key : ∀ (T : List (List (List D))) (k : Nat), (∀ j r, T[j]? = some r → s.obj (1000000 + (k + j)) = some ⟨e, m, dr r⟩) → k + T.length ≤ S.length → hpOk s.obj ([(0, idO)] ++ dynI 0 S.length) (dynP e m k T) := by
        intro T
        induction T with
        | nil => intro k _ _; trivial
        | cons r T ih =>
          intro k hk hle
          simp only [List.length_cons] at hle
          simp only [dynP, hpOk]
          refine ⟨?_, ih (k + 1) (fun j r' hr => by have := hk (j + 1) r' (by simpa using hr); rwa [show k + (j + 1) = k + 1 + j by omega] at this) (by omega)⟩
          have hf : find ([(0, idO)] ++ dynI 0 S.length) (1000000 + k) = some (1000000 + k) := by
            simp only [List.cons_append, List.nil_append, find]
            rw [if_neg (by omega), find_dynI, if_pos (by omega)]
          have h0 := hk 0 r rfl
          rw [hf]
          simp only [Nat.add_zero] at h0
          simp only [h0]
          exact ⟨trivial, trivial, rnR_dr _ _⟩
      exact key S 0 (fun j r hr => by rw [Nat.zero_add]; exact hS j r hr) (by omega)
  · refine nodupB_of ?_
    rw [List.map_append, dynI_snd]
    simp only [List.map_cons, List.map_nil, List.cons_append, List.nil_append]
    refine List.nodup_cons.2 ⟨fun h => ?_, List.nodup_range'⟩
    obtain ⟨_, h1, h2⟩ := List.mem_range'.1 h
    omega
  · simp only [nestP, List.map_append, List.map_cons, List.map_nil, dynI_fst, dynP_fst]; rfl
end Go.Abs

set_option linter.unusedVariables false
set_option linter.unusedSimpArgs false
set_option maxRecDepth 100000
namespace Go.Proofs.YtknelhiejjdioaaGreat
open Go.Abs

def spD (L : List (List Cell)) : List (List (List D)) := L.map fun l => l.map Cell.row
theorem spD_length (L : List (List Cell)) : (spD L).length = L.length := by simp [spD]
theorem spD_lens (L : List (List Cell)) : (spD L).map List.length = L.map List.length := by simp [spD, Function.comp_def]
theorem spD_app (L K : List (List Cell)) : spD (L ++ K) = spD L ++ spD K := by simp [spD]
/-- The outer slice's rows. -/
def outR (L : List (List Cell)) : List (List AV) := rowsAt (idsN L.length) (L.map List.length)
theorem outR_length (L : List (List Cell)) : (outR L).length = L.length := by simp [outR, rowsAt_length, idsN_length]
theorem outR_nil : outR [] = [] := rfl
theorem outR_eq (L : List (List Cell)) : outR L = rowsAt (idsN (spD L).length) ((spD L).map List.length) := by rw [spD_length, spD_lens]; rfl
theorem upR_out {σ0 : List (Nat × Option Nat)} (hlow : (σ0.all fun x => Nat.blt x.1 1000000) = true) (L : List (List Cell)) : upR (σ0 ++ dynN 0 (idsN (spD L).length)) (outR L) = some (outR L) := by
  have := upR_rows (ns := idsN L.length) (lens := L.map List.length) hlow (by simp [idsN_length])
  rw [List.length_map] at this
  rw [spD_length]
  exact this

theorem upR_out1 {σ0 : List (Nat × Option Nat)} (hlow : (σ0.all fun x => Nat.blt x.1 1000000) = true) (L : List (List Cell)) (l : List Cell) (z : Nat) : upR (σ0 ++ dynN 0 (idsN L.length ++ [z])) (outR (L ++ [l])) = some (outR L ++ [[.hs z 0 l.length]]) := by
  have := upR_rows (ns := idsN L.length ++ [z]) (lens := (L ++ [l]).map List.length) hlow (by simp [idsN_length])
  rw [List.length_map] at this
  unfold outR
  rw [rowsAt_app (by simp [idsN_length]), this, List.map_append]; rfl

theorem bloose_ok (r b : List Row) (hr : bigR r) (hb0 : bigR b) : PC Tryz.prog 16 [.agg (regRow r), .agg (regRow b)] (.p (.agg (regRow (opR fD r b)))) := by
  have c := subtractR_big r b hr hb0
  refine pc_of_awp cx (fn := Tryz.f16) (c := _) Tryz.func16 rfl rfl (Nat.le_of_ble_eq_true rfl) ?_
  rw [Tryz.ntmps16]; refine Nav.imp ?_
  refine awp_region cx [] fun K hK => ?_
  simp [push_cast]
  repeat (refine And.intro (by clear hK; intros; first | omega | (simp_all; done) | (simp_all <;> omega)) ?_)
  refine hK _ ?_; clear hK K; refine Nav.imp ?_
  refine awp_region cx [(2, .p (.agg (regRow (opR fD r b))))] fun K hK => ?_
  simp [push_cast, c]
  repeat (refine And.intro (by clear hK; intros; first | omega | (simp_all; done) | (simp_all <;> omega)) ?_)
  refine hK _ ?_; clear hK K; refine Nav.imp ?_
  simp [push_cast]

set_option maxHeartbeats 8000000 in
theorem rowspans_px (r b : List Row) (hr : validR r = true) (hb0 : validR b = true) (hn : (regCells r).length ≤ 1000000) : PX Tryz.prog 51 [.d (.agg (regRow r)), .d (.agg (regRow b))] [] [] (nestP 45 49 2 (spD (spansL r b))) (.hs 0 0 (spD (spansL r b)).length) := by
  have c1 := intersectR_ok r b (small_valid hr) (small_valid hb0)
  have c2 := bloose_ok r b (big_of (small_valid hr)) (big_of (small_valid hb0))
  have hD := (opR_facts (f := fD) rfl hr hb0).1
  have hH := (opR_facts (f := fI) rfl hr hb0).1
  have hDn : (regCells (opR fD r b)).length ≤ 1000000 := Nat.le_trans (cells_le hD hr fun c hc => ((opD_iff hr hb0 c).1 hc).1) hn
  have hsp : spansL r b = spanR (opR fD r b) (opR fI r b) := rfl
  rw [hsp]
  generalize opR fD r b = D at *
  generalize opR fI r b = H at *
  have hDs := small_valid hD
  have hHs := small_valid hH
  have htake : ∀ i w, D[i]? = some w → spanR (D.take (i + 1)) H = spanR (D.take i) H ++ spanRow H w := fun i w h => flat_take _ h
  have hall : spanR (D.take D.length) H = spanR D H := by rw [List.take_length]
  have hnum : ∀ (X Y : List (List Cell)), spanR D H = X ++ Y → X.length ≤ 1000000 := fun X Y h => by
    have := span_num (H := H) hD
    rw [h, List.length_append] at this
    omega
  have hsplit : ∀ i w k, D[i]? = some w → spanR D H = (spanR (D.take i) H ++ (w.runs.take k).flatMap (spanRun H w.y)) ++ ((w.runs.drop k).flatMap (spanRun H w.y) ++ spanR (D.drop (i + 1)) H) := fun i w k h => by
    unfold spanR
    rw [flat_split _ h, List.append_assoc, List.append_assoc]
    congr 1
    rw [← List.append_assoc, ← List.flatMap_append, List.take_append_drop]; rfl
  have hDl := hDs.1
  clear hsp hr hb0 hn
  refine px_of_awp cx (fn := Tryz.f51) (c := _) 0 Tryz.func51 rfl rfl (Nat.le_of_ble_eq_true rfl) rfl rfl fun Ls => ?_
  rw [Tryz.ntmps51]; refine Nav.imp ?_
  refine awp_region cx [] fun K hK => ?_
  simp [push_cast]
  repeat (refine And.intro (by clear hK; intros; first | omega | (simp_all; done) | (simp_all <;> omega)) ?_)
  refine hK _ ?_; clear hK K; refine Nav.imp ?_
  refine awp_region cx [] fun K hK => ?_
  simp [push_cast]
  repeat (refine And.intro (by clear hK; intros; first | omega | (simp_all; done) | (simp_all <;> omega)) ?_)
  refine hK _ ?_; clear hK K; refine Nav.imp ?_
  refine awp_region cx [(2, .p (.agg (regRow H)))] fun K hK => ?_
  simp [push_cast, c1]
  repeat (refine And.intro (by clear hK; intros; first | omega | (simp_all; done) | (simp_all <;> omega)) ?_)
  refine hK _ ?_; clear hK K; refine Nav.imp ?_
  refine awp_region cx [(2, .p (.agg (regRow D)))] fun K hK => ?_
  simp [push_cast, c2]
  repeat (refine And.intro (by clear hK; intros; first | omega | (simp_all; done) | (simp_all <;> omega)) ?_)
  refine hK _ ?_; clear hK K; refine Nav.imp ?_
  refine awp_loop (β := Nat × List (List Cell)) (fun s => ⟨73, [(5, .hs 0 0 s.2.length), (6, .ptr 1 0 0), (19, .d (encRows D)), (20, .d (.int .i64 D.length)), (21, .d (.int .i64 s.1))], [(0, some ⟨45, 1, outR s.2⟩), (1, some ⟨24, 1, [(regRow H).map .d]⟩)] ++ dyn 49 2 0 (spD s.2), 1000000000000⟩) (fun s => s.1 ≤ D.length ∧ s.2 = spanR (D.take s.1) H) (fun s => D.length - s.1) (0, []) ?_ ⟨Nat.zero_le _, by simp [spanR]⟩ ?_
  · have hl0 : (spD []).length ≤ 1000000 := by simp [spD]
    refine weak_dyn [(0, none), (1, some 7)] (idsN (spD []).length) _ (spD []) rfl rfl ?_ (idsN_length _) rfl (by simp [upT, up, upL, upH, upR, namesOk, olds, find_app, find_dynN0, List.cons_append, List.nil_append, push_cast, outR_nil]) (by simp [upT, up, upL, upH, upR, namesOk, olds, find_app, find_dynN0, List.cons_append, List.nil_append, push_cast, outR_nil]) (by simp [upT, up, upL, upH, upR, namesOk, olds, find_app, find_dynN0, List.cons_append, List.nil_append, push_cast]) (by simp [olds]) (idsN_nodup _) (fun x hx => by have h1 := idsN_mem.1 hx; simp [olds]; omega) (fun j r_ x hr_ hx => by
      obtain ⟨hj, rfl⟩ := idsN_get' hx
      have hjN : ∀ m, (m < 1000000 ∨ 1000000000 < m) → (m = 1000000 + j) = False := fun m hm => by simp; omega
      first | (simp [spD] at hr_; done) | simp [push_cast, find_dyn0, hr_, hjN, outR_nil])
    omega
  · rintro ⟨i, X⟩ ⟨hi, hX⟩
    simp only at hi hX
    refine Nav.imp ?_
    refine awp_region cx [] fun K hK => ?_
    simp [push_cast]
    repeat (refine And.intro (by clear hK; intros; first | omega | (simp_all; done) | (simp_all <;> omega)) ?_)
    refine hK _ ?_; clear hK K; refine Nav.imp ?_
    refine awp_cond (b := decide ((i : Int) < D.length)) (by simp [push_cast]) (fun hb => ?_) (fun hb => ?_) <;> (refine Nav.imp ?_)
    · have hlt : i < D.length := by simpa using hb
      obtain ⟨w, hw⟩ := getq hlt
      have e0 := wrap_i64 (n := (i : Int) + 1) (by omega) (by omega)
      have hrf := row_fine hD (List.mem_of_getElem? hw)
      have hrr := fun q (hq : q ∈ w.runs) => row_runs hD (List.mem_of_getElem? hw) hq
      have hwl := hDs.2 w (List.mem_of_getElem? hw)
      have hnx := htake i w hw
      have hsp2 := fun k => hsplit i w k hw
      rw [← hX] at hnx hsp2
      unfold spanRow at hnx
      obtain ⟨y, L⟩ := w
      simp only at hrf hrr hwl hnx hsp2
      refine awp_region cx [] fun K hK => ?_
      simp [push_cast, hw]
      repeat (refine And.intro (by clear hK; intros; first | omega | (simp_all; done) | (simp_all <;> omega)) ?_)
      refine hK _ ?_; clear hK K; refine Nav.imp ?_
      refine awp_region cx [] fun K hK => ?_
      simp [push_cast]
      repeat (refine And.intro (by clear hK; intros; first | omega | (simp_all; done) | (simp_all <;> omega)) ?_)
      refine hK _ ?_; clear hK K; refine Nav.imp ?_
      refine awp_loop (β := Nat × List (List Cell)) (fun s => ⟨73, [(5, .hs 0 0 s.2.length), (6, .ptr 1 0 0), (8, .ptr 2 0 0), (19, .d (encRows D)), (20, .d (.int .i64 D.length)), (21, .d (.int .i64 i)), (26, .d (encRuns L)), (27, .d (.int .i64 L.length)), (28, .d (.int .i64 s.1))], [(0, some ⟨45, 1, outR s.2⟩), (1, some ⟨24, 1, [(regRow H).map .d]⟩), (2, some ⟨40, 2, [(Row.row ⟨y, L⟩).map .d]⟩)] ++ dyn 49 2 0 (spD s.2), 1000000000000⟩) (fun s => s.1 ≤ L.length ∧ s.2 = X ++ (L.take s.1).flatMap (spanRun H y)) (fun s => L.length - s.1) (0, X) ?_ ⟨Nat.zero_le _, by simp⟩ ?_
      · have hXl := hnum X _ (by have := hsp2 0; simp only [List.take_zero, List.flatMap_nil, List.append_nil] at this; exact this)
        have hl0 : (spD X).length ≤ 1000000 := by rw [spD_length]; exact hXl
        have hup := upR_out (σ0 := [(0, some 0), (1, some 1), (2, some 1000000000003)]) rfl X
        simp only [List.cons_append, List.nil_append] at hup
        refine weak_dyn [(0, some 0), (1, some 1), (2, some 1000000000003)] (idsN (spD X).length) _ (spD X) rfl rfl ?_ (idsN_length _) rfl (by simp [upT, up, upL, upH, upR, namesOk, olds, find_app, find_dynN0, List.cons_append, List.nil_append, push_cast, Row.row, hup]) (by simp [upT, up, upL, upH, upR, namesOk, olds, find_app, find_dynN0, List.cons_append, List.nil_append, push_cast, Row.row, hup]) (by simp [upT, up, upL, upH, upR, namesOk, olds, find_app, find_dynN0, List.cons_append, List.nil_append, push_cast]) (by simp [olds]) (idsN_nodup _) (fun x hx => by have h1 := idsN_mem.1 hx; simp [olds]; omega) (fun j r_ x hr_ hx => by
          obtain ⟨hj, rfl⟩ := idsN_get' hx
          have hjN : ∀ m, (m < 1000000 ∨ 1000000000 < m) → (m = 1000000 + j) = False := fun m hm => by simp; omega
          first | (simp [spD] at hr_; done) | simp [push_cast, find_dyn0, hr_, hjN, Row.row, hup])
        omega
      · rintro ⟨k, Y⟩ ⟨hk, hY⟩
        simp only at hk hY
        have hYl := hnum Y _ (by rw [hY]; exact hsp2 k)
        refine Nav.imp ?_
        refine awp_region cx [] fun K hK => ?_
        simp [push_cast]
        repeat (refine And.intro (by clear hK; intros; first | omega | (simp_all; done) | (simp_all <;> omega)) ?_)
        refine hK _ ?_; clear hK K; refine Nav.imp ?_
        refine awp_cond (b := decide ((k : Int) < L.length)) (by simp [push_cast]) (fun hb => ?_) (fun hb => ?_) <;> (refine Nav.imp ?_)
        · have hkl : k < L.length := by simpa using hb
          obtain ⟨q, hq⟩ := getq hkl
          have e1 := wrap_i64 (n := (k : Int) + 1) (by omega) (by omega)
          have hqb := hrr q (List.mem_of_getElem? hq)
          have hY1 : X ++ (L.take (k + 1)).flatMap (spanRun H y) = Y ++ spanRun H y q := by rw [take_get hq, List.flatMap_append, ← List.append_assoc, ← hY]; simp
          have hYs := hnum (Y ++ spanRun H y q) _ (by rw [← hY1]; exact hsp2 (k + 1))
          have hsr : spanRun H y q = if (decide ((⟨q.a - 1, y⟩ : Cell) ∈ regCells H) && decide ((⟨q.b, y⟩ : Cell) ∈ regCells H)) = true then [runCells y q] else [] := rfl
          generalize spanRun H y q = Z at hsr hY1 hYs
          obtain ⟨qa, qb⟩ := q
          simp only at hqb hsr
          have e2 := wrap_i64 (n := qa - 1) (by omega) (by omega)
          have d1 := contains_ok H ⟨qa - 1, y⟩ hHs
          have d2 := contains_ok H ⟨qb, y⟩ hHs
          rw [conB_mem hH] at d1 d2
          generalize decide ((⟨qa - 1, y⟩ : Cell) ∈ regCells H) = v1 at *
          generalize decide ((⟨qb, y⟩ : Cell) ∈ regCells H) = v2 at *
          refine awp_region cx [] fun K hK => ?_
          simp [push_cast, hq]
          repeat (refine And.intro (by clear hK; intros; first | omega | (simp_all; done) | (simp_all <;> omega)) ?_)
          refine hK _ ?_; clear hK K; refine Nav.imp ?_
          cases v1 with
          | false =>
            rw [if_neg (by simp)] at hsr; subst hsr
            rw [List.append_nil] at hY1
            refine awp_region cx [(7, .p (.bool false)), (16, .skip)] fun K hK => ?_
            simp [push_cast, d1, e2, Cell.row]
            repeat (refine And.intro (by clear hK; intros; first | omega | (simp_all; done) | (simp_all <;> omega)) ?_)
            refine hK _ ?_; clear hK K; refine Nav.imp ?_
            refine awp_cond (b := true) (by simp [push_cast]) (fun hb => ?_) (fun hb => ?_) <;> (refine Nav.imp ?_)
            · refine awp_region cx [] fun K hK => ?_
              simp [push_cast, e1]
              repeat (refine And.intro (by clear hK; intros; first | omega | (simp_all; done) | (simp_all <;> omega)) ?_)
              refine hK _ ?_; clear hK K; refine Nav.imp ?_
              refine ⟨(k + 1, Y), ⟨hkl, hY1.symm⟩, by simp only; omega, ?_⟩
              have hl0 : (spD Y).length ≤ 1000000 := by rw [spD_length]; exact hYl
              have hup := upR_out (σ0 := [(0, some 0), (1, some 1), (2, some 2)]) rfl Y
              simp only [List.cons_append, List.nil_append] at hup
              refine weak_dyn [(0, some 0), (1, some 1), (2, some 2)] (idsN (spD Y).length) _ (spD Y) rfl rfl ?_ (idsN_length _) rfl (by simp [upT, up, upL, upH, upR, namesOk, olds, find_app, find_dynN0, List.cons_append, List.nil_append, push_cast, Row.row, hup]) (by simp [upT, up, upL, upH, upR, namesOk, olds, find_app, find_dynN0, List.cons_append, List.nil_append, push_cast, Row.row, hup]) (by simp [upT, up, upL, upH, upR, namesOk, olds, find_app, find_dynN0, List.cons_append, List.nil_append, push_cast]) (by simp [olds]) (idsN_nodup _) (fun x hx => by have h1 := idsN_mem.1 hx; simp [olds]; omega) (fun j r_ x hr_ hx => by
                obtain ⟨hj, rfl⟩ := idsN_get' hx
                have hjN : ∀ m, (m < 1000000 ∨ 1000000000 < m) → (m = 1000000 + j) = False := fun m hm => by simp; omega
                first | (simp [spD] at hr_; done) | simp [push_cast, find_dyn0, hr_, hjN, Row.row, hup])
              omega
            · simp at hb
          | true =>
            cases v2 with
            | false =>
              rw [if_neg (by simp)] at hsr; subst hsr
              rw [List.append_nil] at hY1
              refine awp_region cx [(7, .p (.bool true)), (16, .p (.bool false))] fun K hK => ?_
              simp [push_cast, d1, d2, e2, Cell.row]
              repeat (refine And.intro (by clear hK; intros; first | omega | (simp_all; done) | (simp_all <;> omega)) ?_)
              refine hK _ ?_; clear hK K; refine Nav.imp ?_
              refine awp_cond (b := true) (by simp [push_cast]) (fun hb => ?_) (fun hb => ?_) <;> (refine Nav.imp ?_)
              · refine awp_region cx [] fun K hK => ?_
                simp [push_cast, e1]
                repeat (refine And.intro (by clear hK; intros; first | omega | (simp_all; done) | (simp_all <;> omega)) ?_)
                refine hK _ ?_; clear hK K; refine Nav.imp ?_
                refine ⟨(k + 1, Y), ⟨hkl, hY1.symm⟩, by simp only; omega, ?_⟩
                have hl0 : (spD Y).length ≤ 1000000 := by rw [spD_length]; exact hYl
                have hup := upR_out (σ0 := [(0, some 0), (1, some 1), (2, some 2)]) rfl Y
                simp only [List.cons_append, List.nil_append] at hup
                refine weak_dyn [(0, some 0), (1, some 1), (2, some 2)] (idsN (spD Y).length) _ (spD Y) rfl rfl ?_ (idsN_length _) rfl (by simp [upT, up, upL, upH, upR, namesOk, olds, find_app, find_dynN0, List.cons_append, List.nil_append, push_cast, Row.row, hup]) (by simp [upT, up, upL, upH, upR, namesOk, olds, find_app, find_dynN0, List.cons_append, List.nil_append, push_cast, Row.row, hup]) (by simp [upT, up, upL, upH, upR, namesOk, olds, find_app, find_dynN0, List.cons_append, List.nil_append, push_cast]) (by simp [olds]) (idsN_nodup _) (fun x hx => by have h1 := idsN_mem.1 hx; simp [olds]; omega) (fun j r_ x hr_ hx => by
                  obtain ⟨hj, rfl⟩ := idsN_get' hx
                  have hjN : ∀ m, (m < 1000000 ∨ 1000000000 < m) → (m = 1000000 + j) = False := fun m hm => by simp; omega
                  first | (simp [spD] at hr_; done) | simp [push_cast, find_dyn0, hr_, hjN, Row.row, hup])
                omega
              · simp at hb
            | true =>
              rw [if_pos (show (true && true) = true from rfl)] at hsr; subst hsr
              refine awp_region cx [(7, .p (.bool true)), (16, .p (.bool true))] fun K hK => ?_
              simp [push_cast, d1, d2, e2, Cell.row]
              repeat (refine And.intro (by clear hK; intros; first | omega | (simp_all; done) | (simp_all <;> omega)) ?_)
              refine hK _ ?_; clear hK K; refine Nav.imp ?_
              refine awp_cond (b := false) (by simp [push_cast]) (fun hb => ?_) (fun hb => ?_) <;> (refine Nav.imp ?_)
              · simp at hb
              · refine awp_region cx [] fun K hK => ?_
                simp [push_cast]
                repeat (refine And.intro (by clear hK; intros; first | omega | (simp_all; done) | (simp_all <;> omega)) ?_)
                refine hK _ ?_; clear hK K; refine Nav.imp ?_
                refine awp_region cx [] fun K hK => ?_
                simp [push_cast]
                repeat (refine And.intro (by clear hK; intros; first | omega | (simp_all; done) | (simp_all <;> omega)) ?_)
                refine hK _ ?_; clear hK K; refine Nav.imp ?_
                have hrl : (runCells y ⟨qa, qb⟩).length = (qb - qa).toNat := runCells_len _ _
                have htk : ∀ j, j < (qb - qa).toNat → (runCells y ⟨qa, qb⟩).take (j + 1) = (runCells y ⟨qa, qb⟩).take j ++ [⟨qa + j, y⟩] := fun j hj => runCells_take y ⟨qa, qb⟩ hj
                have hYs2 : (spD Y).length ≤ 1000000 := by rw [spD_length]; exact hYl
                generalize hl : runCells y ⟨qa, qb⟩ = l at *
                refine awp_loop (β := Nat × List Cell) (fun s => ⟨73, [(5, .hs 0 0 Y.length), (6, .ptr 1 0 0), (8, .ptr 2 0 0), (10, .ptr 3 0 0), (11, .hs 4 0 s.2.length), (12, .d (.int .i64 (qa + s.1))), (19, .d (encRows D)), (20, .d (.int .i64 D.length)), (21, .d (.int .i64 i)), (26, .d (encRuns L)), (27, .d (.int .i64 L.length)), (28, .d (.int .i64 k))], [(0, some ⟨45, 1, outR Y⟩), (1, some ⟨24, 1, [(regRow H).map .d]⟩), (2, some ⟨40, 2, [(Row.row ⟨y, L⟩).map .d]⟩), (3, some ⟨42, 2, [(Run.row ⟨qa, qb⟩).map .d]⟩), (4, some ⟨49, 2, dr (s.2.map Cell.row)⟩)] ++ dyn 49 2 0 (spD Y), 1000000000000⟩) (fun s => s.1 ≤ (qb - qa).toNat ∧ s.2 = l.take s.1) (fun s => (qb - qa).toNat - s.1) (0, []) ?_ ⟨Nat.zero_le _, by simp⟩ ?_
                · have hup := upR_out (σ0 := [(0, some 0), (1, some 1), (2, some 2), (3, some 1000000000003), (4, none)]) rfl Y
                  simp only [List.cons_append, List.nil_append] at hup
                  refine weak_dyn [(0, some 0), (1, some 1), (2, some 2), (3, some 1000000000003), (4, none)] (idsN (spD Y).length) _ (spD Y) rfl rfl ?_ (idsN_length _) rfl (by simp [upT, up, upL, upH, upR, namesOk, olds, find_app, find_dynN0, List.cons_append, List.nil_append, push_cast, Row.row, Run.row, hup]) (by simp [upT, up, upL, upH, upR, namesOk, olds, find_app, find_dynN0, List.cons_append, List.nil_append, push_cast, Row.row, Run.row, hup]) (by simp [upT, up, upL, upH, upR, namesOk, olds, find_app, find_dynN0, List.cons_append, List.nil_append, push_cast]) (by simp [olds]) (idsN_nodup _) (fun x hx => by have h1 := idsN_mem.1 hx; simp [olds]; omega) (fun j r_ x hr_ hx => by
                    obtain ⟨hj, rfl⟩ := idsN_get' hx
                    have hjN : ∀ m, (m < 1000000 ∨ 1000000000 < m) → (m = 1000000 + j) = False := fun m hm => by simp; omega
                    first | (simp [spD] at hr_; done) | simp [push_cast, find_dyn0, hr_, hjN, Row.row, Run.row, hup])
                  omega
                · rintro ⟨j, Z⟩ ⟨hj, hZ⟩
                  simp only at hj hZ
                  refine Nav.imp ?_
                  refine awp_region cx [] fun K hK => ?_
                  simp [push_cast]
                  repeat (refine And.intro (by clear hK; intros; first | omega | (simp_all; done) | (simp_all <;> omega)) ?_)
                  refine hK _ ?_; clear hK K; refine Nav.imp ?_
                  by_cases hjl : j < (qb - qa).toNat
                  · have hcd : qa + (j : Int) < qb := by omega
                    have e3 := wrap_i64 (n := qa + (j : Int) + 1) (by omega) (by omega)
                    have hZl : Z.length = j := by rw [hZ, List.length_take]; omega
                    have hZ16 : (Z.length + 1) * 16 ≤ 140737488355328 := by omega
                    have hZ1 := htk j hjl
                    rw [← hZ] at hZ1
                    refine awp_cond (b := true) (by simp [push_cast, hcd]) (fun hb => ?_) (fun hb => ?_) <;> (refine Nav.imp ?_)
                    · refine awp_region cx [] fun K hK => ?_
                      simp [push_cast, hZ16]
                      repeat (refine And.intro (by clear hK; intros; first | omega | (simp_all; done) | (simp_all <;> omega)) ?_)
                      refine hK _ ?_; clear hK K; refine Nav.imp ?_
                      refine awp_region cx [] fun K hK => ?_
                      simp [push_cast, e3]
                      repeat (refine And.intro (by clear hK; intros; first | omega | (simp_all; done) | (simp_all <;> omega)) ?_)
                      refine hK _ ?_; clear hK K; refine Nav.imp ?_
                      refine ⟨(j + 1, Z ++ [⟨qa + j, y⟩]), ⟨hjl, hZ1.symm⟩, by simp only; omega, ?_⟩
                      have hup := upR_out (σ0 := [(0, some 0), (1, some 1), (2, some 2), (3, some 3), (4, some 1000000000010)]) rfl Y
                      simp only [List.cons_append, List.nil_append] at hup
                      refine weak_dyn [(0, some 0), (1, some 1), (2, some 2), (3, some 3), (4, some 1000000000010)] (idsN (spD Y).length) _ (spD Y) rfl rfl ?_ (idsN_length _) rfl (by simp [upT, up, upL, upH, upR, namesOk, olds, find_app, find_dynN0, List.cons_append, List.nil_append, push_cast, Row.row, Run.row, Cell.row, Int.add_assoc, hup]) (by simp [upT, up, upL, upH, upR, namesOk, olds, find_app, find_dynN0, List.cons_append, List.nil_append, push_cast, Row.row, Run.row, Cell.row, Int.add_assoc, hup]) (by simp [upT, up, upL, upH, upR, namesOk, olds, find_app, find_dynN0, List.cons_append, List.nil_append, push_cast]) (by simp [olds]) (idsN_nodup _) (fun x hx => by have h1 := idsN_mem.1 hx; simp [olds]; omega) (fun j r_ x hr_ hx => by
                        obtain ⟨hj, rfl⟩ := idsN_get' hx
                        have hjN : ∀ m, (m < 1000000 ∨ 1000000000 < m) → (m = 1000000 + j) = False := fun m hm => by simp; omega
                        first | (simp [spD] at hr_; done) | simp [push_cast, find_dyn0, hr_, hjN, Row.row, Run.row, Cell.row, Int.add_assoc, hup])
                      omega
                    · simp at hb
                  · have hje : j = (qb - qa).toNat := by omega
                    have hcd : ¬ qa + (j : Int) < qb := by omega
                    have hcd2 : qb ≤ qa + (j : Int) := by omega
                    rw [hje, ← hrl, List.take_length] at hZ
                    refine awp_cond (b := false) (by simp [push_cast, hcd, hcd2]) (fun hb => ?_) (fun hb => ?_) <;> (refine Nav.imp ?_)
                    · simp at hb
                    · subst hZ
                      have hY24 : (Y.length + 1) * 24 ≤ 140737488355328 := by omega
                      have hYs3 : (Y ++ [Z]).length ≤ 1000000 := hYs
                      have hto : List.take Y.length (outR Y) = outR Y := List.take_of_length_le (by rw [outR_length]; omega)
                      refine awp_region cx [] fun K hK => ?_
                      simp [push_cast, hY24, outR_length, hto]
                      repeat (refine And.intro (by clear hK; intros; first | omega | (simp_all; done) | (simp_all <;> omega)) ?_)
                      refine hK _ ?_; clear hK K; refine Nav.imp ?_
                      refine awp_region cx [] fun K hK => ?_
                      simp [push_cast, e1]
                      repeat (refine And.intro (by clear hK; intros; first | omega | (simp_all; done) | (simp_all <;> omega)) ?_)
                      refine hK _ ?_; clear hK K; refine Nav.imp ?_
                      refine ⟨(k + 1, Y ++ [Z]), ⟨hkl, hY1.symm⟩, by simp only; omega, ?_⟩
                      have hup := upR_out1 (σ0 := [(0, some 1000000000007), (1, some 1), (2, some 2)]) rfl Y Z 4
                      simp only [List.cons_append, List.nil_append] at hup
                      refine weak_dyn [(0, some 1000000000007), (1, some 1), (2, some 2)] (idsN Y.length ++ [4]) _ (spD (Y ++ [Z])) rfl rfl (by rw [spD_length]; omega) (by simp [spD_length, idsN_length]) rfl (by simp [upT, up, upL, upH, upR, namesOk, olds, find_app, find_dynN0, List.cons_append, List.nil_append, push_cast]) (by simp [upT, up, upL, upH, upR, namesOk, olds, find_app, find_dynN0, List.cons_append, List.nil_append, push_cast, Row.row, hup]) (by simp [namesOk, push_cast]) (by simp [olds]) (List.nodup_append.2 ⟨idsN_nodup _, by simp, fun a ha c hc => by have := idsN_mem.1 ha; simp at hc; omega⟩) (fun x hx => by
                        rcases List.mem_append.1 hx with hx | hx
                        · have := idsN_mem.1 hx; simp [olds]; omega
                        · simp at hx; subst hx; simp [olds]) (fun j r_ x hr_ hx => ?_)
                      have hjb : j < (spD (Y ++ [Z])).length := (List.getElem?_eq_some_iff.1 hr_).1
                      rw [spD_length, List.length_append] at hjb
                      simp only [List.length_cons, List.length_nil] at hjb
                      rw [spD_app] at hr_
                      by_cases hjY : j < Y.length
                      · rw [List.getElem?_append_left (by rw [spD_length]; exact hjY)] at hr_
                        rw [List.getElem?_append_left (by rw [idsN_length]; exact hjY), idsN_get hjY] at hx
                        cases hx
                        have hjN : ∀ m, (m < 1000000 ∨ 1000000000 < m) → (m = 1000000 + j) = False := fun m hm => by simp; omega
                        simp [push_cast, find_dyn0, hr_, hjN]
                      · have hje2 : j = Y.length := by omega
                        subst hje2
                        rw [List.getElem?_append_right (by rw [spD_length]; omega)] at hr_
                        rw [List.getElem?_append_right (by rw [idsN_length]; omega)] at hx
                        simp [spD_length, idsN_length, spD] at hr_ hx
                        subst hr_ hx
                        simp [push_cast]
        · have hke : k = L.length := by simp at hb; omega
          subst hke
          rw [List.take_length] at hY
          refine awp_region cx [] fun K hK => ?_
          simp [push_cast, e0]
          repeat (refine And.intro (by clear hK; intros; first | omega | (simp_all; done) | (simp_all <;> omega)) ?_)
          refine hK _ ?_; clear hK K; refine Nav.imp ?_
          refine ⟨(i + 1, Y), ⟨hlt, by rw [hnx]; exact hY⟩, by simp only; omega, ?_⟩
          have hl0 : (spD Y).length ≤ 1000000 := by rw [spD_length]; exact hYl
          have hup := upR_out (σ0 := [(0, some 0), (1, some 1)]) rfl Y
          simp only [List.cons_append, List.nil_append] at hup
          refine weak_dyn [(0, some 0), (1, some 1)] (idsN (spD Y).length) _ (spD Y) rfl rfl ?_ (idsN_length _) rfl (by simp [upT, up, upL, upH, upR, namesOk, olds, find_app, find_dynN0, List.cons_append, List.nil_append, push_cast, hup]) (by simp [upT, up, upL, upH, upR, namesOk, olds, find_app, find_dynN0, List.cons_append, List.nil_append, push_cast, hup]) (by simp [upT, up, upL, upH, upR, namesOk, olds, find_app, find_dynN0, List.cons_append, List.nil_append, push_cast]) (by simp [olds]) (idsN_nodup _) (fun x hx => by have h1 := idsN_mem.1 hx; simp [olds]; omega) (fun j r_ x hr_ hx => by
            obtain ⟨hj, rfl⟩ := idsN_get' hx
            have hjN : ∀ m, (m < 1000000 ∨ 1000000000 < m) → (m = 1000000 + j) = False := fun m hm => by simp; omega
            first | (simp [spD] at hr_; done) | simp [push_cast, find_dyn0, hr_, hjN, hup])
          omega
    · have hie : i = D.length := by simp at hb; omega
      subst hie
      rw [hall] at hX
      subst hX
      refine awp_region cx [] fun K hK => ?_
      simp [push_cast]
      repeat (refine And.intro (by clear hK; intros; first | omega | (simp_all; done) | (simp_all <;> omega)) ?_)
      refine hK _ ?_; clear hK K; refine Nav.imp ?_
      refine rx_nest (idO := 0) (by decide) (by simp [push_cast, spD_length]) (by simp [push_cast]) (outR_eq _) fun j r_ hr_ => ?_
      have hjb : j < (spD (spanR D H)).length := (List.getElem?_eq_some_iff.1 hr_).1
      have hjN : ∀ m, (m < 1000000 ∨ 1000000000 < m) → (m = 1000000 + j) = False := fun m hm => by
        have := hnum (spanR D H) [] (by simp)
        rw [spD_length] at hjb
        simp; omega
      simp [push_cast, find_dyn0, hr_, hjN]
end Go.Proofs.YtknelhiejjdioaaGreat

set_option linter.unusedVariables false
set_option linter.unusedSimpArgs false
set_option maxRecDepth 100000
namespace Go.Proofs.YtknelhiejjdioaaGreat
open Go.Abs

abbrev encSpans (L : List (List Cell)) : D := .sl (L.map fun l => [encCells l])
theorem covered_ok (L : List (List Cell)) (hL : L.length ≤ 1000000) (hn : L.flatten.length ≤ 1000000) : PC Tryz.prog 31 [encSpans L] (.p (.agg (regRow (coverR L)))) := by
  have c2 := of_ok L.flatten hn
  rw [show ofD L.flatten = .tup [.agg (regRow (coverR L)), .int .i64 (ofE L.flatten)] from rfl] at c2
  have htake : ∀ k l, L[k]? = some l → (L.take (k + 1)).flatten = (L.take k).flatten ++ l := fun k l h => by rw [take_get h]; simp
  have hall : (L.take L.length).flatten = L.flatten := by rw [List.take_length]
  have hlen : ∀ k l, L[k]? = some l → ((L.take k).flatten ++ l).length ≤ 1000000 := fun k l h => by
    rw [← htake k l h]
    refine Nat.le_trans ?_ hn
    have : L.flatten = (L.take (k + 1)).flatten ++ (L.drop (k + 1)).flatten := by rw [← List.flatten_append, List.take_append_drop]
    rw [this, List.length_append]; omega
  generalize ofE L.flatten = er at *
  generalize coverR L = W at *
  refine pc_of_awp cx (fn := Tryz.f31) (c := _) Tryz.func31 rfl rfl (Nat.le_of_ble_eq_true rfl) ?_
  rw [Tryz.ntmps31]; refine Nav.imp ?_
  refine awp_region cx [] fun K hK => ?_
  simp [push_cast]
  repeat (refine And.intro (by clear hK; intros; first | omega | (simp_all; done) | (simp_all <;> omega)) ?_)
  refine hK _ ?_; clear hK K; refine Nav.imp ?_
  refine awp_region cx [] fun K hK => ?_
  simp [push_cast]
  repeat (refine And.intro (by clear hK; intros; first | omega | (simp_all; done) | (simp_all <;> omega)) ?_)
  refine hK _ ?_; clear hK K; refine Nav.imp ?_
  refine awp_region cx [] fun K hK => ?_
  simp [push_cast]
  repeat (refine And.intro (by clear hK; intros; first | omega | (simp_all; done) | (simp_all <;> omega)) ?_)
  refine hK _ ?_; clear hK K; refine Nav.imp ?_
  refine awp_loop (β := Nat × List Cell) (fun s => ⟨24, [(2, .ptr 1 0 0), (3, .hs 0 0 s.2.length), (8, .d (encSpans L)), (9, .d (.int .i64 L.length)), (10, .d (.int .i64 s.1))], [(0, some ⟨49, 2, dr (s.2.map Cell.row)⟩), (1, some ⟨24, 1, [[.nl]]⟩)], 2⟩) (fun s => s.1 ≤ L.length ∧ s.2 = (L.take s.1).flatten) (fun s => L.length - s.1) (0, []) ?_ ⟨Nat.zero_le _, by simp⟩ ?_
  · refine weak_of [(0, none), (1, some 0)] rfl (by simp [upT, up, upL, push_cast]) (by simp [upH, upR, upL, up, push_cast]) (by simp [namesOk, push_cast]) (by simp [olds])
  · rintro ⟨k, X⟩ ⟨hk, hX⟩
    simp only at hk hX
    refine Nav.imp ?_
    refine awp_region cx [] fun K hK => ?_
    simp [push_cast]
    repeat (refine And.intro (by clear hK; intros; first | omega | (simp_all; done) | (simp_all <;> omega)) ?_)
    refine hK _ ?_; clear hK K; refine Nav.imp ?_
    refine awp_cond (b := decide ((k : Int) < L.length)) (by simp [push_cast]) (fun hb => ?_) (fun hb => ?_) <;> (refine Nav.imp ?_)
    · have hlt : k < L.length := by simpa using hb
      obtain ⟨l, hl⟩ := getq hlt
      have e0 := wrap_i64 (n := (k : Int) + 1) (by omega) (by omega)
      have hle := hlen k l hl
      have hnx := htake k l hl
      rw [← hX] at hle hnx
      rw [List.length_append] at hle
      have h16 : (X.length + l.length) * 16 ≤ 140737488355328 := by omega
      refine awp_region cx [] fun K hK => ?_
      simp [push_cast, hl]
      repeat (refine And.intro (by clear hK; intros; first | omega | (simp_all; done) | (simp_all <;> omega)) ?_)
      refine hK _ ?_; clear hK K; refine Nav.imp ?_
      refine awp_region cx [] fun K hK => ?_
      simp [push_cast, h16]
      repeat (refine And.intro (by clear hK; intros; first | omega | (simp_all; done) | (simp_all <;> omega)) ?_)
      refine hK _ ?_; clear hK K; refine Nav.imp ?_
      refine awp_region cx [] fun K hK => ?_
      simp [push_cast, e0]
      repeat (refine And.intro (by clear hK; intros; first | omega | (simp_all; done) | (simp_all <;> omega)) ?_)
      refine hK _ ?_; clear hK K; refine Nav.imp ?_
      refine ⟨(k + 1, X ++ l), ⟨hlt, hnx.symm⟩, by simp only; omega, ?_⟩
      refine weak_of [(0, some 8), (1, some 1)] rfl (by simp [upT, up, upL, push_cast]) (by simp [upH, upR, upL, up, push_cast]) (by simp [namesOk, push_cast]) (by simp [olds])
    · have hke : k = L.length := by simp at hb; omega
      subst hke
      rw [hall] at hX
      subst hX
      generalize L.flatten = m at *
      have ht : List.take m.length (m.map Cell.row) = m.map Cell.row := List.take_of_length_le (by simp)
      refine awp_freeze 0 (m.map Cell.row) rfl (by simp [push_cast]) fun K hK => ?_
      simp [push_cast, St.fz, fzT, fzH, fzO, fz, fzL, fzR, fzR_dr, fzR_app, fzR_set, fzL_map]
      refine hK _ ?_; clear hK K; refine Nav.imp ?_
      refine awp_region cx [(1, .p (.tup [.agg (regRow W), .int .i64 er]))] fun K hK => ?_
      simp [push_cast, c2]
      repeat (refine And.intro (by clear hK; intros; first | omega | (simp_all; done) | (simp_all <;> omega)) ?_)
      refine hK _ ?_; clear hK K; refine Nav.imp ?_
      refine awp_region cx [] fun K hK => ?_
      simp [push_cast]
      repeat (refine And.intro (by clear hK; intros; first | omega | (simp_all; done) | (simp_all <;> omega)) ?_)
      refine hK _ ?_; clear hK K; refine Nav.imp ?_
      simp [push_cast]

/-! spans: the inner slices are turned in their places. -/
theorem set_stepG {α : Type} {f : α → α} {l Z : List α} {k : Nat} {c : α} (hZ : Z = (l.take k).map f ++ l.drop k) (hc : l[k]? = some c) : Z[k]? = some c ∧ Z.set k (f c) = (l.take (k + 1)).map f ++ l.drop (k + 1) := by
  have hk : k < l.length := (List.getElem?_eq_some_iff.1 hc).1
  have hlen : ((l.take k).map f).length = k := by rw [List.length_map, List.length_take]; omega
  have hdr := drop_get hc
  subst hZ
  constructor
  · rw [List.getElem?_append_right (by omega), hlen, Nat.sub_self, hdr]; rfl
  · rw [List.set_append_right _ _ (by omega), hlen, Nat.sub_self, hdr, take_get hc, List.map_append, List.append_assoc]; rfl
theorem outR_set {X : List (List Cell)} {k : Nat} {l m : List Cell} (h : X[k]? = some l) (hm : m.length = l.length) : outR (X.set k m) = outR X := by
  unfold outR
  rw [List.length_set, List.map_set, hm]
  congr 1
  refine List.ext_getElem? fun j => ?_
  rw [List.getElem?_set]
  split
  · rename_i e
    subst e
    split
    · rw [List.getElem?_map, h]; rfl
    · rename_i hn; rw [List.length_map] at hn; rw [List.getElem?_eq_none (by simpa using hn)]
  · rfl
theorem spD_get {X : List (List Cell)} {k : Nat} {l : List Cell} (h : X[k]? = some l) : (spD X)[k]? = some (l.map Cell.row) := by simp [spD, h]
theorem outR_get {X : List (List Cell)} {k : Nat} {l : List Cell} (h : X[k]? = some l) : (outR X)[k]? = some [.hs (1000000 + k) 0 l.length] := by
  have hk : k < X.length := (List.getElem?_eq_some_iff.1 h).1
  exact rowsAt_get (idsN_get hk) (by simp [h])
theorem weak_fzout {n : Nat} {tm : List (Nat × AV)} {nxt id eo : Nat} {e : TypeId} {m : Nat} (hid : id < 1000000) (htm : tmLow tm = true) (X : List (List Cell)) :
    Weak ⟨n, tm, (id, some ⟨eo, 1, outR X⟩) :: dyn e m 0 (spD X), nxt⟩ ⟨n, tm, [(id, some ⟨eo, 1, dr (X.map fun l => [encCells l])⟩)], nxt⟩ := by
  have h := weak_fzdyn (n := n) (nxt := nxt) (eo := eo) (mo := 1) (e := e) (m := m) hid htm (spD X)
  rw [← outR_eq] at h
  have e2 : (spD X).map (fun r => [D.sl r]) = X.map fun l => [encCells l] := by simp [spD, Function.comp_def]
  rw [e2] at h
  exact h
theorem nestH_out {eo e m : Nat} (X : List (List Cell)) : nestH eo e m (spD X) = (999999, some ⟨eo, 1, outR X⟩) :: dyn e m 0 (spD X) := by rw [outR_eq]; rfl

set_option maxHeartbeats 8000000 in
theorem spans_row (r b : List Row) (hr : validR r = true) (hb0 : validR b = true) (hn : (regCells r).length ≤ 1000000) : PC Tryz.prog 30 [.agg (regRow r), .agg (regRow b), .bool false] (.p (encSpans (spansL r b))) := by
  have c1 := rowspans_px r b hr hb0 hn
  have hl : (spD (spansL r b)).length ≤ 1000000000 := by
    have h1 := (opR_facts (f := fD) rfl hr hb0).1
    have h2 := span_num (H := opR fI r b) h1
    have h3 := cells_le h1 hr fun c hc => ((opD_iff hr hb0 c).1 hc).1
    rw [spD_length]
    unfold spansL
    omega
  generalize spansL r b = X at *
  refine pc_of_awp cx (fn := Tryz.f30) (c := _) Tryz.func30 rfl rfl (Nat.le_of_ble_eq_true rfl) ?_
  rw [Tryz.ntmps30]; refine Nav.imp ?_
  refine awp_region cx [] fun K hK => ?_
  simp [push_cast]
  repeat (refine And.intro (by clear hK; intros; first | omega | (simp_all; done) | (simp_all <;> omega)) ?_)
  refine hK _ ?_; clear hK K; refine Nav.imp ?_
  refine awp_region cx [] fun K hK => ?_
  simp [push_cast]
  repeat (refine And.intro (by clear hK; intros; first | omega | (simp_all; done) | (simp_all <;> omega)) ?_)
  refine hK _ ?_; clear hK K; refine Nav.imp ?_
  refine awp_cond (b := true) (by simp [push_cast]) (fun hb => ?_) (fun hb => ?_) <;> (refine Nav.imp ?_)
  · refine awp_region_dynT cx [] [_, _] [_] _ rfl rfl rfl rfl ⟨46, [(14, .d (.agg (regRow r))), (15, .d (.agg (regRow b)))], [], 10⟩ 51 [] rfl [.d (.agg (regRow r)), .d (.agg (regRow b))] 45 49 2 (spD X) c1 hl (by simp [push_cast]) (by simp) (by simp) (fun K hK => ?_) (fun K hK => ?_)
    · simp [push_cast]
      refine hK _ ?_
      refine weak_of [] rfl (by simp [upT, up, upL, push_cast]) (by simp [upH, upR, upL, up, push_cast]) (by simp [namesOk, push_cast]) (by simp [olds])
    · simp [push_cast, nestH_out, spD_length]
      refine hK _ (sq_n ?_)
      clear hK K
      refine awp_weak (weak_fzout (by decide) rfl X) ?_
      refine Nav.imp ?_
      simp [push_cast]
  · simp at hb

theorem spD_set (X : List (List Cell)) (k : Nat) (m : List Cell) : spD (X.set k m) = (spD X).set k (m.map Cell.row) := by simp [spD, List.map_set]

set_option maxHeartbeats 16000000 in
theorem spans_col (r b : List Row) (hr : validR r = true) (hb0 : validR b = true) (hn : (regCells r).length ≤ 1000000) (hnb : (regCells b).length ≤ 1000000) : PC Tryz.prog 30 [.agg (regRow r), .agg (regRow b), .bool true] (.p (encSpans ((spansL (turnR r) (turnR b)).map (·.map xc)))) := by
  obtain ⟨hr1, _, hr3⟩ := turn_facts hr
  obtain ⟨hb1, _, _⟩ := turn_facts hb0
  have t1 := turned_ok r hr hn
  have t2 := turned_ok b hb0 hnb
  have c1 := rowspans_px (turnR r) (turnR b) hr1 hb1 (by omega)
  have h1 := (opR_facts (f := fD) rfl hr1 hb1).1
  have h3 := cells_le h1 hr1 fun c hc => ((opD_iff hr1 hb1 c).1 hc).1
  have h2 := span_num (H := opR fI (turnR r) (turnR b)) h1
  have hmem : ∀ l ∈ spansL (turnR r) (turnR b), l.length ≤ 1000000 := fun l hl => by
    have := flat_mem hl
    omega
  have hl : (spansL (turnR r) (turnR b)).length ≤ 1000000 := by
    unfold spansL
    omega
  have hl2 : (spD (spansL (turnR r) (turnR b))).length ≤ 1000000000 := by rw [spD_length]; omega
  generalize spansL (turnR r) (turnR b) = X at *
  generalize turnR r = r1 at *
  generalize turnR b = b1 at *
  clear h1 h2 h3 hr1 hb1 hr3
  refine pc_of_awp cx (fn := Tryz.f30) (c := _) Tryz.func30 rfl rfl (Nat.le_of_ble_eq_true rfl) ?_
  rw [Tryz.ntmps30]; refine Nav.imp ?_
  refine awp_region cx [] fun K hK => ?_
  simp [push_cast]
  repeat (refine And.intro (by clear hK; intros; first | omega | (simp_all; done) | (simp_all <;> omega)) ?_)
  refine hK _ ?_; clear hK K; refine Nav.imp ?_
  refine awp_region cx [] fun K hK => ?_
  simp [push_cast]
  repeat (refine And.intro (by clear hK; intros; first | omega | (simp_all; done) | (simp_all <;> omega)) ?_)
  refine hK _ ?_; clear hK K; refine Nav.imp ?_
  refine awp_cond (b := false) (by simp [push_cast]) (fun hb => ?_) (fun hb => ?_) <;> (refine Nav.imp ?_)
  · simp at hb
  · refine awp_region_dyn cx mixed [(1, .p (.agg (regRow r1))), (3, .p (.agg (regRow b1)))] [_, _, _, _] [_] _ rfl rfl rfl rfl (.alt 0 (.alt 1 (.alt 2 (.alt 3 .leaf .stop) .stop) (.alt 2 (.alt 1 (.alt 3 .leaf .stop) .stop) .stop)) (.alt 2 (.alt 0 (.alt 1 (.alt 3 .leaf .stop) .stop) .stop) .stop)) (by kernel_rfl) ⟨46, [(18, .d (.agg (regRow r1))), (20, .d (.agg (regRow b1)))], [], 10⟩ 51 [] rfl [.d (.agg (regRow r1)), .d (.agg (regRow b1))] 45 49 2 (spD X) c1 hl2 (by simp [push_cast]) (by simp) (by simp) (fun K hK => ?_) (fun K hK => ?_)
    · simp [push_cast, wpTr, stepE, t1, t2]
      refine ⟨⟨hK _ ?_, hK _ ?_⟩, hK _ ?_⟩
      · refine weak_of [] rfl (by simp [upT, up, upL, push_cast]) (by simp [upH, upR, upL, up, push_cast]) (by simp [namesOk, push_cast]) (by simp [olds])
      · refine weak_of [] rfl (by simp [upT, up, upL, push_cast]) (by simp [upH, upR, upL, up, push_cast]) (by simp [namesOk, push_cast]) (by simp [olds])
      · refine weak_of [] rfl (by simp [upT, up, upL, push_cast]) (by simp [upH, upR, upL, up, push_cast]) (by simp [namesOk, push_cast]) (by simp [olds])
    · simp [push_cast, nestH_out, spD_length]
      refine hK _ ?_
      clear hK K
      refine Nav.imp ?_
      refine awp_region cx [] fun K hK => ?_
      simp [push_cast]
      repeat (refine And.intro (by clear hK; intros; first | omega | (simp_all; done) | (simp_all <;> omega)) ?_)
      refine hK _ ?_; clear hK K; refine Nav.imp ?_
      refine awp_loop (β := Nat × List (List Cell)) (fun s => ⟨46, [(7, .hs 0 0 s.2.length), (22, .hs 0 0 s.2.length), (23, .d (.int .i64 s.2.length)), (24, .d (.int .i64 s.1))], [(0, some ⟨45, 1, outR s.2⟩)] ++ dyn 49 2 0 (spD s.2), 1000000000000⟩) (fun s => s.1 ≤ X.length ∧ s.2 = (X.take s.1).map (·.map xc) ++ X.drop s.1) (fun s => X.length - s.1) (0, X) ?_ ⟨Nat.zero_le _, by simp⟩ ?_
      · have hl0 : (spD X).length ≤ 1000000 := by rw [spD_length]; exact hl
        have hup := upR_out (σ0 := [(0, some 999999)]) rfl X
        simp only [List.cons_append, List.nil_append] at hup
        refine weak_dyn [(0, some 999999)] (idsN (spD X).length) _ (spD X) rfl rfl ?_ (idsN_length _) rfl (by simp [upT, up, upL, upH, upR, namesOk, olds, find_app, find_dynN0, List.cons_append, List.nil_append, push_cast, hup]) (by simp [upT, up, upL, upH, upR, namesOk, olds, find_app, find_dynN0, List.cons_append, List.nil_append, push_cast, hup]) (by simp [upT, up, upL, upH, upR, namesOk, olds, find_app, find_dynN0, List.cons_append, List.nil_append, push_cast]) (by simp [olds]) (idsN_nodup _) (fun x hx => by have h1 := idsN_mem.1 hx; simp [olds]; omega) (fun j r_ x hr_ hx => by
          obtain ⟨hj, rfl⟩ := idsN_get' hx
          have hjN : ∀ m, (m < 1000000 ∨ 1000000000 < m) → (m = 1000000 + j) = False := fun m hm => by simp; omega
          first | (simp [spD] at hr_; done) | simp [push_cast, find_dyn0, hr_, hjN, hup])
        omega
      · rintro ⟨k, Y⟩ ⟨hk, hY⟩
        simp only at hk hY
        have hYl : Y.length = X.length := by rw [hY]; simp; omega
        refine Nav.imp ?_
        refine awp_region cx [] fun K hK => ?_
        simp [push_cast]
        repeat (refine And.intro (by clear hK; intros; first | omega | (simp_all; done) | (simp_all <;> omega)) ?_)
        refine hK _ ?_; clear hK K; refine Nav.imp ?_
        refine awp_cond (b := decide ((k : Int) < Y.length)) (by simp [push_cast]) (fun hb => ?_) (fun hb => ?_) <;> (refine Nav.imp ?_)
        · have hkX : k < X.length := by have : k < Y.length := by simpa using hb
                                        omega
          obtain ⟨l, hl1⟩ := getq hkX
          have e0 := wrap_i64 (n := (k : Int) + 1) (by omega) (by omega)
          obtain ⟨hyk, hys⟩ := set_stepG hY hl1
          have hll := hmem l (List.mem_of_getElem? hl1)
          have hor := outR_get hyk
          have hsy := spD_get hyk
          have hkN : ∀ m, (m < 1000000 ∨ 1000000000 < m) → (m = 1000000 + k) = False := fun m hm => by simp; omega
          have hkY : k < Y.length := by omega
          refine awp_region cx [] fun K hK => ?_
          simp [push_cast, hor]
          repeat (refine And.intro (by clear hK; intros; first | omega | (simp_all; done) | (simp_all <;> omega)) ?_)
          refine hK _ ?_; clear hK K; refine Nav.imp ?_
          refine awp_region cx [] fun K hK => ?_
          simp [push_cast, hkN, find_dyn0, hsy]
          repeat (refine And.intro (by clear hK; intros; first | omega | (simp_all; done) | (simp_all <;> omega)) ?_)
          refine hK _ ?_; clear hK K; refine Nav.imp ?_
          refine awp_loop (β := Nat × List Cell) (fun s => ⟨46, [(7, .hs 0 0 Y.length), (9, .hs (1000000 + k) 0 l.length), (22, .hs 0 0 Y.length), (23, .d (.int .i64 Y.length)), (24, .d (.int .i64 k)), (28, .hs (1000000 + k) 0 l.length), (29, .d (.int .i64 l.length)), (30, .d (.int .i64 s.1))], [(0, some ⟨45, 1, outR Y⟩)] ++ dyn 49 2 0 (spD (Y.set k s.2)), 1000000000000⟩) (fun s => s.1 ≤ l.length ∧ s.2 = (l.take s.1).map xc ++ l.drop s.1) (fun s => l.length - s.1) (0, l) ?_ ⟨Nat.zero_le _, by simp⟩ ?_
          · have hse : Y.set k l = Y := by
              refine List.ext_getElem? fun j => ?_
              rw [List.getElem?_set]
              split
              · rename_i e; subst e; first | (rw [if_pos hkY, hyk]; done) | exact hyk.symm
              · rfl
            have hl0 : (spD Y).length ≤ 1000000 := by rw [spD_length]; omega
            simp only [hse]
            have hik : (idsN (spD Y).length)[k]? = some (1000000 + k) := idsN_get (by rw [spD_length]; exact hkY)
            have hup := upR_out (σ0 := [(0, some 0)]) rfl Y
            simp only [List.cons_append, List.nil_append] at hup
            refine weak_dyn [(0, some 0)] (idsN (spD Y).length) _ (spD Y) rfl rfl ?_ (idsN_length _) rfl (by simp [upT, up, upL, upH, upR, namesOk, olds, find_app, find_dynN0, List.cons_append, List.nil_append, push_cast, hkN, hik, find_dynN0, hup]) (by simp [upT, up, upL, upH, upR, namesOk, olds, find_app, find_dynN0, List.cons_append, List.nil_append, push_cast, hkN, hik, find_dynN0, hup]) (by simp [upT, up, upL, upH, upR, namesOk, olds, find_app, find_dynN0, List.cons_append, List.nil_append, push_cast]) (by simp [olds]) (idsN_nodup _) (fun x hx => by have h1 := idsN_mem.1 hx; simp [olds]; omega) (fun j r_ x hr_ hx => by
              obtain ⟨hj, rfl⟩ := idsN_get' hx
              have hjN : ∀ m, (m < 1000000 ∨ 1000000000 < m) → (m = 1000000 + j) = False := fun m hm => by simp; omega
              first | (simp [spD] at hr_; done) | simp [push_cast, find_dyn0, hr_, hjN, hkN, hik, find_dynN0, hup])
            omega
          · rintro ⟨i, m⟩ ⟨hi, hm⟩
            simp only at hi hm
            have hml : m.length = l.length := by rw [hm]; simp; omega
            have hSk : (spD (Y.set k m))[k]? = some (m.map Cell.row) := spD_get (by rw [List.getElem?_set]; simp [hkY])
            have hlen2 : (spD (Y.set k m)).length = Y.length := by rw [spD_length, List.length_set]
            refine Nav.imp ?_
            refine awp_region cx [] fun K hK => ?_
            simp [push_cast]
            repeat (refine And.intro (by clear hK; intros; first | omega | (simp_all; done) | (simp_all <;> omega)) ?_)
            refine hK _ ?_; clear hK K; refine Nav.imp ?_
            refine awp_cond (b := decide ((i : Int) < l.length)) (by simp [push_cast]) (fun hb => ?_) (fun hb => ?_) <;> (refine Nav.imp ?_)
            · have hil : i < l.length := by simpa using hb
              obtain ⟨c, hc⟩ := getq hil
              have e1 := wrap_i64 (n := (i : Int) + 1) (by omega) (by omega)
              obtain ⟨hmi, hms⟩ := set_stepG hm hc
              obtain ⟨x, y⟩ := c
              have him : i < m.length := by omega
              have hset : (dr (m.map Cell.row)).set i [AV.d (.int .i64 y), AV.d (.int .i64 x)] = dr ((m.set i (xc ⟨x, y⟩)).map Cell.row) := by
                rw [List.map_set, dr_set]; rfl
              have hSk2 : (spD (Y.set k (m.set i (xc ⟨x, y⟩))))[k]? = some ((m.set i (xc ⟨x, y⟩)).map Cell.row) := spD_get (by rw [List.getElem?_set]; simp [hkY])
              have hSj : ∀ j, j ≠ k → (spD (Y.set k (m.set i (xc ⟨x, y⟩))))[j]? = (spD (Y.set k m))[j]? := fun j hj => by
                rw [spD_set, spD_set, List.getElem?_set, List.getElem?_set, if_neg (Ne.symm hj), if_neg (Ne.symm hj)]
              have hlen3 : (spD (Y.set k (m.set i (xc ⟨x, y⟩)))).length = Y.length := by rw [spD_length, List.length_set]
              generalize m.set i (xc ⟨x, y⟩) = m2 at *
              refine awp_region cx [] fun K hK => ?_
              simp [push_cast, hkN, find_dyn0, hSk, hmi, Cell.row]
              repeat (refine And.intro (by clear hK; intros; first | omega | (simp_all; done) | (simp_all <;> omega)) ?_)
              refine hK _ ?_; clear hK K; refine Nav.imp ?_
              refine awp_region cx [] fun K hK => ?_
              simp [push_cast, hkN, find_dyn0, hSk, hmi, Cell.row, hset]
              repeat (refine And.intro (by clear hK; intros; first | omega | (simp_all; done) | (simp_all <;> omega)) ?_)
              refine hK _ ?_; clear hK K; refine Nav.imp ?_
              refine awp_region cx [] fun K hK => ?_
              simp [push_cast, e1]
              repeat (refine And.intro (by clear hK; intros; first | omega | (simp_all; done) | (simp_all <;> omega)) ?_)
              refine hK _ ?_; clear hK K; refine Nav.imp ?_
              refine ⟨(i + 1, m2), ⟨hil, hms⟩, by simp only; omega, ?_⟩
              have hup := upR_out (σ0 := [(0, some 0)]) rfl Y
              rw [spD_length] at hup
              simp only [List.cons_append, List.nil_append] at hup
              have hik : (idsN Y.length)[k]? = some (1000000 + k) := idsN_get hkY
              refine weak_dyn [(0, some 0)] (idsN Y.length) _ (spD (Y.set k m2)) rfl rfl (by omega) (by rw [idsN_length, hlen3]) rfl (by simp [upT, up, upL, upH, upR, namesOk, olds, find_app, find_dynN0, List.cons_append, List.nil_append, push_cast, hkN, hik]) (by simp [upT, up, upL, upH, upR, namesOk, olds, find_app, find_dynN0, List.cons_append, List.nil_append, push_cast, hup, hkN]) (by simp [namesOk, push_cast]) (by simp [olds]) (idsN_nodup _) (fun x hx => by have h1 := idsN_mem.1 hx; simp [olds]; omega) (fun j r_ x hr_ hx => ?_)
              obtain ⟨hj, rfl⟩ := idsN_get' hx
              have hjN : ∀ m, (m < 1000000 ∨ 1000000000 < m) → (m = 1000000 + j) = False := fun m hm => by simp; omega
              by_cases hjk : j = k
              · subst hjk
                rw [hSk2] at hr_
                cases hr_
                simp [push_cast, hjN]
              · rw [hSj j hjk] at hr_
                have hne : (1000000 + k = 1000000 + j) = False := by simp; omega
                have hne2 : (k = j) = False := by simp; omega
                simp [push_cast, hjN, hne, hne2, find_dyn0, hr_]
            · have hie : i = l.length := by simp at hb; omega
              rw [hie, List.take_length, List.drop_length, List.append_nil] at hm
              subst hm
              have hoe : outR (Y.set k (l.map xc)) = outR Y := outR_set hyk (by simp)
              refine awp_region cx [] fun K hK => ?_
              simp [push_cast, e0]
              repeat (refine And.intro (by clear hK; intros; first | omega | (simp_all; done) | (simp_all <;> omega)) ?_)
              refine hK _ ?_; clear hK K; refine Nav.imp ?_
              refine ⟨(k + 1, Y.set k (l.map xc)), ⟨hkX, hys⟩, by simp only; omega, ?_⟩
              have hup := upR_out (σ0 := [(0, some 0)]) rfl (Y.set k (l.map xc))
              rw [hoe] at hup
              simp only [List.cons_append, List.nil_append] at hup
              have hl0 : (spD (Y.set k (l.map xc))).length ≤ 1000000 := by omega
              have hls : (Y.set k (l.map xc)).length = Y.length := List.length_set ..
              refine weak_dyn [(0, some 0)] (idsN (spD (Y.set k (l.map xc))).length) _ (spD (Y.set k (l.map xc))) rfl rfl ?_ (idsN_length _) rfl (by simp [upT, up, upL, upH, upR, namesOk, olds, find_app, find_dynN0, List.cons_append, List.nil_append, push_cast, hup, hoe, hls]) (by simp [upT, up, upL, upH, upR, namesOk, olds, find_app, find_dynN0, List.cons_append, List.nil_append, push_cast, hup, hoe, hls]) (by simp [upT, up, upL, upH, upR, namesOk, olds, find_app, find_dynN0, List.cons_append, List.nil_append, push_cast]) (by simp [olds]) (idsN_nodup _) (fun x hx => by have h1 := idsN_mem.1 hx; simp [olds]; omega) (fun j r_ x hr_ hx => by
                obtain ⟨hj, rfl⟩ := idsN_get' hx
                have hjN : ∀ m, (m < 1000000 ∨ 1000000000 < m) → (m = 1000000 + j) = False := fun m hm => by simp; omega
                first | (simp [spD] at hr_; done) | simp [push_cast, find_dyn0, hr_, hjN, hup, hoe, hls])
              omega
        · have hke : k = X.length := by simp at hb; omega
          rw [hke, List.take_length, List.drop_length, List.append_nil] at hY
          subst hY
          refine awp_weak (weak_fzout (by decide) rfl _) ?_
          generalize X.map (fun l => l.map xc) = W at *
          have ht : List.take W.length (W.map fun l => [encCells l]) = W.map fun l => [encCells l] := List.take_of_length_le (by simp)
          refine awp_region cx [] fun K hK => ?_
          simp [push_cast]
          repeat (refine And.intro (by clear hK; intros; first | omega | (simp_all; done) | (simp_all <;> omega)) ?_)
          refine hK _ ?_; clear hK K; refine Nav.imp ?_
          simp [push_cast, ht]
end Go.Proofs.YtknelhiejjdioaaGreat

set_option linter.unusedVariables false
set_option linter.unusedSimpArgs false
namespace Go.Proofs.YtknelhiejjdioaaGreat
open Go.Abs

/-! The number of cells. -/
def lenN (l : List Run) : Nat := (l.flatMap (runCells 0)).length
theorem lenN_take {l : List Run} {k : Nat} {r : Run} (h : l[k]? = some r) : lenN (l.take (k + 1)) = lenN (l.take k) + (r.b - r.a).toNat := by
  unfold lenN
  rw [flat_take _ h, List.length_append, runCells_len]
theorem rowCells_len (w : Row) : (rowCells w).length = lenN w.runs := by
  unfold rowCells lenN
  rw [List.length_flatMap, List.length_flatMap]
  simp only [runCells_len]
theorem lenN_bound {l : List Run} (h : rvalid l = true) : ∀ k, k ≤ l.length → lenN (l.take k) ≤ k * 2097152
  | 0, _ => by simp [lenN]
  | k + 1, hk => by
    obtain ⟨r, hr⟩ := getq (show k < l.length by omega)
    have h1 := lenN_bound h k (by omega)
    have h2 := fitsB_bd (rvalid_at h hr).2
    rw [lenN_take hr, Nat.succ_mul]
    omega

theorem length_ok (l : List Run) (hl : l.length ≤ 1000000) (hv : rvalid l = true) : PC Tryz.prog 54 [encRuns l] (.p (.int .i64 (lenN l))) := by
  have c1 := rvalid_ok l hl
  rw [hv] at c1
  refine pc_of_awp cx (fn := Tryz.f54) (c := _) Tryz.func54 rfl rfl (Nat.le_of_ble_eq_true rfl) ?_
  rw [Tryz.ntmps54]; refine Nav.imp ?_
  refine awp_region cx [] fun K hK => ?_
  simp [push_cast]
  repeat (refine And.intro (by clear hK; intros; first | omega | (simp_all; done) | (simp_all <;> omega)) ?_)
  refine hK _ ?_; clear hK K; refine Nav.imp ?_
  refine awp_region cx [(1, .p (.bool true))] fun K hK => ?_
  simp [push_cast, c1]
  repeat (refine And.intro (by clear hK; intros; first | omega | (simp_all; done) | (simp_all <;> omega)) ?_)
  refine hK _ ?_; clear hK K; refine Nav.imp ?_
  refine awp_cond (b := false) (by simp [push_cast]) (fun hb => ?_) (fun hb => ?_) <;> (refine Nav.imp ?_)
  · simp at hb
  · refine awp_region cx [] fun K hK => ?_
    simp [push_cast]
    repeat (refine And.intro (by clear hK; intros; first | omega | (simp_all; done) | (simp_all <;> omega)) ?_)
    refine hK _ ?_; clear hK K; refine Nav.imp ?_
    refine awp_region cx [] fun K hK => ?_
    simp [push_cast]
    repeat (refine And.intro (by clear hK; intros; first | omega | (simp_all; done) | (simp_all <;> omega)) ?_)
    refine hK _ ?_; clear hK K; refine Nav.imp ?_
    refine awp_loop (β := Nat × Nat) (fun b => ⟨24, [(3, .d (.int .i64 b.2)), (9, .d (encRuns l)), (10, .d (.int .i64 l.length)), (11, .d (.int .i64 b.1))], [], 0⟩) (fun b => b.1 ≤ l.length ∧ b.2 = lenN (l.take b.1)) (fun b => l.length - b.1) (0, 0) ?_ ⟨Nat.zero_le _, by simp [lenN]⟩ ?_
    · refine weak_of [] rfl (by simp [upT, up, upL, push_cast]) (by simp [upH, upR, upL, up, push_cast]) (by simp [namesOk, push_cast]) (by simp [olds])
    · rintro ⟨k, n0⟩ ⟨hk, hn⟩
      simp only at hk hn
      refine Nav.imp ?_
      refine awp_region cx [] fun K hK => ?_
      simp [push_cast]
      repeat (refine And.intro (by clear hK; intros; first | omega | (simp_all; done) | (simp_all <;> omega)) ?_)
      refine hK _ ?_; clear hK K; refine Nav.imp ?_
      refine awp_cond (b := decide ((k : Int) < l.length)) (by simp [push_cast]) (fun hb => ?_) (fun hb => ?_) <;> (refine Nav.imp ?_)
      · have hlt : k < l.length := by simpa using hb
        obtain ⟨r, hr⟩ := getq hlt
        have hs := lenN_take hr
        have hbd := lenN_bound hv k (by omega)
        rw [← hn] at hs hbd
        have hrf := rvalid_at hv hr
        have hf := fitsB_bd hrf.2
        obtain ⟨ra, rb⟩ := r
        simp only at hs hrf hf
        have e0 := wrap_i64 (n := (k : Int) + 1) (by omega) (by omega)
        have e1 := wrap_i64 (n := rb - ra) (by omega) (by omega)
        have e2 := wrap_i64 (n := (n0 : Int) + (rb - ra)) (by omega) (by omega)
        have e3 : (n0 : Int) + (rb - ra) = (lenN (l.take (k + 1)) : Nat) := by rw [hs]; omega
        rw [e3] at e2
        generalize hn1 : lenN (l.take (k + 1)) = n1 at *
        refine awp_region cx [] fun K hK => ?_
        simp [push_cast, hr, Run.row]
        repeat (refine And.intro (by clear hK; intros; first | omega | (simp_all; done) | (simp_all <;> omega)) ?_)
        refine hK _ ?_; clear hK K; refine Nav.imp ?_
        refine awp_region cx [] fun K hK => ?_
        simp [push_cast, e1, e2, e3, Run.row]
        repeat (refine And.intro (by clear hK; intros; first | omega | (simp_all; done) | (simp_all <;> omega)) ?_)
        refine hK _ ?_; clear hK K; refine Nav.imp ?_
        refine awp_region cx [] fun K hK => ?_
        simp [push_cast, e0]
        repeat (refine And.intro (by clear hK; intros; first | omega | (simp_all; done) | (simp_all <;> omega)) ?_)
        refine hK _ ?_; clear hK K; refine Nav.imp ?_
        refine ⟨(k + 1, n1), ⟨hlt, hn1.symm⟩, by simp only; omega, ?_⟩
        refine weak_of [] rfl (by simp [upT, up, upL, push_cast]) (by simp [upH, upR, upL, up, push_cast]) (by simp [namesOk, push_cast]) (by simp [olds])
      · have hge : k = l.length := by simp at hb; omega
        subst hge
        rw [List.take_length] at hn
        subst hn
        refine awp_region cx [] fun K hK => ?_
        simp [push_cast]
        repeat (refine And.intro (by clear hK; intros; first | omega | (simp_all; done) | (simp_all <;> omega)) ?_)
        refine hK _ ?_; clear hK K; refine Nav.imp ?_
        simp [push_cast]

def countR (R : List Row) : Nat := if validR R then (regCells R).length else 0
theorem rows_bound {R : List Row} (h : validR R = true) (hR : smallR R) : ∀ i, i ≤ R.length → (rowsTo R i).length ≤ i * 2097152000000
  | 0, _ => by simp [rowsTo]
  | i + 1, hi => by
    obtain ⟨w, hw⟩ := getq (show i < R.length by omega)
    have h1 := rows_bound h hR i (by omega)
    have h2 := lenN_bound (fine_rv (validR_at h hw).2) w.runs.length (Nat.le_refl _)
    have h3 := hR.2 w (List.mem_of_getElem? hw)
    rw [rowsTo_next hw, List.length_append, rowCells_len, Nat.succ_mul]
    rw [List.take_length] at h2
    have := Nat.mul_le_mul_right 2097152 h3
    omega
theorem rows_big {R : List Row} (h : validR R = true) (hR : smallR R) {i : Nat} (hi : i ≤ R.length) : (rowsTo R i).length ≤ 2097152000000000000 := by
  have h1 := rows_bound h hR i hi
  have h2 := hR.1
  have := Nat.mul_le_mul_right 2097152000000 (show i ≤ 1000000 by omega)
  omega

theorem count_ok (R : List Row) (hR : smallR R) : PC Tryz.prog 32 [.agg (regRow R)] (.p (.int .i64 (countR R))) := by
  have c1 := valid_ok R hR
  have hl := hR.1
  have hC : countR R = if validR R then (regCells R).length else 0 := rfl
  generalize hv : validR R = v at *
  refine pc_of_awp cx (fn := Tryz.f32) (c := _) Tryz.func32 rfl rfl (Nat.le_of_ble_eq_true rfl) ?_
  rw [Tryz.ntmps32]; refine Nav.imp ?_
  refine awp_region cx [] fun K hK => ?_
  simp [push_cast]
  repeat (refine And.intro (by clear hK; intros; first | omega | (simp_all; done) | (simp_all <;> omega)) ?_)
  refine hK _ ?_; clear hK K; refine Nav.imp ?_
  refine awp_region cx [(1, .p (.bool v))] fun K hK => ?_
  simp [push_cast, c1]
  repeat (refine And.intro (by clear hK; intros; first | omega | (simp_all; done) | (simp_all <;> omega)) ?_)
  refine hK _ ?_; clear hK K; refine Nav.imp ?_
  refine awp_cond (b := !v) (by simp [push_cast]) (fun hb => ?_) (fun hb => ?_) <;> (refine Nav.imp ?_)
  · simp at hb
    rw [hC, hb]
    refine awp_region cx [] fun K hK => ?_
    simp [push_cast]
    repeat (refine And.intro (by clear hK; intros; first | omega | (simp_all; done) | (simp_all <;> omega)) ?_)
    refine hK _ ?_; clear hK K; refine Nav.imp ?_
    simp [push_cast]
  · simp at hb
    rw [hb] at hv hC
    rw [hC, if_pos rfl]
    clear hC
    refine awp_region cx [] fun K hK => ?_
    simp [push_cast]
    repeat (refine And.intro (by clear hK; intros; first | omega | (simp_all; done) | (simp_all <;> omega)) ?_)
    refine hK _ ?_; clear hK K; refine Nav.imp ?_
    refine awp_region cx [] fun K hK => ?_
    simp [push_cast]
    repeat (refine And.intro (by clear hK; intros; first | omega | (simp_all; done) | (simp_all <;> omega)) ?_)
    refine hK _ ?_; clear hK K; refine Nav.imp ?_
    refine awp_loop (β := Nat × Nat) (fun b => ⟨23, [(3, .d (.int .i64 b.2)), (10, .d (encRows R)), (11, .d (.int .i64 R.length)), (12, .d (.int .i64 b.1))], [], 0⟩) (fun b => b.1 ≤ R.length ∧ b.2 = (rowsTo R b.1).length) (fun b => R.length - b.1) (0, 0) ?_ ⟨Nat.zero_le _, by simp [rowsTo]⟩ ?_
    · refine weak_of [] rfl (by simp [upT, up, upL, push_cast]) (by simp [upH, upR, upL, up, push_cast]) (by simp [namesOk, push_cast]) (by simp [olds])
    · rintro ⟨k, n0⟩ ⟨hk, hn⟩
      simp only at hk hn
      refine Nav.imp ?_
      refine awp_region cx [] fun K hK => ?_
      simp [push_cast]
      repeat (refine And.intro (by clear hK; intros; first | omega | (simp_all; done) | (simp_all <;> omega)) ?_)
      refine hK _ ?_; clear hK K; refine Nav.imp ?_
      refine awp_cond (b := decide ((k : Int) < R.length)) (by simp [push_cast]) (fun hb => ?_) (fun hb => ?_) <;> (refine Nav.imp ?_)
      · have hlt : k < R.length := by simpa using hb
        obtain ⟨w, hw⟩ := getq hlt
        have hs : (rowsTo R (k + 1)).length = n0 + lenN w.runs := by rw [rowsTo_next hw, List.length_append, rowCells_len, hn]
        have hbd := rows_big hv hR (i := k + 1) hlt
        have c2 := length_ok w.runs (hR.2 w (List.mem_of_getElem? hw)) (fine_rv (validR_at hv hw).2)
        have e0 := wrap_i64 (n := (k : Int) + 1) (by omega) (by omega)
        have e2 := wrap_i64 (n := (n0 : Int) + (lenN w.runs : Nat)) (by omega) (by omega)
        have e3 : (n0 : Int) + (lenN w.runs : Nat) = ((rowsTo R (k + 1)).length : Nat) := by rw [hs]; omega
        rw [e3] at e2
        generalize hn1 : (rowsTo R (k + 1)).length = n1 at *
        obtain ⟨y, ru⟩ := w
        simp only at c2 e3
        generalize lenN ru = m at *
        refine awp_region cx [] fun K hK => ?_
        simp [push_cast, hw, Row.row]
        repeat (refine And.intro (by clear hK; intros; first | omega | (simp_all; done) | (simp_all <;> omega)) ?_)
        refine hK _ ?_; clear hK K; refine Nav.imp ?_
        refine awp_region cx [(3, .p (.int .i64 m))] fun K hK => ?_
        simp [push_cast, c2, e2, e3, Row.row]
        repeat (refine And.intro (by clear hK; intros; first | omega | (simp_all; done) | (simp_all <;> omega)) ?_)
        refine hK _ ?_; clear hK K; refine Nav.imp ?_
        refine awp_region cx [] fun K hK => ?_
        simp [push_cast, e0]
        repeat (refine And.intro (by clear hK; intros; first | omega | (simp_all; done) | (simp_all <;> omega)) ?_)
        refine hK _ ?_; clear hK K; refine Nav.imp ?_
        refine ⟨(k + 1, n1), ⟨hlt, hn1.symm⟩, by simp only; omega, ?_⟩
        refine weak_of [] rfl (by simp [upT, up, upL, push_cast]) (by simp [upH, upR, upL, up, push_cast]) (by simp [namesOk, push_cast]) (by simp [olds])
      · have hge : k = R.length := by simp at hb; omega
        subst hge
        rw [rowsTo_all] at hn
        subst hn
        refine awp_region cx [] fun K hK => ?_
        simp [push_cast]
        repeat (refine And.intro (by clear hK; intros; first | omega | (simp_all; done) | (simp_all <;> omega)) ?_)
        refine hK _ ?_; clear hK K; refine Nav.imp ?_
        simp [push_cast]

theorem rcount_big (R : List Row) (hR0 : bigR R) (hR1 : validR R = true → smallR R) : PC Tryz.prog 27 [.agg (regRow R)] (.p (.int .i64 (countR R))) := by
  have c1 := validR_big R hR0
  have hC : countR R = if validR R then (regCells R).length else 0 := rfl
  generalize hv : validR R = v at *
  refine pc_of_awp cx (fn := Tryz.f27) (c := _) Tryz.func27 rfl rfl (Nat.le_of_ble_eq_true rfl) ?_
  rw [Tryz.ntmps27]; refine Nav.imp ?_
  refine awp_region cx [] fun K hK => ?_
  simp [push_cast]
  repeat (refine And.intro (by clear hK; intros; first | omega | (simp_all; done) | (simp_all <;> omega)) ?_)
  refine hK _ ?_; clear hK K; refine Nav.imp ?_
  refine awp_region cx [] fun K hK => ?_
  simp [push_cast]
  repeat (refine And.intro (by clear hK; intros; first | omega | (simp_all; done) | (simp_all <;> omega)) ?_)
  refine hK _ ?_; clear hK K; refine Nav.imp ?_
  refine awp_region cx [(1, .p (.bool v))] fun K hK => ?_
  simp [push_cast, c1]
  repeat (refine And.intro (by clear hK; intros; first | omega | (simp_all; done) | (simp_all <;> omega)) ?_)
  refine hK _ ?_; clear hK K; refine Nav.imp ?_
  refine awp_cond (b := !v) (by simp [push_cast]) (fun hb => ?_) (fun hb => ?_) <;> (refine Nav.imp ?_)
  · simp at hb
    rw [hC, hb]
    refine awp_region cx [] fun K hK => ?_
    simp [push_cast]
    repeat (refine And.intro (by clear hK; intros; first | omega | (simp_all; done) | (simp_all <;> omega)) ?_)
    refine hK _ ?_; clear hK K; refine Nav.imp ?_
    simp [push_cast]
  · simp at hb
    rw [hb] at hv hC
    rw [hC, if_pos rfl]
    clear hC
    have hR := hR1 hb
    have hl := hR.1
    refine awp_region cx [] fun K hK => ?_
    simp [push_cast]
    repeat (refine And.intro (by clear hK; intros; first | omega | (simp_all; done) | (simp_all <;> omega)) ?_)
    refine hK _ ?_; clear hK K; refine Nav.imp ?_
    refine awp_loop (β := Nat × Nat) (fun b => ⟨52, [(1, .ptr 0 0 0), (3, .d (.int .i64 b.2)), (4, .d (.int .i64 b.1))], [(0, some ⟨24, 1, [(regRow R).map .d]⟩)], 1⟩) (fun b => b.1 ≤ R.length ∧ b.2 = (rowsTo R b.1).length) (fun b => R.length - b.1) (0, 0) ?_ ⟨Nat.zero_le _, by simp [rowsTo]⟩ ?_
    · refine weak_of [(0, some 0)] rfl (by simp [upT, up, upL, push_cast]) (by simp [upH, upR, upL, up, push_cast]) (by simp [namesOk, push_cast]) (by simp [olds])
    · rintro ⟨k, n0⟩ ⟨hk, hn⟩
      simp only at hk hn
      refine Nav.imp ?_
      refine awp_region cx [] fun K hK => ?_
      simp [push_cast]
      repeat (refine And.intro (by clear hK; intros; first | omega | (simp_all; done) | (simp_all <;> omega)) ?_)
      refine hK _ ?_; clear hK K; refine Nav.imp ?_
      refine awp_cond (b := decide ((k : Int) < R.length)) (by simp [push_cast]) (fun hb => ?_) (fun hb => ?_) <;> (refine Nav.imp ?_)
      · have hlt : k < R.length := by simpa using hb
        obtain ⟨w, hw⟩ := getq hlt
        have hs : (rowsTo R (k + 1)).length = n0 + lenN w.runs := by rw [rowsTo_next hw, List.length_append, rowCells_len, hn]
        have hbd := rows_big hv hR (i := k + 1) hlt
        have hwl := hR.2 w (List.mem_of_getElem? hw)
        have hfi := (validR_at hv hw).2
        have e0 := wrap_i64 (n := (k : Int) + 1) (by omega) (by omega)
        refine awp_region cx [] fun K hK => ?_
        simp [push_cast]
        repeat (refine And.intro (by clear hK; intros; first | omega | (simp_all; done) | (simp_all <;> omega)) ?_)
        refine hK _ ?_; clear hK K; refine Nav.imp ?_
        refine awp_loop (β := Nat × Nat) (fun b => ⟨52, [(1, .ptr 0 0 0), (3, .d (.int .i64 b.2)), (4, .d (.int .i64 k)), (5, .d (.int .i64 b.1))], [(0, some ⟨24, 1, [(regRow R).map .d]⟩)], 1⟩) (fun b => b.1 ≤ w.runs.length ∧ b.2 = n0 + lenN (w.runs.take b.1)) (fun b => w.runs.length - b.1) (0, n0) ?_ ⟨Nat.zero_le _, by simp [lenN]⟩ ?_
        · refine weak_of [(0, some 0)] rfl (by simp [upT, up, upL, push_cast]) (by simp [upH, upR, upL, up, push_cast]) (by simp [namesOk, push_cast]) (by simp [olds])
        · rintro ⟨j, n1⟩ ⟨hj, hn1⟩
          simp only at hj hn1
          refine Nav.imp ?_
          refine awp_region cx [] fun K hK => ?_
          simp [push_cast, hw, Row.row]
          repeat (refine And.intro (by clear hK; intros; first | omega | (simp_all; done) | (simp_all <;> omega)) ?_)
          refine hK _ ?_; clear hK K; refine Nav.imp ?_
          refine awp_cond (b := decide ((j : Int) < w.runs.length)) (by simp [push_cast]) (fun hb => ?_) (fun hb => ?_) <;> (refine Nav.imp ?_)
          · have hjl : j < w.runs.length := by simpa using hb
            obtain ⟨r, hr⟩ := getq hjl
            have hs2 := lenN_take hr
            have hbj := lenN_bound (fine_rv hfi) j (by omega)
            have hbig := rows_big hv hR hk
            have hrf := fine_at hfi hr
            obtain ⟨ra, rb⟩ := r
            simp only at hs2 hrf
            have e1 := wrap_i64 (n := (j : Int) + 1) (by omega) (by omega)
            have e4 := wrap_i64 (n := rb - ra) (by omega) (by omega)
            have e2 := wrap_i64 (n := (n1 : Int) + (rb - ra)) (by omega) (by omega)
            have e3 : (n1 : Int) + (rb - ra) = ((n0 + lenN (w.runs.take (j + 1)) : Nat) : Int) := by rw [hs2]; omega
            generalize hn2 : n0 + lenN (w.runs.take (j + 1)) = n2 at *
            rw [e3] at e2
            refine awp_region_draw cx mixed [] fun K hK => ?_
            simp [push_cast, hw, hr, e4, e2, e3, Row.row, Run.row]
            repeat (refine And.intro (by clear hK; intros; first | omega | (simp_all; done) | (simp_all <;> omega)) ?_)
            refine hK _ _ (by kernel_rfl) ?_; clear hK K; refine Nav.imp ?_
            refine awp_region cx [] fun K hK => ?_
            simp [push_cast, e1]
            repeat (refine And.intro (by clear hK; intros; first | omega | (simp_all; done) | (simp_all <;> omega)) ?_)
            refine hK _ ?_; clear hK K; refine Nav.imp ?_
            refine ⟨(j + 1, n2), ⟨hjl, hn2.symm⟩, by simp only; omega, ?_⟩
            refine weak_of [(0, some 0)] rfl (by simp [upT, up, upL, push_cast]) (by simp [upH, upR, upL, up, push_cast]) (by simp [namesOk, push_cast]) (by simp [olds])
          · have hjn : j = w.runs.length := by simp at hb; omega
            subst hjn
            rw [List.take_length] at hn1
            rw [← hn1] at hs
            refine awp_region cx [] fun K hK => ?_
            simp [push_cast, e0]
            repeat (refine And.intro (by clear hK; intros; first | omega | (simp_all; done) | (simp_all <;> omega)) ?_)
            refine hK _ ?_; clear hK K; refine Nav.imp ?_
            refine ⟨(k + 1, n1), ⟨hlt, hs.symm⟩, by simp only; omega, ?_⟩
            refine weak_of [(0, some 0)] rfl (by simp [upT, up, upL, push_cast]) (by simp [upH, upR, upL, up, push_cast]) (by simp [namesOk, push_cast]) (by simp [olds])
      · have hge : k = R.length := by simp at hb; omega
        subst hge
        rw [rowsTo_all] at hn
        subst hn
        refine awp_region cx [] fun K hK => ?_
        simp [push_cast]
        repeat (refine And.intro (by clear hK; intros; first | omega | (simp_all; done) | (simp_all <;> omega)) ?_)
        refine hK _ ?_; clear hK K; refine Nav.imp ?_
        simp [push_cast]

theorem rcount_ok (R : List Row) (hR : smallR R) : PC Tryz.prog 27 [.agg (regRow R)] (.p (.int .i64 (countR R))) := rcount_big R (big_of hR) fun _ => hR

/-! Small regions. -/
def smallB (R : List Row) : Bool := decide (R.length ≤ 40) && R.all (fun w => decide (w.runs.length ≤ 40)) && decide (countR R ≤ 600)
theorem small_of {R : List Row} (h1 : R.length ≤ 40) (h2 : ∀ w ∈ R, w.runs.length ≤ 40) : smallR R := ⟨by omega, fun w hw => by have := h2 w hw; omega⟩
theorem smallB_facts {R : List Row} (h : smallB R = true) : R.length ≤ 40 ∧ (∀ w ∈ R, w.runs.length ≤ 40) ∧ countR R ≤ 600 := by
  simp [smallB] at h
  exact ⟨h.1.1, h.1.2, h.2⟩
end Go.Proofs.YtknelhiejjdioaaGreat
