/-
  The walks of this seat's functions and the plain laws behind them: part S1.
-/
import Derived.Test.YtmfkfgonedgjnaaR5
import Derived.Test.YtmfkfgonedgjnaaAbsS
import Derived.Test.YtmfkfgonedgjnaaChecked
import Derived.Deep.RegionHeld3
import Derived.Deep.DrawnRows
set_option linter.unusedVariables false
set_option linter.unusedSimpArgs false
namespace Go.Proofs.Ytmfkfgonedgjnaa
open Go.Abs Go.Shelf Go.RowKit Go.Lib Go.Sort

/-! What the sorts of package thin do. -/
def sortCell_ren : Go.Shelf.Ren := ⟨fun | 6 => 52 | 15 => 88 | 14 => 87 | 28 => 116 | 29 => 117 | 20 => 108 | 21 => 109 | 22 => 110 | 23 => 111 | 24 => 112 | 25 => 113 | 26 => 114 | 27 => 115 | 46 => 138 | 47 => 139 | 48 => 140 | 49 => 141 | 50 => 142 | 57 => 156 | n => n, fun | 22 => 31 | 24 => 35 | 25 => 65 | 3 => 3 | 39 => 97 | 0 => 0 | 53 => 121 | 55 => 123 | 4 => 4 | 46 => 115 | 45 => 114 | 50 => 102 | 5 => 5 | 9 => 9 | 66 => 143 | 70 => 147 | 76 => 157 | 77 => 158 | n => n, fun n => n⟩
theorem sortCell_lays : SlLaysF0.n6 Try.prog sortCell_ren where
  mixed := by kernel_rfl
  f6 := ⟨Try.f52.name, by kernel_rfl, Try.func52.trans (congrArg some (by kernel_rfl))⟩
  f14 := ⟨Try.f87.name, by kernel_rfl, Try.func87.trans (congrArg some (by kernel_rfl))⟩
  f15 := Try.func88.trans (congrArg some (by kernel_rfl))
  f20 := ⟨Try.f108.name, by kernel_rfl, Try.func108.trans (congrArg some (by kernel_rfl))⟩
  f21 := ⟨Try.f109.name, by kernel_rfl, Try.func109.trans (congrArg some (by kernel_rfl))⟩
  f22 := ⟨Try.f110.name, by kernel_rfl, Try.func110.trans (congrArg some (by kernel_rfl))⟩
  f23 := ⟨Try.f111.name, by kernel_rfl, Try.func111.trans (congrArg some (by kernel_rfl))⟩
  f24 := ⟨Try.f112.name, by kernel_rfl, Try.func112.trans (congrArg some (by kernel_rfl))⟩
  f25 := ⟨Try.f113.name, by kernel_rfl, Try.func113.trans (congrArg some (by kernel_rfl))⟩
  f26 := ⟨Try.f114.name, by kernel_rfl, Try.func114.trans (congrArg some (by kernel_rfl))⟩
  f27 := ⟨Try.f115.name, by kernel_rfl, Try.func115.trans (congrArg some (by kernel_rfl))⟩
  f28 := Try.func116.trans (congrArg some (by kernel_rfl))
  f29 := Try.func117.trans (congrArg some (by kernel_rfl))
  f46 := ⟨Try.f138.name, by kernel_rfl, Try.func138.trans (congrArg some (by kernel_rfl))⟩
  f47 := Try.func139.trans (congrArg some (by kernel_rfl))
  f48 := Try.func140.trans (congrArg some (by kernel_rfl))
  f49 := ⟨Try.f141.name, by kernel_rfl, Try.func141.trans (congrArg some (by kernel_rfl))⟩
  f50 := ⟨Try.f142.name, by kernel_rfl, Try.func142.trans (congrArg some (by kernel_rfl))⟩
  f57 := ⟨Try.f156.name, by kernel_rfl, Try.func156.trans (congrArg some (by kernel_rfl))⟩
  t0 := Try.underlying0
  a0 := Try.isAgg0
  z0 := Try.sizeOf0
  v0 := Try.zeroValue0
  t3 := Try.underlying3
  a3 := Try.isAgg3
  z3 := Try.sizeOf3
  v3 := Try.zeroValue3
  t4 := Try.underlying4
  a4 := Try.isAgg4
  z4 := Try.sizeOf4
  v4 := Try.zeroValue4
  t5 := Try.underlying5
  a5 := Try.isAgg5
  z5 := Try.sizeOf5
  v5 := Try.zeroValue5
  t9 := Try.underlying9
  a9 := Try.isAgg9
  z9 := Try.sizeOf9
  v9 := Try.zeroValue9
  t22 := Try.underlying31
  a22 := Try.isAgg31
  z22 := Try.sizeOf31
  v22 := Try.zeroValue31
  t25 := Try.underlying65
  a25 := Try.isAgg65
  z25 := Try.sizeOf65
  v25 := Try.zeroValue65
  t39 := Try.underlying97
  a39 := Try.isAgg97
  z39 := Try.sizeOf97
  v39 := Try.zeroValue97
  t45 := Try.underlying114
  a45 := Try.isAgg114
  z45 := Try.sizeOf114
  v45 := Try.zeroValue114
  t46 := Try.underlying115
  a46 := Try.isAgg115
  z46 := Try.sizeOf115
  v46 := Try.zeroValue115
  t50 := Try.underlying102
  a50 := Try.isAgg102
  z50 := Try.sizeOf102
  v50 := Try.zeroValue102
  t53 := Try.underlying121
  a53 := Try.isAgg121
  z53 := Try.sizeOf121
  v53 := Try.zeroValue121
  t55 := Try.underlying123
  a55 := Try.isAgg123
  z55 := Try.sizeOf123
  v55 := Try.zeroValue123
  t66 := Try.underlying143
  a66 := Try.isAgg143
  z66 := Try.sizeOf143
  v66 := Try.zeroValue143
  t70 := Try.underlying147
  a70 := Try.isAgg147
  z70 := Try.sizeOf147
  v70 := Try.zeroValue147
  t76 := Try.underlying157
  a76 := Try.isAgg157
  z76 := Try.sizeOf157
  v76 := Try.zeroValue157
  t77 := Try.underlying158
  a77 := Try.isAgg158
  z77 := Try.sizeOf158
  v77 := Try.zeroValue158
def sortTrack_ren : Go.Shelf.Ren := ⟨fun | 6 => 55 | 15 => 88 | 14 => 89 | 28 => 116 | 29 => 117 | 20 => 118 | 21 => 119 | 22 => 120 | 23 => 121 | 24 => 122 | 25 => 123 | 26 => 124 | 27 => 125 | 46 => 143 | 47 => 139 | 48 => 140 | 49 => 144 | 50 => 145 | 57 => 157 | n => n, fun | 22 => 27 | 24 => 33 | 25 => 68 | 3 => 3 | 39 => 97 | 0 => 0 | 53 => 121 | 55 => 123 | 4 => 4 | 46 => 115 | 45 => 114 | 50 => 102 | 5 => 5 | 9 => 9 | 66 => 143 | 70 => 147 | 76 => 157 | 77 => 158 | n => n, fun n => n⟩
theorem sortTrack_lays : SlLaysF0.n6 Try.prog sortTrack_ren where
  mixed := by kernel_rfl
  f6 := ⟨Try.f55.name, by kernel_rfl, Try.func55.trans (congrArg some (by kernel_rfl))⟩
  f14 := ⟨Try.f89.name, by kernel_rfl, Try.func89.trans (congrArg some (by kernel_rfl))⟩
  f15 := Try.func88.trans (congrArg some (by kernel_rfl))
  f20 := ⟨Try.f118.name, by kernel_rfl, Try.func118.trans (congrArg some (by kernel_rfl))⟩
  f21 := ⟨Try.f119.name, by kernel_rfl, Try.func119.trans (congrArg some (by kernel_rfl))⟩
  f22 := ⟨Try.f120.name, by kernel_rfl, Try.func120.trans (congrArg some (by kernel_rfl))⟩
  f23 := ⟨Try.f121.name, by kernel_rfl, Try.func121.trans (congrArg some (by kernel_rfl))⟩
  f24 := ⟨Try.f122.name, by kernel_rfl, Try.func122.trans (congrArg some (by kernel_rfl))⟩
  f25 := ⟨Try.f123.name, by kernel_rfl, Try.func123.trans (congrArg some (by kernel_rfl))⟩
  f26 := ⟨Try.f124.name, by kernel_rfl, Try.func124.trans (congrArg some (by kernel_rfl))⟩
  f27 := ⟨Try.f125.name, by kernel_rfl, Try.func125.trans (congrArg some (by kernel_rfl))⟩
  f28 := Try.func116.trans (congrArg some (by kernel_rfl))
  f29 := Try.func117.trans (congrArg some (by kernel_rfl))
  f46 := ⟨Try.f143.name, by kernel_rfl, Try.func143.trans (congrArg some (by kernel_rfl))⟩
  f47 := Try.func139.trans (congrArg some (by kernel_rfl))
  f48 := Try.func140.trans (congrArg some (by kernel_rfl))
  f49 := ⟨Try.f144.name, by kernel_rfl, Try.func144.trans (congrArg some (by kernel_rfl))⟩
  f50 := ⟨Try.f145.name, by kernel_rfl, Try.func145.trans (congrArg some (by kernel_rfl))⟩
  f57 := ⟨Try.f157.name, by kernel_rfl, Try.func157.trans (congrArg some (by kernel_rfl))⟩
  t0 := Try.underlying0
  a0 := Try.isAgg0
  z0 := Try.sizeOf0
  v0 := Try.zeroValue0
  t3 := Try.underlying3
  a3 := Try.isAgg3
  z3 := Try.sizeOf3
  v3 := Try.zeroValue3
  t4 := Try.underlying4
  a4 := Try.isAgg4
  z4 := Try.sizeOf4
  v4 := Try.zeroValue4
  t5 := Try.underlying5
  a5 := Try.isAgg5
  z5 := Try.sizeOf5
  v5 := Try.zeroValue5
  t9 := Try.underlying9
  a9 := Try.isAgg9
  z9 := Try.sizeOf9
  v9 := Try.zeroValue9
  t22 := Try.underlying27
  a22 := Try.isAgg27
  z22 := Try.sizeOf27
  v22 := Try.zeroValue27
  t25 := Try.underlying68
  a25 := Try.isAgg68
  z25 := Try.sizeOf68
  v25 := Try.zeroValue68
  t39 := Try.underlying97
  a39 := Try.isAgg97
  z39 := Try.sizeOf97
  v39 := Try.zeroValue97
  t45 := Try.underlying114
  a45 := Try.isAgg114
  z45 := Try.sizeOf114
  v45 := Try.zeroValue114
  t46 := Try.underlying115
  a46 := Try.isAgg115
  z46 := Try.sizeOf115
  v46 := Try.zeroValue115
  t50 := Try.underlying102
  a50 := Try.isAgg102
  z50 := Try.sizeOf102
  v50 := Try.zeroValue102
  t53 := Try.underlying121
  a53 := Try.isAgg121
  z53 := Try.sizeOf121
  v53 := Try.zeroValue121
  t55 := Try.underlying123
  a55 := Try.isAgg123
  z55 := Try.sizeOf123
  v55 := Try.zeroValue123
  t66 := Try.underlying143
  a66 := Try.isAgg143
  z66 := Try.sizeOf143
  v66 := Try.zeroValue143
  t70 := Try.underlying147
  a70 := Try.isAgg147
  z70 := Try.sizeOf147
  v70 := Try.zeroValue147
  t76 := Try.underlying157
  a76 := Try.isAgg157
  z76 := Try.sizeOf157
  v76 := Try.zeroValue157
  t77 := Try.underlying158
  a77 := Try.isAgg158
  z77 := Try.sizeOf158
  v77 := Try.zeroValue158

/-- By X, then by Y. -/
def cfX : List D → List D → Int
  | [.int _ ax, .int _ ay], [.int _ bx, .int _ by'] => if ax ≠ bx then ax - bx else ay - by'
  | _, _ => 0
def VC (r : List D) : Prop := ∃ c : Cell, r = c.row ∧ onG c = true

set_option maxHeartbeats 1000000 in
theorem cmpX_ok : CmpOk Try.prog 53 VC cfX := by
  rintro ro w a b va vb hro ⟨⟨ax, ay⟩, rfl, hc⟩ ⟨⟨bx, by'⟩, rfl, hd⟩ ha hb _ _
  have h1 := onG_bd hc
  have h2 := onG_bd hd
  simp only at h1 h2
  simp only [Cell.row, RepDs, RepD] at ha hb
  obtain ⟨_, _, rfl, rfl, _, _, rfl, rfl, rfl⟩ := ha
  obtain ⟨_, _, rfl, rfl, _, _, rfl, rfl, rfl⟩ := hb
  have w1 : IntKind.i64.wrap (ax - bx) = ax - bx := wrap_i64 (by omega) (by omega)
  have w2 : IntKind.i64.wrap (ay - by') = ay - by' := wrap_i64 (by omega) (by omega)
  go_enter Try.func53, Try.ntmps53
  go_wp2
  · rename_i h
    go_ret
    refine ⟨?_, 0, _, by rw [alloc_eq_grow, alloc_eq_grow, grow_grow]; rfl⟩
    simp at h
    simp [cfX, h]
  · rename_i h
    go_ret
    refine ⟨?_, 0, _, by rw [alloc_eq_grow, alloc_eq_grow, grow_grow]; rfl⟩
    simp at h
    simp [cfX, h]

/-- By the first cell's Y, then by its X. -/
def cfY : List D → List D → Int
  | [_, _, .sl ([.int _ ax, .int _ ay] :: _)], [_, _, .sl ([.int _ bx, .int _ by'] :: _)] => if ay ≠ by' then ay - by' else ax - bx
  | _, _ => 0
theorem cfY_rows (ra rb : Int) (ca cb : Bool) (ax ay bx by' : Int) (la lb : List Cell) : cfY (Track.row ⟨ra, ca, ⟨ax, ay⟩ :: la⟩) (Track.row ⟨rb, cb, ⟨bx, by'⟩ :: lb⟩) = if ay ≠ by' then ay - by' else ax - bx := rfl
def VT (r : List D) : Prop := ∃ (t : Track) (c : Cell) (l : List Cell), r = t.row ∧ t.cells = c :: l ∧ onG c = true

set_option maxHeartbeats 1000000 in
theorem cmpY_ok : CmpOk Try.prog 56 VT cfY := by
  rintro ro w a b va vb hro ⟨⟨ra, ca, _⟩, ⟨ax, ay⟩, la, rfl, rfl, hc⟩ ⟨⟨rb, cb, _⟩, ⟨bx, by'⟩, lb, rfl, rfl, hd⟩ ha hb _ _
  have h1 := onG_bd hc
  have h2 := onG_bd hd
  simp only at h1 h2
  simp only [Track.row, encCells, RepDs, RepD, List.map_cons, List.length_cons, List.length_map] at ha hb
  obtain ⟨_, _, rfl, rfl, _, _, rfl, rfl, _, _, rfl, ⟨p, cp, rfl, hp1, hp2, hp3⟩, rfl⟩ := ha
  obtain ⟨_, _, rfl, rfl, _, _, rfl, rfl, _, _, rfl, ⟨q, cq, rfl, hq1, hq2, hq3⟩, rfl⟩ := hb
  obtain ⟨b1, o1, m1, rfl, hb1, hr1⟩ := hp3.resolve_left (by simp)
  obtain ⟨b2, o2, m2, rfl, hb2, hr2⟩ := hq3.resolve_left (by simp)
  simp only [RepRows, RepDs, RepD] at hr1 hr2
  obtain ⟨⟨_, hl1, ⟨_, _, rfl, rfl, _, _, rfl, rfl, rfl⟩, hc1⟩, _⟩ := hr1
  obtain ⟨⟨_, hl2, ⟨_, _, rfl, rfl, _, _, rfl, rfl, rfl⟩, hc2⟩, _⟩ := hr2
  have x1 := (hc1 0 (.int .i64 ax) (by simp)).1
  have y1 := (hc1 1 (.int .i64 ay) (by simp)).1
  have x2 := (hc2 0 (.int .i64 bx) (by simp)).1
  have y2 := (hc2 1 (.int .i64 by') (by simp)).1
  clear hl1 hl2
  have s1 := hro b1 hb1
  have s2 := hro b2 hb2
  simp only [Nat.add_zero] at x1 x2
  clear hc1 hc2 hp1 hp2 hp3 hq1 hq2 hq3 hro hb1 hb2
  have w1 : IntKind.i64.wrap (ax - bx) = ax - bx := wrap_i64 (by omega) (by omega)
  have w2 : IntKind.i64.wrap (ay - by') = ay - by' := wrap_i64 (by omega) (by omega)
  go_enter Try.func56, Try.ntmps56
  go_wp2
  have hW0 : ∀ (o1 o2 : Obj), (w.alloc o1).alloc o2 = grow w #[o1, o2] := fun o1 o2 => by rw [alloc_eq_grow, alloc_eq_grow, grow_grow]; rfl
  have kp : ∀ (os : Array Obj) (a : Addr), a.block < w.heap.size → (grow w os).cell? a = w.cell? a := fun os a h => cell?_grow w os a h
  have q1 : ∀ (p q : Obj), ((w.alloc p).alloc q).cell? ⟨b1, o1, none⟩ = some (.int .i64 ax) := fun p q => by rw [hW0, kp _ _ s1, x1]
  have q2 : ∀ (p q : Obj), ((w.alloc p).alloc q).cell? ⟨b1, o1 + 1, none⟩ = some (.int .i64 ay) := fun p q => by rw [hW0, kp _ _ s1, y1]
  have q3 : ∀ (p q : Obj), ((w.alloc p).alloc q).cell? ⟨b2, o2, none⟩ = some (.int .i64 bx) := fun p q => by rw [hW0, kp _ _ s2, x2]
  have q4 : ∀ (p q : Obj), ((w.alloc p).alloc q).cell? ⟨b2, o2 + 1, none⟩ = some (.int .i64 by') := fun p q => by rw [hW0, kp _ _ s2, y2]
  obtain ⟨B1, hB1⟩ : ∃ B1, B1 = w.heap.size := ⟨_, rfl⟩
  obtain ⟨W, hW⟩ : ∃ W, W = (w.alloc (Obj.cells #[Value.int IntKind.i64 ra, Value.bool ca, Value.slice (some ⟨b1, o1, none⟩) (la.length + 1) cp] 33)).alloc (Obj.cells #[Value.int IntKind.i64 rb, Value.bool cb, Value.slice (some ⟨b2, o2, none⟩) (lb.length + 1) cq] 33) := ⟨_, rfl⟩
  have z1 := q1 (Obj.cells #[Value.int IntKind.i64 ra, Value.bool ca, Value.slice (some ⟨b1, o1, none⟩) (la.length + 1) cp] 33) (Obj.cells #[Value.int IntKind.i64 rb, Value.bool cb, Value.slice (some ⟨b2, o2, none⟩) (lb.length + 1) cq] 33)
  have z2 := q2 (Obj.cells #[Value.int IntKind.i64 ra, Value.bool ca, Value.slice (some ⟨b1, o1, none⟩) (la.length + 1) cp] 33) (Obj.cells #[Value.int IntKind.i64 rb, Value.bool cb, Value.slice (some ⟨b2, o2, none⟩) (lb.length + 1) cq] 33)
  have z3 := q3 (Obj.cells #[Value.int IntKind.i64 ra, Value.bool ca, Value.slice (some ⟨b1, o1, none⟩) (la.length + 1) cp] 33) (Obj.cells #[Value.int IntKind.i64 rb, Value.bool cb, Value.slice (some ⟨b2, o2, none⟩) (lb.length + 1) cq] 33)
  have z4 := q4 (Obj.cells #[Value.int IntKind.i64 ra, Value.bool ca, Value.slice (some ⟨b1, o1, none⟩) (la.length + 1) cp] 33) (Obj.cells #[Value.int IntKind.i64 rb, Value.bool cb, Value.slice (some ⟨b2, o2, none⟩) (lb.length + 1) cq] 33)
  have z5 : ((w.alloc (Obj.cells #[Value.int IntKind.i64 ra, Value.bool ca, Value.slice (some ⟨b1, o1, none⟩) (la.length + 1) cp] 33)).alloc (Obj.cells #[Value.int IntKind.i64 rb, Value.bool cb, Value.slice (some ⟨b2, o2, none⟩) (lb.length + 1) cq] 33)).cell? ⟨B1, 2, none⟩ = some (.slice (some ⟨b1, o1, none⟩) (la.length + 1) cp) := by rw [hB1, hW0]; simp [World.cell?, grow, Array.getElem?_append]
  have z6 : ((w.alloc (Obj.cells #[Value.int IntKind.i64 ra, Value.bool ca, Value.slice (some ⟨b1, o1, none⟩) (la.length + 1) cp] 33)).alloc (Obj.cells #[Value.int IntKind.i64 rb, Value.bool cb, Value.slice (some ⟨b2, o2, none⟩) (lb.length + 1) cq] 33)).cell? ⟨B1 + 1, 2, none⟩ = some (.slice (some ⟨b2, o2, none⟩) (lb.length + 1) cq) := by rw [hB1, hW0]; simp [World.cell?, grow, Array.getElem?_append]
  rw [hW0] at hW
  rw [hW0] at z1 z2 z3 z4 z5 z6 ⊢
  rw [← hW] at z1 z2 z3 z4 z5 z6 ⊢
  rw [← hB1]
  have hWh : Go.Abs.Hid (∃ p q, W = grow w #[p, q]) := ⟨_, _, hW⟩
  have hBh : Go.Abs.Hid (B1 = w.heap.size) := ⟨hB1⟩
  clear q1 q2 q3 q4 x1 x2 y1 y2 hW hB1 hW0 kp s1 s2
  have n1 := World.new_ne W _ z1
  have n2 := World.new_ne W _ z2
  have n3 := World.new_ne W _ z3
  have n4 := World.new_ne W _ z4
  have n5 := World.new_ne W _ z5
  have n6 := World.new_ne W _ z6
  go_region_held3 (fun w' => w'.cell? ⟨B1, 2, none⟩ = some (.slice (some ⟨b1, o1, none⟩) (la.length + 1) cp) ∧ w'.cell? ⟨B1 + 1, 2, none⟩ = some (.slice (some ⟨b2, o2, none⟩) (lb.length + 1) cq) ∧ w'.cell? ⟨b1, o1, none⟩ = some (.int .i64 ax) ∧ w'.cell? ⟨b1, o1 + 1, none⟩ = some (.int .i64 ay) ∧ w'.cell? ⟨b2, o2, none⟩ = some (.int .i64 bx) ∧ w'.cell? ⟨b2, o2 + 1, none⟩ = some (.int .i64 by')) (go_keep) (fail)
  all_goals go_wp2
  all_goals
    rename_i h
    go_ret
    obtain ⟨⟨p, q, rfl⟩⟩ := hWh
    refine ⟨?_, 1, _, by rw [alloc_eq_grow, alloc_eq_grow, grow_grow, grow_grow]; rfl⟩
    simp at h
    rw [cfY_rows]
    simp [h]
end Go.Proofs.Ytmfkfgonedgjnaa
