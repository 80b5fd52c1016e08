/-
  The types of this seat, as plain Lean data, and their place in the abstract machine.
-/
import Derived.Test.YtnnpmkeojfmclaaAbs15
import Derived.Test.YtnnpmkeojfmclaaRows
set_option linter.unusedVariables false
namespace Go.Proofs.Ytnnpmkeojfmclaa
open Go.Abs
def tyTab : List (Nat × TI) := [
  (2, ⟨.int .i64, 1, 8, [.d (.int .i64 0)], 0⟩),
  (3, ⟨.int .i64, 1, 8, [.d (.int .i64 0)], 0⟩),
  (4, ⟨.bool, 1, 1, [.d (.bool false)], 0⟩),
  (5, ⟨.int .u8, 1, 1, [.d (.int .u8 0)], 0⟩),
  (7, ⟨.struct [(0, 1, false), (1, 1, false), (2, 1, false), (3, 1, false)], 4, 24, [.d (.int .i64 0), .d (.int .i64 0), .d (.bool false), .d (.int .u8 0)], 0⟩),
  (9, ⟨.str, 1, 16, [.d (.str ⟨#[]⟩)], 0⟩),
  (12, ⟨.int .u64, 1, 8, [.d (.int .u64 0)], 0⟩),
  (13, ⟨.struct [(0, 1, false), (1, 1, false)], 2, 24, [.d (.str ⟨#[]⟩), .d (.int .u64 0)], 0⟩),
  (15, ⟨.one, 1, 8, [.any], 0⟩),
  (16, ⟨.one, 1, 8, [.any], 0⟩),
  (17, ⟨.one, 1, 8, [.any], 0⟩),
  (18, ⟨.struct [(0, 1, false)], 1, 8, [.any], 0⟩),
  (21, ⟨.int .i32, 1, 4, [.d (.int .i32 0)], 0⟩),
  (22, ⟨.slice 36, 1, 24, [.nl], 0⟩),
  (27, ⟨.struct [(0, 1, false), (1, 1, false), (2, 1, false), (3, 1, false), (4, 1, false), (5, 1, false), (6, 1, false), (7, 1, false), (8, 1, false), (9, 1, false), (10, 1, false), (11, 1, false), (12, 1, false), (13, 1, false), (14, 1, false), (15, 1, false), (16, 1, false), (17, 1, false), (18, 1, false), (19, 1, false)], 20, 160, [.d (.int .i64 0), .d (.int .i64 0), .d (.int .i64 0), .d (.int .i64 0), .d (.int .i64 0), .d (.int .i64 0), .d (.int .i64 0), .d (.bool false), .d (.int .i64 0), .d (.int .i64 0), .d (.int .i64 0), .d (.int .i64 0), .d (.int .i64 0), .d (.int .i64 0), .d (.int .i64 0), .d (.int .i64 0), .d (.int .i64 0), .d (.int .i64 0), .d (.int .i64 0), .d (.int .i64 0)], 0⟩),
  (28, ⟨.struct [(0, 1, false), (1, 1, false), (2, 1, false), (3, 1, false), (4, 1, false), (5, 1, false), (6, 1, false), (7, 1, false), (8, 1, false), (9, 1, false), (10, 1, false), (11, 1, false), (12, 1, false), (13, 1, false), (14, 1, false), (15, 1, false), (16, 1, false), (17, 1, false), (18, 1, false), (19, 1, false)], 20, 160, [.d (.int .i64 0), .d (.int .i64 0), .d (.int .i64 0), .d (.int .i64 0), .d (.int .i64 0), .d (.int .i64 0), .d (.int .i64 0), .d (.bool false), .d (.int .i64 0), .d (.int .i64 0), .d (.int .i64 0), .d (.int .i64 0), .d (.int .i64 0), .d (.int .i64 0), .d (.int .i64 0), .d (.int .i64 0), .d (.int .i64 0), .d (.int .i64 0), .d (.int .i64 0), .d (.int .i64 0)], 0⟩),
  (34, ⟨.slice 47, 1, 24, [.nl], 0⟩),
  (35, ⟨.struct [(0, 1, false), (1, 1, false), (2, 1, false), (3, 1, false), (4, 1, false), (5, 1, false)], 6, 64, [.d (.int .i64 0), .d (.int .i64 0), .d (.int .i64 0), .d (.int .i64 0), .d (.int .i64 0), .nl], 0⟩),
  (36, ⟨.struct [(0, 1, false), (1, 1, false), (2, 1, false), (3, 1, false), (4, 1, false), (5, 1, false)], 6, 64, [.d (.int .i64 0), .d (.int .i64 0), .d (.int .i64 0), .d (.int .i64 0), .d (.int .i64 0), .nl], 0⟩),
  (39, ⟨.int .u16, 1, 2, [.d (.int .u16 0)], 0⟩),
  (46, ⟨.struct [(0, 1, false), (1, 1, false)], 2, 16, [.d (.int .i64 0), .d (.int .i64 0)], 1⟩),
  (47, ⟨.struct [(0, 1, false), (1, 1, false)], 2, 16, [.d (.int .i64 0), .d (.int .i64 0)], 1⟩),
  (49, ⟨.struct [(0, 1, false), (1, 1, false), (2, 1, false), (3, 1, false), (4, 1, false), (5, 1, false), (6, 1, false)], 7, 7, [.d (.bool false), .d (.bool false), .d (.bool false), .d (.bool false), .d (.bool false), .d (.bool false), .d (.bool false)], 2⟩),
  (50, ⟨.struct [(0, 1, false), (1, 1, false), (2, 1, false), (3, 1, false), (4, 1, false), (5, 1, false), (6, 1, false)], 7, 7, [.d (.bool false), .d (.bool false), .d (.bool false), .d (.bool false), .d (.bool false), .d (.bool false), .d (.bool false)], 2⟩),
  (53, ⟨.struct [(0, 1, false), (1, 1, false), (2, 1, false), (3, 1, false)], 4, 40, [.any, .any, .any, .d (.str ⟨#[]⟩)], 0⟩),
  (59, ⟨.int .u32, 1, 4, [.d (.int .u32 0)], 0⟩),
  (63, ⟨.one, 1, 8, [.any], 0⟩),
  (66, ⟨.struct [(0, 1, false), (1, 1, false), (2, 1, false), (3, 1, false), (4, 1, false), (5, 1, false), (6, 1, false), (7, 1, false), (8, 1, false), (9, 1, false), (10, 1, false)], 11, 48, [.d (.int .u64 0), .d (.int .u64 0), .d (.int .u32 0), .d (.int .u8 0), .d (.int .u8 0), .d (.int .u8 0), .d (.int .u8 0), .any, .any, .d (.int .i32 0), .d (.int .i32 0)], 0⟩),
  (68, ⟨.one, 1, 8, [.any], 0⟩)]


theorem cx : Ctx Try.prog (find tyTab) := ctx_of_table tyTab (by kernel_rfl)
theorem mixed : Try.prog.follows .mixedOrders = true := by kernel_rfl

structure Cell where
  x : Int
  y : Int
  deriving DecidableEq

abbrev Cell.row (c : Cell) : List D := [.int .i64 c.x, .int .i64 c.y]
abbrev encCells (l : List Cell) : D := .sl (l.map Cell.row)

structure Op where
  kind : Int
  role : Int
  layer : Int
  z : Int
  speed : Int
  cells : List Cell
  deriving DecidableEq

abbrev Op.row (o : Op) : List D := [.int .i64 o.kind, .int .i64 o.role, .int .i64 o.layer, .int .i64 o.z, .int .i64 o.speed, encCells o.cells]
theorem Op.row_len (o : Op) : o.row.length = 6 := rfl
theorem Cell.row_len (o : Cell) : o.row.length = 2 := rfl
abbrev encOps (l : List Op) : D := .sl (l.map Op.row)

structure Settings where
  pitch : Int
  height : Int
  walls : Int
  top : Int
  bottom : Int
  pattern : Int
  spacing : Int
  support : Bool
  reach : Int
  gap : Int
  brim : Int
  skirt : Int
  drop : Int
  feed : Int
  travel : Int
  retract : Int
  mintime : Int
  minfeed : Int
  nozzle : Int
  bed : Int

abbrev Settings.row (s : Settings) : List D := [.int .i64 s.pitch, .int .i64 s.height, .int .i64 s.walls, .int .i64 s.top, .int .i64 s.bottom, .int .i64 s.pattern, .int .i64 s.spacing, .bool s.support, .int .i64 s.reach, .int .i64 s.gap,
  .int .i64 s.brim, .int .i64 s.skirt, .int .i64 s.drop, .int .i64 s.feed, .int .i64 s.travel, .int .i64 s.retract, .int .i64 s.mintime, .int .i64 s.minfeed, .int .i64 s.nozzle, .int .i64 s.bed]

end Go.Proofs.Ytnnpmkeojfmclaa
