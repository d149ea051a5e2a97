/- The walks of the exact laws' helpers on items: sizes, copies, comparisons. -/
import Derived.Test.YtibbpbbgmgdpdaaGreatDoorIntW
import Derived.Test.YtibbpbbgmgdpdaaGreatDoorBase
namespace Go.Proofs.YtibbpbbgmgdpdaaGreatDoor
open Go.RowKit
set_option linter.unusedVariables false
set_option maxRecDepth 100000

/-- what the size of items tells -/
def SzItems (w : World) (left : Int) (L : List M.Item) (e : Ending) (w' : World) : Prop :=
  ∃ r : Int, e = .returned (.int .i64 r) ∧ r ≤ left ∧ (0 ≤ r → L.length ≤ 1048576 ∧ ∀ x ∈ L, x.pos.length ≤ 1048576) ∧ w.grownBy w' none

/-- a copy of an item, its vector in a new block -/
def Copied (w : World) (x : M.Item) (e : Ending) (w' : World) : Prop :=
  ∃ u, e = .returned (.agg #[.int .i64 x.key, u, .int .i64 x.tags]) ∧ OwnInts .i64 3 w' w.heap.size u x.pos ∧ w.grownBy w' none

theorem info_item : (Tryz.prog.info? 59).map (fun i => (i.zero, i.size, i.bytes)) = some (some (.agg #[.int .i64 0, .slice none 0 0, .int .i64 0]), 3, 40) := by kernel_rfl

end Go.Proofs.YtibbpbbgmgdpdaaGreatDoor
