/- The walks of the exact laws' helpers on entries: sizes, copies, comparisons. -/
import Derived.Test.YtejbfmnioomkbaaExactW
import Derived.Test.YtejbfmnioomkbaaEnt
namespace Go.Proofs.Ytejbfmnioomkbaa
open Go.RowKit
set_option linter.unusedVariables false
set_option maxRecDepth 100000

theorem info_entry : (Try.prog.info? 38).map (fun i => (i.zero, i.size, i.bytes)) = some (some (.agg #[.int .i64 0, .int .i64 0, .slice none 0 0, .int .i64 0]), 4, 48) := by kernel_rfl
/-- what the size of items tells -/
def SzEntries (w : World) (left : Int) (L : List M.Entry) (e : Ending) (w' : World) : Prop :=
  ∃ r : Int, e = .returned (.int .i64 r) ∧ r ≤ left ∧ (0 ≤ r → L.length ≤ 1048576 ∧ ∀ x ∈ L, x.item.pos.length ≤ 1048576) ∧ w.grownBy w' none

/-- a copy of an entry, its vector in a new block -/
def CopiedE (w : World) (x : M.Entry) (e : Ending) (w' : World) : Prop :=
  ∃ u, e = .returned (.agg #[.int .i64 x.kind, .int .i64 x.item.key, u, .int .i64 x.item.tags]) ∧ OwnInts .i64 3 w' w.heap.size u x.item.pos ∧ w.grownBy w' none

end Go.Proofs.Ytejbfmnioomkbaa
