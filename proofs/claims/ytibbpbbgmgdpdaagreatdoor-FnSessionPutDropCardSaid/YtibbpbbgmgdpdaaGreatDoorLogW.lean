/- The walks of copies of entries and of short logs. -/
import Derived.Test.YtibbpbbgmgdpdaaGreatDoorEntW
import Derived.Test.YtibbpbbgmgdpdaaGreatDoorDrawE
import Derived.Test.YtibbpbbgmgdpdaaGreatDoorCopyW
import Derived.Test.YtibbpbbgmgdpdaaGreatDoorPure
import Derived.Deep.RegionHeld3
namespace Go.Proofs.YtibbpbbgmgdpdaaGreatDoor
open Go.RowKit
set_option linter.unusedVariables false
set_option maxRecDepth 100000

def CopiedEn (w : World) (x : M.Entry) (e : Ending) (w' : World) : Prop :=
  ∃ A c, e = .returned (.agg #[.int .i64 x.kind, .int .i64 x.item.key, .slice A x.item.pos.length c, .int .i64 x.item.tags]) ∧ OwnInts .i64 3 w' w.heap.size (.slice A x.item.pos.length c) x.item.pos ∧ w.grownBy w' none
theorem any_take {α : Type} {p : α → Bool} {l : List α} {k : Nat} (hk : k < l.length) : (l.take (k + 1)).any p = ((l.take k).any p || p l[k]) := by
  rw [List.take_succ_eq_append_getElem hk, List.any_append]
  simp
end Go.Proofs.YtibbpbbgmgdpdaaGreatDoor
