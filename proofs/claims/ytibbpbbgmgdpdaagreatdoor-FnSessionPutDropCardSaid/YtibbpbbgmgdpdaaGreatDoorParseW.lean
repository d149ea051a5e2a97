/- The walks of the reading of pages. -/
import Derived.Test.YtibbpbbgmgdpdaaGreatDoorPageW
import Derived.Test.YtibbpbbgmgdpdaaGreatDoorPutIW
import Derived.Test.YtibbpbbgmgdpdaaGreatDoorDrawV
import Derived.StillTailTactics
import Derived.RegionTactic
namespace Go.Proofs.YtibbpbbgmgdpdaaGreatDoor
open Go.RowKit
set_option linter.unusedVariables false

theorem items_succ (b : List Int) : ∀ n, M.items b (n + 1) = M.items b n ++ [M.itemOf6 (b.drop (6 * n))] := by
  intro n
  induction n generalizing b with
  | zero => rfl
  | succ n ih =>
    show M.itemOf6 b :: M.items (b.drop 6) (n + 1) = (M.itemOf6 b :: M.items (b.drop 6) n) ++ _
    rw [ih, List.drop_drop, List.cons_append, show 6 + 6 * n = 6 * (n + 1) by omega]
end Go.Proofs.YtibbpbbgmgdpdaaGreatDoor
