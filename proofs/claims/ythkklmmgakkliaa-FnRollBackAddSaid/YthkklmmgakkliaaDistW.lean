/- The walks of distances and of the comparison of items. -/
import Derived.Test.YthkklmmgakkliaaIdxW
import Derived.Test.YthkklmmgakkliaaPure
import Derived.WalkLawsBesides
namespace Go.Proofs.Ythkklmmgakkliaa
open Go.RowKit
set_option linter.unusedVariables false
set_option maxRecDepth 100000
set_option linter.unusedSimpArgs false

theorem specToInt_any (w : World) (b : Bool) :
    Calls Try.prog 76 #[.bool b] w fun e w' => e = .returned (.int .i64 (if b then 1 else 0)) ∧ w = w' := by
  cases b
  · show Calls Try.prog 76 #[.bool false] w fun e w' => e = .returned (.int .i64 0) ∧ w = w'
    go_enter Try.func76, Try.ntmps76
    go_wp2_with fail
    go_ret
    exact ⟨rfl, rfl⟩
  · show Calls Try.prog 76 #[.bool true] w fun e w' => e = .returned (.int .i64 1) ∧ w = w'
    go_enter Try.func76, Try.ntmps76
    go_wp2_with fail
    go_ret
    exact ⟨rfl, rfl⟩

theorem sameB_comm3 {x y : M.Item} : M.sameB x y = (x.key == y.key && (x.tags == y.tags && decide (x.pos = y.pos))) := by
  unfold M.sameB
  cases x.key == y.key <;> cases x.tags == y.tags <;> cases decide (x.pos = y.pos) <;> rfl
end Go.Proofs.Ythkklmmgakkliaa
