/- The walks of the small functions on keys and shards. -/
import Derived.Test.YtibbpbbgmgdpdaaGreatDoorRows
import Derived.Test.YtibbpbbgmgdpdaaGreatDoorBase
import Derived.Test.YtibbpbbgmgdpdaaGreatDoorPure
namespace Go.Proofs.YtibbpbbgmgdpdaaGreatDoor
open Go.RowKit

theorem inRange_any (n lo hi : Int) (w : World) :
    Calls Tryz.prog 65 #[.int .i64 n, .int .i64 lo, .int .i64 hi] w fun e w' => e = .returned (.bool (M.inR n lo hi)) ∧ w = w' := by
  by_cases h1 : lo ≤ n
  · by_cases h2 : n ≤ hi
    · rw [M.inR_of h1 h2]
      go_enter Tryz.func65, Tryz.ntmps65
      go_wp2
      go_ret
      exact ⟨rfl, rfl⟩
    · rw [M.inR_not (n := n) (lo := lo) (hi := hi) (by omega)]
      go_enter Tryz.func65, Tryz.ntmps65
      go_wp2
      go_ret
      exact ⟨rfl, rfl⟩
  · rw [M.inR_not (n := n) (lo := lo) (hi := hi) (by omega)]
    go_enter Tryz.func65, Tryz.ntmps65
    go_wp2
    go_ret
    exact ⟨rfl, rfl⟩

end Go.Proofs.YtibbpbbgmgdpdaaGreatDoor
