/- The walks of the small functions on keys and shards. -/
import Derived.Test.YtamaoljjoghajaaRows
import Derived.Test.YtamaoljjoghajaaBase
import Derived.Test.YtamaoljjoghajaaPure
namespace Go.Proofs.Ytamaoljjoghajaa
open Go.RowKit

theorem inRange_any (n lo hi : Int) (w : World) :
    Calls Try.prog 35 #[.int .i64 n, .int .i64 lo, .int .i64 hi] w fun e w' => e = .returned (.bool (M.inR n lo hi)) ∧ w = w' := by
  by_cases h1 : lo ≤ n
  · by_cases h2 : n ≤ hi
    · rw [M.inR_of h1 h2]
      go_enter Try.func35, Try.ntmps35
      go_wp2
      go_ret
      exact ⟨rfl, rfl⟩
    · rw [M.inR_not (n := n) (lo := lo) (hi := hi) (by omega)]
      go_enter Try.func35, Try.ntmps35
      go_wp2
      go_ret
      exact ⟨rfl, rfl⟩
  · rw [M.inR_not (n := n) (lo := lo) (hi := hi) (by omega)]
    go_enter Try.func35, Try.ntmps35
    go_wp2
    go_ret
    exact ⟨rfl, rfl⟩

theorem areShards_any (n : Int) (w : World) :
    Calls Try.prog 41 #[.int .i64 n] w fun e w' => e = .returned (.bool (M.inR n 1 8)) ∧ w = w' := by
  by_cases h1 : 1 ≤ n
  · by_cases h2 : n ≤ 8
    · rw [M.inR_of h1 h2]
      go_enter Try.func41, Try.ntmps41
      go_wp2
      go_ret
      exact ⟨rfl, rfl⟩
    · rw [M.inR_not (n := n) (lo := 1) (hi := 8) (by omega)]
      go_enter Try.func41, Try.ntmps41
      go_wp2
      go_ret
      exact ⟨rfl, rfl⟩
  · rw [M.inR_not (n := n) (lo := 1) (hi := 8) (by omega)]
    go_enter Try.func41, Try.ntmps41
    go_wp2
    go_ret
    exact ⟨rfl, rfl⟩

set_option maxHeartbeats 400000 in
theorem shardOf_spec (k s : Int) (w : World) (h1 : 1 ≤ k) (h2 : k ≤ 99) (h3 : 1 ≤ s) (h4 : s ≤ 8) :
    Calls Try.prog 78 #[.int .i64 k, .int .i64 s] w fun e w' => e = .returned (.int .i64 (M.sh k s)) ∧ w = w' := by
  have a1 : 0 ≤ 389 * k % 1009 := by omega
  have a2 : 389 * k % 1009 ≤ 1008 := by omega
  have a3 : 0 ≤ 389 * k % 1009 * s := Int.mul_nonneg a1 (by omega)
  have a4 : 389 * k % 1009 * s ≤ 1008 * 8 := Int.mul_le_mul a2 h4 (by omega) (by omega)
  go_enter Try.func78, Try.ntmps78
  go_wp2
  go_ret
  exact ⟨rfl, rfl⟩
set_option maxHeartbeats 400000 in
theorem shardOf_impl (k s : Int) (w : World) (h1 : 1 ≤ k) (h2 : k ≤ 99) (h3 : 1 ≤ s) (h4 : s ≤ 8) :
    Calls Try.prog 85 #[.int .i64 k, .int .i64 s] w fun e w' => e = .returned (.int .i64 (M.sh k s)) ∧ w = w' := by
  have a1 : 0 ≤ 389 * k % 1009 := by omega
  have a2 : 389 * k % 1009 ≤ 1008 := by omega
  have a3 : 0 ≤ 389 * k % 1009 * s := Int.mul_nonneg a1 (by omega)
  have a4 : 389 * k % 1009 * s ≤ 1008 * 8 := Int.mul_le_mul a2 h4 (by omega) (by omega)
  go_enter Try.func85, Try.ntmps85
  go_wp2
  go_ret
  exact ⟨rfl, rfl⟩


end Go.Proofs.Ytamaoljjoghajaa
