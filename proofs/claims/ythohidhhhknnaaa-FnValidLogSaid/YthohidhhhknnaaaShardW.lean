/- The walks of the small functions on keys and shards. -/
import Derived.Test.YthohidhhhknnaaaRows
import Derived.Test.YthohidhhhknnaaaBase
import Derived.Test.YthohidhhhknnaaaPure
namespace Go.Proofs.Ythohidhhhknnaaa
open Go.RowKit

theorem inRange_any (n lo hi : Int) (w : World) :
    Calls Try.prog 47 #[.int .i64 n, .int .i64 lo, .int .i64 hi] w fun e w' => e = .returned (.bool (M.inR n lo hi)) ∧ w = w' := by
  by_cases h1 : lo ≤ n
  · by_cases h2 : n ≤ hi
    · rw [M.inR_of h1 h2]
      go_enter Try.func47, Try.ntmps47
      go_wp2
      go_ret
      exact ⟨rfl, rfl⟩
    · rw [M.inR_not (n := n) (lo := lo) (hi := hi) (by omega)]
      go_enter Try.func47, Try.ntmps47
      go_wp2
      go_ret
      exact ⟨rfl, rfl⟩
  · rw [M.inR_not (n := n) (lo := lo) (hi := hi) (by omega)]
    go_enter Try.func47, Try.ntmps47
    go_wp2
    go_ret
    exact ⟨rfl, rfl⟩

theorem areShards_any (n : Int) (w : World) :
    Calls Try.prog 50 #[.int .i64 n] w fun e w' => e = .returned (.bool (M.inR n 1 8)) ∧ w = w' := by
  by_cases h1 : 1 ≤ n
  · by_cases h2 : n ≤ 8
    · rw [M.inR_of h1 h2]
      go_enter Try.func50, Try.ntmps50
      go_wp2
      go_ret
      exact ⟨rfl, rfl⟩
    · rw [M.inR_not (n := n) (lo := 1) (hi := 8) (by omega)]
      go_enter Try.func50, Try.ntmps50
      go_wp2
      go_ret
      exact ⟨rfl, rfl⟩
  · rw [M.inR_not (n := n) (lo := 1) (hi := 8) (by omega)]
    go_enter Try.func50, Try.ntmps50
    go_wp2
    go_ret
    exact ⟨rfl, rfl⟩

set_option maxHeartbeats 400000 in
theorem shardOf_spec (k s : Int) (w : World) (h1 : 1 ≤ k) (h2 : k ≤ 99) (h3 : 1 ≤ s) (h4 : s ≤ 8) :
    Calls Try.prog 48 #[.int .i64 k, .int .i64 s] w fun e w' => e = .returned (.int .i64 (M.sh k s)) ∧ w = w' := by
  have a1 : 0 ≤ 389 * k % 1009 := by omega
  have a2 : 389 * k % 1009 ≤ 1008 := by omega
  have a3 : 0 ≤ 389 * k % 1009 * s := Int.mul_nonneg a1 (by omega)
  have a4 : 389 * k % 1009 * s ≤ 1008 * 8 := Int.mul_le_mul a2 h4 (by omega) (by omega)
  go_enter Try.func48, Try.ntmps48
  go_wp2
  go_ret
  exact ⟨rfl, rfl⟩
set_option maxHeartbeats 400000 in
theorem shardOf_impl (k s : Int) (w : World) (h1 : 1 ≤ k) (h2 : k ≤ 99) (h3 : 1 ≤ s) (h4 : s ≤ 8) :
    Calls Try.prog 51 #[.int .i64 k, .int .i64 s] w fun e w' => e = .returned (.int .i64 (M.sh k s)) ∧ w = w' := by
  have a1 : 0 ≤ 389 * k % 1009 := by omega
  have a2 : 389 * k % 1009 ≤ 1008 := by omega
  have a3 : 0 ≤ 389 * k % 1009 * s := Int.mul_nonneg a1 (by omega)
  have a4 : 389 * k % 1009 * s ≤ 1008 * 8 := Int.mul_le_mul a2 h4 (by omega) (by omega)
  go_enter Try.func51, Try.ntmps51
  go_wp2
  go_ret
  exact ⟨rfl, rfl⟩


theorem ShardOf_impl (k s : Int) (w : World) :
    Calls Try.prog 32 #[.int .i64 k, .int .i64 s] w fun e w' => e = .returned (.int .i64 (M.shardOf k s)) ∧ w = w' := by
  by_cases h1 : 1 ≤ k
  · by_cases h2 : k ≤ 99
    · have hk := Lib.hid (M.inR_of h1 h2)
      cases hs : M.inR s 1 8
      · have e1 : M.shardOf k s = -1 := by simp [M.shardOf, hs]
        rw [e1]
        clear e1
        go_enter Try.func32, Try.ntmps32
        go_wp2_with (go_at_call 50; refine (areShards_any _ _).mono ?_; rintro e w' ⟨rfl, rfl⟩)
        go_ret
        exact ⟨rfl, rfl⟩
      · have e1 : M.shardOf k s = M.sh k s := by simp [M.shardOf, hs, hk.out]
        rw [e1]
        clear e1
        have a2 := M.inR_true hs
        go_enter Try.func32, Try.ntmps32
        go_wp2_with (first | (go_at_call 50; refine (areShards_any _ _).mono ?_; rintro e w' ⟨rfl, rfl⟩) | (go_at_call 51; refine (shardOf_impl k s _ h1 h2 a2.1 a2.2).mono ?_; rintro e w' ⟨rfl, rfl⟩))
        go_ret
        exact ⟨rfl, rfl⟩
    · have hk := M.inR_not (n := k) (lo := 1) (hi := 99) (by omega)
      have e1 : M.shardOf k s = -1 := by simp [M.shardOf, hk]
      rw [e1]
      clear e1 hk
      go_enter Try.func32, Try.ntmps32
      go_wp2_with fail
      go_ret
      exact ⟨rfl, rfl⟩
  · have hk := M.inR_not (n := k) (lo := 1) (hi := 99) (by omega)
    have e1 : M.shardOf k s = -1 := by simp [M.shardOf, hk]
    rw [e1]
    clear e1 hk
    go_enter Try.func32, Try.ntmps32
    go_wp2_with fail
    go_ret
    exact ⟨rfl, rfl⟩

end Go.Proofs.Ythohidhhhknnaaa
