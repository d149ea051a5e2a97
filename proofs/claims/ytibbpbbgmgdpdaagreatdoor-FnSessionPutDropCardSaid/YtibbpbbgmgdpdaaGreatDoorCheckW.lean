/- The walks of the checksums. -/
import Derived.Test.YtibbpbbgmgdpdaaGreatDoorReadW
import Derived.Test.YtibbpbbgmgdpdaaGreatDoorDrawKW
import Derived.Test.YtibbpbbgmgdpdaaGreatDoorBase
namespace Go.Proofs.YtibbpbbgmgdpdaaGreatDoor
open Go.RowKit
set_option linter.unusedVariables false

theorem chk_take {l : List Int} {k : Nat} (hk : k < l.length) : M.chk (l.take (k + 1)) = (31 * M.chk (l.take k) + l[k]) % 251 := by
  rw [List.take_succ_eq_append_getElem hk, M.chk, List.foldl_append]
  rfl
theorem chk_range (l : List Int) : 0 ≤ M.chk l ∧ M.chk l ≤ 250 := by
  unfold M.chk
  generalize hn : (1 : Int) = n
  have h0 : 0 ≤ n ∧ n ≤ 250 := by omega
  clear hn
  induction l generalizing n with
  | nil => exact h0
  | cons a l ih => exact ih _ (by show 0 ≤ (31 * n + a) % 251 ∧ (31 * n + a) % 251 ≤ 250; omega)

theorem checkOf_range (l : List Int) : M.checkOf l ≤ 250 ∧ (0 ≤ M.checkOf l ↔ l.length ≤ 200) ∧ (l.length ≤ 200 → M.checkOf l = M.chk l) := by
  unfold M.checkOf
  have h := chk_range l
  by_cases h2 : l.length ≤ 200
  · rw [if_pos h2]
    exact ⟨h.2, ⟨fun _ => h2, fun _ => h.1⟩, fun _ => rfl⟩
  · rw [if_neg h2]
    exact ⟨by omega, ⟨fun h => by omega, fun h => absurd h h2⟩, fun h => absurd h h2⟩
end Go.Proofs.YtibbpbbgmgdpdaaGreatDoor
