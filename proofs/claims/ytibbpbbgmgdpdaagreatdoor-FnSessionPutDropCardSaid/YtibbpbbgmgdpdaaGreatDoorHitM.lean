/- The marks of hits: what is marked holds its numbers. -/
import Derived.Test.YtibbpbbgmgdpdaaGreatDoorHitB
namespace Go.Proofs.YtibbpbbgmgdpdaaGreatDoor
open Go.RowKit
set_option linter.unusedVariables false
set_option maxRecDepth 100000

def renX (k : Int) (n : Nat) : List M.Hit := (List.range n).map fun i : Nat => ⟨k + 2 * (i : Int), k + 2 * (i : Int) + 1⟩
theorem renX_length (k : Int) (n : Nat) : (renX k n).length = n := by simp [renX]
theorem renX_succ (k : Int) (n : Nat) : renX k (n + 1) = renX k n ++ [⟨k + 2 * n, k + 2 * n + 1⟩] := by simp [renX, List.range_succ]
theorem renX_at {k : Int} {n j : Nat} (h : j < n) : (renX k n)[j]? = some ⟨k + 2 * j, k + 2 * j + 1⟩ := by
  rw [renX, List.getElem?_map, List.getElem?_range h]; rfl
theorem cellsX_set0 (P R : List M.Hit) (h : M.Hit) (a : Int) : (cellsX (P ++ h :: R)).set (P.length * 2) (.int .i64 a) = cellsX (P ++ ⟨a, h.dist⟩ :: R) := by
  rw [cellsX_append, cellsX_append, List.set_append_right _ _ (by rw [cellsX_length]; exact Nat.le_refl _), cellsX_length, Nat.sub_self, cellsX_cons, cellsX_cons]
  rfl
theorem cellsX_set1 (P R : List M.Hit) (h : M.Hit) (a : Int) : (cellsX (P ++ h :: R)).set (P.length * 2 + 1) (.int .i64 a) = cellsX (P ++ ⟨h.key, a⟩ :: R) := by
  rw [cellsX_append, cellsX_append, List.set_append_right _ _ (by rw [cellsX_length]; omega), cellsX_length, show P.length * 2 + 1 - P.length * 2 = 1 from by omega, cellsX_cons, cellsX_cons]
  rfl
end Go.Proofs.YtibbpbbgmgdpdaaGreatDoor
