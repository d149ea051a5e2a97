/- The walks of pages: bytes of stores. -/
import Derived.Test.YtibbpbbgmgdpdaaGreatDoorCheckW
import Derived.Test.YtibbpbbgmgdpdaaGreatDoorItemW
import Derived.Test.YtibbpbbgmgdpdaaGreatDoorCopyW
import Derived.Test.YtibbpbbgmgdpdaaGreatDoorPure
import Derived.Test.YtibbpbbgmgdpdaaGreatDoorKeep
namespace Go.Proofs.YtibbpbbgmgdpdaaGreatDoor
open Go.RowKit
set_option linter.unusedVariables false

theorem info_u8' : (Tryz.prog.info? 5).map (fun i => (i.zero, i.size, i.bytes)) = some (some (.int .u8 0), 1, 1) := by kernel_rfl
theorem two_cell_at {w : World} {t : TypeId} {x y : Value} {g : Nat} (hg : g = w.heap.size) : ∀ (j : Nat) (u : Value), [x, y][j]? = some u → (w.alloc (.cells #[x, y] t)).cell? ((⟨g, 0, none⟩ : Addr).add j) = some u := by
  subst hg
  intro j u hu
  rw [Addr.add_lit, Nat.zero_add, cell_of_row _ _ _ #[x, y] t (0, 0) (heap_alloc_new w _)]
  simpa using hu
theorem two_cells {k : IntKind} {x y : Int} : ∀ u ∈ [Value.int k x, Value.int k y], u.oneCell' = true := by
  intro u hu
  simp at hu
  rcases hu with rfl | rfl <;> rfl
def pre (L : List M.Item) (k : Nat) : List Int := (L.length : Int) :: (L.take k).flatMap M.ib
theorem pre_succ {L : List M.Item} {k : Nat} (hk : k < L.length) : pre L (k + 1) = pre L k ++ M.ib L[k] := by
  unfold pre
  rw [List.take_succ_eq_append_getElem hk, List.flatMap_append]
  simp
end Go.Proofs.YtibbpbbgmgdpdaaGreatDoor
