/- The walks of the moved keys. -/
import Derived.Test.YtibbpbbgmgdpdaaGreatDoorItemW
import Derived.Test.YtibbpbbgmgdpdaaGreatDoorBase
import Derived.Deep.RegionWith
namespace Go.Proofs.YtibbpbbgmgdpdaaGreatDoor
open Go.RowKit
set_option linter.unusedVariables false
set_option maxRecDepth 100000

theorem info_int : (Tryz.prog.info? 3).map (fun i => (i.zero, i.size, i.bytes)) = some (some (.int .i64 0), 1, 8) := by kernel_rfl
theorem moved_take {L : List M.Item} {k : Nat} (hk : k < L.length) (f t : Int) : M.moved (L.take (k + 1)) f t = M.moved (L.take k) f t ++ (if M.sh L[k].key f ≠ M.sh L[k].key t then [L[k].key] else []) := by
  unfold M.moved
  rw [List.take_succ_eq_append_getElem hk, List.filter_append, List.map_append]
  congr 1
  by_cases h : M.sh L[k].key f = M.sh L[k].key t
  · simp [h]
  · simp [h]
theorem moved_le (L : List M.Item) (f t : Int) : (M.moved L f t).length ≤ L.length := by
  unfold M.moved
  rw [List.length_map]
  exact List.length_filter_le _ _
theorem key_range {x : M.Item} (h : M.validItem x = true) : 1 ≤ x.key ∧ x.key ≤ 99 := by
  unfold M.validItem at h
  simp only [Bool.and_eq_true] at h
  exact M.inR_true h.1.1

end Go.Proofs.YtibbpbbgmgdpdaaGreatDoor
