/- The walks of the tests of entries and logs. -/
import Derived.Test.YtibbpbbgmgdpdaaGreatDoorEnt
import Derived.Test.YtibbpbbgmgdpdaaGreatDoorItemW
namespace Go.Proofs.YtibbpbbgmgdpdaaGreatDoor
open Go.RowKit
set_option linter.unusedVariables false
set_option maxRecDepth 100000

/-- the place of the first entry that passes -/
def idxE (L : List M.Entry) (p : M.Entry → Bool) : Int := match L.findIdx? p with | some i => (i : Int) | none => -1
theorem idxE_none {L : List M.Entry} {p : M.Entry → Bool} (h : ∀ x ∈ L, p x = false) : idxE L p = -1 := by
  unfold idxE
  rw [List.findIdx?_eq_none_iff.2 (fun x hx => h x hx)]
theorem idxE_some {L : List M.Entry} {p : M.Entry → Bool} {k : Nat} (hk : k < L.length) (h : ∀ x ∈ L.take k, p x = false) (hp : p L[k] = true) : idxE L p = (k : Int) := by
  unfold idxE
  have : L.findIdx? p = some k := by
    rw [List.findIdx?_eq_some_iff_getElem]
    refine ⟨hk, hp, fun j hj => ?_⟩
    have hm : L[j] ∈ L.take k := by
      rw [List.mem_take_iff_getElem]
      exact ⟨j, by omega, rfl⟩
    simp [h _ hm]
  rw [this]
theorem idxE_any (L : List M.Entry) (p : M.Entry → Bool) : decide (0 ≤ idxE L p) = L.any p := by
  unfold idxE
  cases h : L.findIdx? p with
  | none =>
    rw [List.findIdx?_eq_none_iff] at h
    have : L.any p = false := by rw [List.any_eq_false]; intro x hx; simp [h x hx]
    rw [this]; rfl
  | some i =>
    have h' := List.findIdx?_eq_some_iff_getElem.1 h
    have : L.any p = true := List.any_eq_true.2 ⟨_, List.getElem_mem h'.1, h'.2.1⟩
    rw [this]
    simp
theorem all_snoc_false {α : Type} {p : α → Bool} {l : List α} {k : Nat} (hk : k < l.length) (h : ∀ x ∈ l.take k, p x = false) (hp : p l[k] = false) : ∀ x ∈ l.take (k + 1), p x = false := fun x hx => by
  rw [List.take_succ_eq_append_getElem hk, List.mem_append] at hx
  rcases hx with hx | hx
  · exact h x hx
  · simp at hx; subst hx; exact hp
end Go.Proofs.YtibbpbbgmgdpdaaGreatDoor
