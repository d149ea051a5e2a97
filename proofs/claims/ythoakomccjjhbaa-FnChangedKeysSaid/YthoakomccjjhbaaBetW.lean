/- The walks of logs between stores. -/
import Derived.Test.YthoakomccjjhbaaLogW
import Derived.Test.YthoakomccjjhbaaDistW
import Derived.Test.YthoakomccjjhbaaPure
namespace Go.Proofs.Ythoakomccjjhbaa
open Go.RowKit
set_option linter.unusedVariables false
set_option maxRecDepth 100000

def BetMade (w : World) (L : List M.Entry) (e : Ending) (w' : World) : Prop := ∃ v, e = .returned v ∧ OwnEntries w' w.heap.size v L ∧ w.grownBy w' none
theorem betMade_nil {w w' : World} (h : w.grownBy w' none) : BetMade w [] (.returned (.slice none 0 0)) w' :=
  ⟨_, rfl, ⟨[], rfl, ⟨rfl, .inl ⟨rfl, rfl⟩⟩, by simp, List.Pairwise.nil⟩, h⟩
theorem vecs_of_valid {L : List M.Item} (h : M.validStore L = true) : ∀ x ∈ L, x.pos.length = 4 ∧ ∀ c ∈ x.pos, -100 ≤ c ∧ c ≤ 100 := fun x hx => by
  have h2 := (M.validStore_of h).2.1 x hx
  unfold M.validItem at h2
  simp only [Bool.and_eq_true] at h2
  exact M.isVec_iff.1 h2.1.2
end Go.Proofs.Ythoakomccjjhbaa
