/- The walks of histories rolled back and added to. -/
import Derived.Test.YtejbfmnioomkbaaHisA
namespace Go.Proofs.Ytejbfmnioomkbaa
open Go.RowKit
set_option linter.unusedVariables false
set_option linter.unusedSimpArgs false
set_option maxRecDepth 100000

/-- a history is handed back, or none -/
def HisOpt (w : World) (r : Option M.Hist) (e : Ending) (w' : World) : Prop :=
  ∃ A c B d, e = .returned (.tuple #[.agg #[.slice A (r.getD ⟨[], []⟩).log.length c, .slice B (r.getD ⟨[], []⟩).times.length d], .bool r.isSome]) ∧ (r.getD ⟨[], []⟩).log.length ≤ c ∧ (r.getD ⟨[], []⟩).times.length ≤ d ∧
    OwnH w' w.heap.size (.slice A (r.getD ⟨[], []⟩).log.length c) (.slice B (r.getD ⟨[], []⟩).times.length d) (r.getD ⟨[], []⟩).log (r.getD ⟨[], []⟩).times ∧ w.grownBy w' none
theorem hisOpt_none {w w' : World} {r : Option M.Hist} (hr : r = none) (h : w.grownBy w' none) : HisOpt w r (.returned (.tuple #[.agg #[.slice none 0 0, .slice none 0 0], .bool false])) w' := by
  subst hr
  exact ⟨none, 0, none, 0, rfl, Nat.le_refl _, Nat.le_refl _, OwnH.nil_ _ _, h⟩
theorem hisOpt_some {w w' : World} {r : Option M.Hist} {h : M.Hist} {A B : Option Addr} {c d : Nat} (hr : r = some h) (h1 : h.log.length ≤ c) (h2 : h.times.length ≤ d) (ho : OwnH w' w.heap.size (.slice A h.log.length c) (.slice B h.times.length d) h.log h.times) (hg : w.grownBy w' none) :
    HisOpt w r (.returned (.tuple #[.agg #[.slice A h.log.length c, .slice B h.times.length d], .bool true])) w' := by
  subst hr
  exact ⟨A, c, B, d, rfl, h1, h2, ho, hg⟩
theorem two_boxes (w : World) (x y : Value) : Row ((w.alloc (.cells #[x, y] 26)).alloc (.cells #[.slice none 0 0, .slice none 0 0] 26)) w.heap.size 26 [x, y] ∧
    Row ((w.alloc (.cells #[x, y] 26)).alloc (.cells #[.slice none 0 0, .slice none 0 0] 26)) (w.heap.size + 1) 26 [.slice none 0 0, .slice none 0 0] ∧
    w.grownBy ((w.alloc (.cells #[x, y] 26)).alloc (.cells #[.slice none 0 0, .slice none 0 0] 26)) none := by
  refine ⟨(Row.new w _ rfl).alloc _, ?_, gb_alloc (gb_alloc (gb_refl _ _) _) _⟩
  have := Row.new (w.alloc (.cells #[x, y] 26)) 26 (ca := #[.slice none 0 0, .slice none 0 0]) rfl
  simpa using this
end Go.Proofs.Ytejbfmnioomkbaa
