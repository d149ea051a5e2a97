/- The walks of the copies and comparisons of histories, for the exact laws. -/
import Derived.Test.YtejbfmnioomkbaaHisE
import Derived.Test.YtejbfmnioomkbaaExE
namespace Go.Proofs.Ytejbfmnioomkbaa
open Go.RowKit
set_option linter.unusedVariables false
set_option linter.unusedSimpArgs false
set_option maxRecDepth 100000

def SmallH (h : M.Hist) : Prop := SmallE h.log ∧ h.times.length ≤ 1048576
/-- a history in memory, its blocks below hi -/
def RdH (W : World) (hi : Nat) (A B : Option Addr) (h : M.Hist) : Prop := RdE W 0 hi A h.log ∧ Rd W 0 hi B (h.times.map (.int .i64))
theorem RdH.sees {W : World} {A B : Option Addr} {h : M.Hist} (D : RdH W W.heap.size A B h) (hs : SmallH h) : SeesH W A B h := ⟨⟨D.1, hs.1⟩, D.2, hs.2⟩
theorem SeesH.rd {W : World} {A B : Option Addr} {h : M.Hist} (D : SeesH W A B h) : RdH W W.heap.size A B h := ⟨D.1.1, D.2.1⟩
theorem RdH.agree {W W' : World} {hi : Nat} {A B : Option Addr} {h : M.Hist} (D : RdH W hi A B h) (ha : Agree 0 hi W W') : RdH W' hi A B h := ⟨D.1.agree ha, D.2.agree ha⟩
theorem RdH.wide {W : World} {hi hi' : Nat} {A B : Option Addr} {h : M.Hist} (D : RdH W hi A B h) (hh : hi ≤ hi') : RdH W hi' A B h := ⟨D.1.wide (Nat.le_refl _) hh, D.2.wide (Nat.le_refl _) hh⟩
theorem eq_boxes (w : World) (x y x' y' : Value) : Row ((w.alloc (.cells #[x, y] 26)).alloc (.cells #[x', y'] 26)) w.heap.size 26 [x, y] ∧ Row ((w.alloc (.cells #[x, y] 26)).alloc (.cells #[x', y'] 26)) (w.heap.size + 1) 26 [x', y'] ∧
    w.grownBy ((w.alloc (.cells #[x, y] 26)).alloc (.cells #[x', y'] 26)) none := by
  refine ⟨(Row.new w _ rfl).alloc _, ?_, gb_alloc (gb_alloc (gb_refl _ _) _) _⟩
  have := Row.new (w.alloc (.cells #[x, y] 26)) 26 (ca := #[x', y']) rfl
  simpa using this
end Go.Proofs.Ytejbfmnioomkbaa
