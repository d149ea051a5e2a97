/- The contracts of logs in the laws' words; comparisons of entries. -/
import Derived.Test.YtejbfmnioomkbaaLogW
import Derived.Test.YtejbfmnioomkbaaEqL
namespace Go.Proofs.Ytejbfmnioomkbaa
open Go.RowKit
set_option linter.unusedVariables false
set_option maxRecDepth 100000

theorem SmallE.sub {L L' : List M.Entry} (h : SmallE L) (hs : L'.Sublist L) : SmallE L' := ⟨Nat.le_trans hs.length_le h.1, fun x hx => h.2 x (hs.subset hx)⟩
theorem small_short {L : List M.Entry} (h : SmallE L) : SmallE (M.ShortLog L) := by
  unfold M.ShortLog
  split
  · exact h.sub (M.short_sub L)
  · exact SmallE.nil_
end Go.Proofs.Ytejbfmnioomkbaa
