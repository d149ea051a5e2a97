/-
  No cell of these rows narrows 'for every input' (looked for: loops, veiled, ifaces, maps, wideKeys, modest, calm, conditions, laid).
  DERIVED. THE GIVEN ROWS OF THIS SEAT. 4 by the template 'for every input the law returns true; each argument reads behind the call as it read before'; 0 by the template 'total and deterministic' (their statements: YtilecjaibmglbaaTotals.lean).
  GIVEN WITH THE SEED: the statements are not yours to turn. If you find one false, say at which input.
  Laid BY PROGRAM, IN A SANDBOX (cutbox-rows.mjs): the forced cells as the released guide's own fill.sh prints them over the translation 9ef8cf0652dce22b… (all of the seat's roots in one cut). By AI agents, Wed Nov 11 2026. No macro, syntax, notation, axiom, sorry.
-/
import Derived.Test.YtilecjaibmglbaaChecked
import GoSem.Claim
import GoSem.ClaimJoined
import GoSem.ClaimMapViews
import Derived.JoinedTies
import Derived.KernelRfl
namespace Go.Proofs.Ytilecjaibmglbaa
/- THE CELL 'sum', in the pinned program and in every row, IS THE sha256 OF THE DUMP (.gsa) THAT YtilecjaibmglbaaProg.lean LOADS. Nothing in Lean hashes anything: it is a label: what it is worth is what the hold of that sum in a sandbox is worth. -/
noncomputable def Try.pinned : Pinned := { name := "ytilecjaibmglbaa", sum := "9ef8cf0652dce22b363ddb21cadf3f1fb3dbbd4a8fd6649e8581c46c15f6ba17", checked := Try.checked }
namespace Rows
def none {H : Type} : Left H := { results := [], args := [] }

/-- 'laws.FnLogBetweenEmpty': WHATEVER THE INPUT: true; the input reads as it did. -/
def fnLogBetweenEmptySpec : ChangeSpec := { name := "fnLogBetweenEmpty", fn := fun _ => fun
  | [d] => { results := [.lit (.bool true)], args := [d] }
  | _ => none }
def fnLogBetweenEmptyRow : OpenClaim := { program := "ytilecjaibmglbaa", sum := "9ef8cf0652dce22b363ddb21cadf3f1fb3dbbd4a8fd6649e8581c46c15f6ba17", func := "loop.example/vectorstore/laws.FnLogBetweenEmpty", spec := "fnLogBetweenEmpty", unfollowed := true, recurses := true, apart := false }
def FnLogBetweenEmptySaid : Prop := fnLogBetweenEmptyRow.holds Try.pinned (OpenSpec.ofChange fnLogBetweenEmptySpec)

/-- ITS FALSE NEIGHBOUR: 'it returns false'. Refute it at one input. -/
def fnLogBetweenEmptyWrong : ChangeSpec := { name := "fnLogBetweenEmpty", fn := fun _ => fun
  | [d] => { results := [.lit (.bool false)], args := [d] }
  | _ => none }
def FnLogBetweenEmptyWrongFalsely : Prop := fnLogBetweenEmptyRow.holds Try.pinned (OpenSpec.ofChange fnLogBetweenEmptyWrong)

/-- 'laws.FnReplayLogCount': WHATEVER THE INPUT: true; the input reads as it did. -/
def fnReplayLogCountSpec : ChangeSpec := { name := "fnReplayLogCount", fn := fun _ => fun
  | [d] => { results := [.lit (.bool true)], args := [d] }
  | _ => none }
def fnReplayLogCountRow : OpenClaim := { program := "ytilecjaibmglbaa", sum := "9ef8cf0652dce22b363ddb21cadf3f1fb3dbbd4a8fd6649e8581c46c15f6ba17", func := "loop.example/vectorstore/laws.FnReplayLogCount", spec := "fnReplayLogCount", unfollowed := true, recurses := true, apart := false }
def FnReplayLogCountSaid : Prop := fnReplayLogCountRow.holds Try.pinned (OpenSpec.ofChange fnReplayLogCountSpec)

/-- ITS FALSE NEIGHBOUR: 'it returns false'. Refute it at one input. -/
def fnReplayLogCountWrong : ChangeSpec := { name := "fnReplayLogCount", fn := fun _ => fun
  | [d] => { results := [.lit (.bool false)], args := [d] }
  | _ => none }
def FnReplayLogCountWrongFalsely : Prop := fnReplayLogCountRow.holds Try.pinned (OpenSpec.ofChange fnReplayLogCountWrong)

/-- 'laws.FnLogBetweenShort': WHATEVER THE INPUT: true; the input reads as it did. -/
def fnLogBetweenShortSpec : ChangeSpec := { name := "fnLogBetweenShort", fn := fun _ => fun
  | [d] => { results := [.lit (.bool true)], args := [d] }
  | _ => none }
def fnLogBetweenShortRow : OpenClaim := { program := "ytilecjaibmglbaa", sum := "9ef8cf0652dce22b363ddb21cadf3f1fb3dbbd4a8fd6649e8581c46c15f6ba17", func := "loop.example/vectorstore/laws.FnLogBetweenShort", spec := "fnLogBetweenShort", unfollowed := true, recurses := true, apart := false }
def FnLogBetweenShortSaid : Prop := fnLogBetweenShortRow.holds Try.pinned (OpenSpec.ofChange fnLogBetweenShortSpec)

/-- ITS FALSE NEIGHBOUR: 'it returns false'. Refute it at one input. -/
def fnLogBetweenShortWrong : ChangeSpec := { name := "fnLogBetweenShort", fn := fun _ => fun
  | [d] => { results := [.lit (.bool false)], args := [d] }
  | _ => none }
def FnLogBetweenShortWrongFalsely : Prop := fnLogBetweenShortRow.holds Try.pinned (OpenSpec.ofChange fnLogBetweenShortWrong)

/-- 'laws.FnLogBetween': WHATEVER THE INPUT: true; the input reads as it did. -/
def fnLogBetweenSpec : ChangeSpec := { name := "fnLogBetween", fn := fun _ => fun
  | [d] => { results := [.lit (.bool true)], args := [d] }
  | _ => none }
def fnLogBetweenRow : OpenClaim := { program := "ytilecjaibmglbaa", sum := "9ef8cf0652dce22b363ddb21cadf3f1fb3dbbd4a8fd6649e8581c46c15f6ba17", func := "loop.example/vectorstore/laws.FnLogBetween", spec := "fnLogBetween", unfollowed := true, recurses := true, apart := false }
def FnLogBetweenSaid : Prop := fnLogBetweenRow.holds Try.pinned (OpenSpec.ofChange fnLogBetweenSpec)

/-- ITS FALSE NEIGHBOUR: 'it returns false'. Refute it at one input. -/
def fnLogBetweenWrong : ChangeSpec := { name := "fnLogBetween", fn := fun _ => fun
  | [d] => { results := [.lit (.bool false)], args := [d] }
  | _ => none }
def FnLogBetweenWrongFalsely : Prop := fnLogBetweenRow.holds Try.pinned (OpenSpec.ofChange fnLogBetweenWrong)

/- THE SECOND FORM. 'bulk': how many values and letters a reading holds, each counted each time it is reached (what is shared counts as often as it is met; a slice's spare places count too). A statement '..UptoSaid' is the law's where the arguments, and the package variables that the reading takes, are together of bulk at most 1048576: NARROWER than '..Said'. Prove '..Said' where nothing that the law and all that it calls make is longer than what came in: it says more and counts as full. Else prove '..UptoSaid'. A law counts once. -/
mutual
def uptoBulk {H : Type} : DataW H → Nat
  | .lit (.string bytes) => bytes.length + 1
  | .lit _ => 1
  | .nil => 1
  | .ptr d => uptoBulk d + 1
  | .slice elems spare => uptoBulkAll elems + uptoBulkAll spare + 1
  | .agg parts => uptoBulkAll parts + 1
  | .iface _ d => uptoBulk d + 1
  | .map entries => uptoBulkEntries entries + 1
  | .held _ => 1
def uptoBulkAll {H : Type} : List (DataW H) → Nat
  | [] => 0
  | d :: r => uptoBulk d + uptoBulkAll r
def uptoBulkEntries {H : Type} : List (Lit × DataW H) → Nat
  | [] => 0
  | x :: r => uptoBulkEntry x + uptoBulkEntries r
def uptoBulkEntry {H : Type} : Lit × DataW H → Nat
  | (.string bytes, d) => bytes.length + uptoBulk d + 1
  | (_, d) => uptoBulk d + 1
 end
def uptoSmall : (H : Type) → List (DataW H) → Bool := fun _ ds => decide (uptoBulkAll ds ≤ 1048576)
def OpenSpec.upto (s : _root_.Go.ChangeSpec) : _root_.Go.OpenSpec := { _root_.Go.OpenSpec.ofChange s with cond := some uptoSmall }

/-- 'laws.FnLogBetweenEmpty', WHERE WHAT IT READS IS OF BULK AT MOST 1048576: true; the input reads as it did. -/
def fnLogBetweenEmptyUptoRow : OpenClaim := { program := "ytilecjaibmglbaa", sum := "9ef8cf0652dce22b363ddb21cadf3f1fb3dbbd4a8fd6649e8581c46c15f6ba17", func := "loop.example/vectorstore/laws.FnLogBetweenEmpty", spec := "fnLogBetweenEmpty", unfollowed := true, recurses := true, apart := false, narrowed := true }
def FnLogBetweenEmptyUptoSaid : Prop := fnLogBetweenEmptyUptoRow.holds Try.pinned (OpenSpec.upto fnLogBetweenEmptySpec)

/-- 'laws.FnReplayLogCount', WHERE WHAT IT READS IS OF BULK AT MOST 1048576: true; the input reads as it did. -/
def fnReplayLogCountUptoRow : OpenClaim := { program := "ytilecjaibmglbaa", sum := "9ef8cf0652dce22b363ddb21cadf3f1fb3dbbd4a8fd6649e8581c46c15f6ba17", func := "loop.example/vectorstore/laws.FnReplayLogCount", spec := "fnReplayLogCount", unfollowed := true, recurses := true, apart := false, narrowed := true }
def FnReplayLogCountUptoSaid : Prop := fnReplayLogCountUptoRow.holds Try.pinned (OpenSpec.upto fnReplayLogCountSpec)

/-- 'laws.FnLogBetweenShort', WHERE WHAT IT READS IS OF BULK AT MOST 1048576: true; the input reads as it did. -/
def fnLogBetweenShortUptoRow : OpenClaim := { program := "ytilecjaibmglbaa", sum := "9ef8cf0652dce22b363ddb21cadf3f1fb3dbbd4a8fd6649e8581c46c15f6ba17", func := "loop.example/vectorstore/laws.FnLogBetweenShort", spec := "fnLogBetweenShort", unfollowed := true, recurses := true, apart := false, narrowed := true }
def FnLogBetweenShortUptoSaid : Prop := fnLogBetweenShortUptoRow.holds Try.pinned (OpenSpec.upto fnLogBetweenShortSpec)

/-- 'laws.FnLogBetween', WHERE WHAT IT READS IS OF BULK AT MOST 1048576: true; the input reads as it did. -/
def fnLogBetweenUptoRow : OpenClaim := { program := "ytilecjaibmglbaa", sum := "9ef8cf0652dce22b363ddb21cadf3f1fb3dbbd4a8fd6649e8581c46c15f6ba17", func := "loop.example/vectorstore/laws.FnLogBetween", spec := "fnLogBetween", unfollowed := true, recurses := true, apart := false, narrowed := true }
def FnLogBetweenUptoSaid : Prop := fnLogBetweenUptoRow.holds Try.pinned (OpenSpec.upto fnLogBetweenSpec)

end Rows
end Go.Proofs.Ytilecjaibmglbaa
