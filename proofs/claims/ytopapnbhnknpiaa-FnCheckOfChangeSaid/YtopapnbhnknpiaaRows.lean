/-
  No cell of these rows narrows 'for every input' (looked for: loops, veiled, ifaces, maps, wideKeys, modest, calm, conditions, laid).
  DERIVED. THE GIVEN ROWS OF THIS SEAT. 8 by the template 'for every input the law returns true; each argument reads behind the call as it read before'; 0 by the template 'total and deterministic' (their statements: YtopapnbhnknpiaaTotals.lean).
  GIVEN WITH THE SEED: the statements are not yours to turn. If you find one false, say at which input.
  Laid BY PROGRAM, IN A SANDBOX (cutbox-rows.mjs): the forced cells as the released guide's own fill.sh prints them over the translation 49179b2f82f005ac… (all of the seat's roots in one cut). By AI agents, Wed Nov 11 2026. No macro, syntax, notation, axiom, sorry.
-/
import Derived.Test.YtopapnbhnknpiaaChecked
import GoSem.Claim
import GoSem.ClaimJoined
import GoSem.ClaimMapViews
import Derived.JoinedTies
import Derived.KernelRfl
namespace Go.Proofs.Ytopapnbhnknpiaa
/- THE CELL 'sum', in the pinned program and in every row, IS THE sha256 OF THE DUMP (.gsa) THAT YtopapnbhnknpiaaProg.lean LOADS. Nothing in Lean hashes anything: it is a label: what it is worth is what the hold of that sum in a sandbox is worth. -/
noncomputable def Try.pinned : Pinned := { name := "ytopapnbhnknpiaa", sum := "49179b2f82f005ac2169eaf56420e7f86e4bd33cf418583ded8b070c9bc633cc", checked := Try.checked }
namespace Rows
def none {H : Type} : Left H := { results := [], args := [] }

/-- 'laws.FnExactShardOf': WHATEVER THE INPUT: true; the input reads as it did. -/
def fnExactShardOfSpec : ChangeSpec := { name := "fnExactShardOf", fn := fun _ => fun
  | [d1, d2] => { results := [.lit (.bool true)], args := [d1, d2] }
  | _ => none }
def fnExactShardOfRow : OpenClaim := { program := "ytopapnbhnknpiaa", sum := "49179b2f82f005ac2169eaf56420e7f86e4bd33cf418583ded8b070c9bc633cc", func := "loop.example/vectorstore/laws.FnExactShardOf", spec := "fnExactShardOf", apart := false }
def FnExactShardOfSaid : Prop := fnExactShardOfRow.holds Try.pinned (OpenSpec.ofChange fnExactShardOfSpec)

/-- ITS FALSE NEIGHBOUR: 'it returns false'. Refute it at one input. -/
def fnExactShardOfWrong : ChangeSpec := { name := "fnExactShardOf", fn := fun _ => fun
  | [d1, d2] => { results := [.lit (.bool false)], args := [d1, d2] }
  | _ => none }
def FnExactShardOfWrongFalsely : Prop := fnExactShardOfRow.holds Try.pinned (OpenSpec.ofChange fnExactShardOfWrong)

/-- 'laws.FnExactCheckOf': WHATEVER THE INPUT: true; the input reads as it did. -/
def fnExactCheckOfSpec : ChangeSpec := { name := "fnExactCheckOf", fn := fun _ => fun
  | [d] => { results := [.lit (.bool true)], args := [d] }
  | _ => none }
def fnExactCheckOfRow : OpenClaim := { program := "ytopapnbhnknpiaa", sum := "49179b2f82f005ac2169eaf56420e7f86e4bd33cf418583ded8b070c9bc633cc", func := "loop.example/vectorstore/laws.FnExactCheckOf", spec := "fnExactCheckOf", apart := false }
def FnExactCheckOfSaid : Prop := fnExactCheckOfRow.holds Try.pinned (OpenSpec.ofChange fnExactCheckOfSpec)

/-- ITS FALSE NEIGHBOUR: 'it returns false'. Refute it at one input. -/
def fnExactCheckOfWrong : ChangeSpec := { name := "fnExactCheckOf", fn := fun _ => fun
  | [d] => { results := [.lit (.bool false)], args := [d] }
  | _ => none }
def FnExactCheckOfWrongFalsely : Prop := fnExactCheckOfRow.holds Try.pinned (OpenSpec.ofChange fnExactCheckOfWrong)

/-- 'laws.FnShardOf': WHATEVER THE INPUT: true; the input reads as it did. -/
def fnShardOfSpec : ChangeSpec := { name := "fnShardOf", fn := fun _ => fun
  | [d] => { results := [.lit (.bool true)], args := [d] }
  | _ => none }
def fnShardOfRow : OpenClaim := { program := "ytopapnbhnknpiaa", sum := "49179b2f82f005ac2169eaf56420e7f86e4bd33cf418583ded8b070c9bc633cc", func := "loop.example/vectorstore/laws.FnShardOf", spec := "fnShardOf", apart := false }
def FnShardOfSaid : Prop := fnShardOfRow.holds Try.pinned (OpenSpec.ofChange fnShardOfSpec)

/-- ITS FALSE NEIGHBOUR: 'it returns false'. Refute it at one input. -/
def fnShardOfWrong : ChangeSpec := { name := "fnShardOf", fn := fun _ => fun
  | [d] => { results := [.lit (.bool false)], args := [d] }
  | _ => none }
def FnShardOfWrongFalsely : Prop := fnShardOfRow.holds Try.pinned (OpenSpec.ofChange fnShardOfWrong)

/-- 'laws.FnShardOfHalves': WHATEVER THE INPUT: true; the input reads as it did. -/
def fnShardOfHalvesSpec : ChangeSpec := { name := "fnShardOfHalves", fn := fun _ => fun
  | [d] => { results := [.lit (.bool true)], args := [d] }
  | _ => none }
def fnShardOfHalvesRow : OpenClaim := { program := "ytopapnbhnknpiaa", sum := "49179b2f82f005ac2169eaf56420e7f86e4bd33cf418583ded8b070c9bc633cc", func := "loop.example/vectorstore/laws.FnShardOfHalves", spec := "fnShardOfHalves", apart := false }
def FnShardOfHalvesSaid : Prop := fnShardOfHalvesRow.holds Try.pinned (OpenSpec.ofChange fnShardOfHalvesSpec)

/-- ITS FALSE NEIGHBOUR: 'it returns false'. Refute it at one input. -/
def fnShardOfHalvesWrong : ChangeSpec := { name := "fnShardOfHalves", fn := fun _ => fun
  | [d] => { results := [.lit (.bool false)], args := [d] }
  | _ => none }
def FnShardOfHalvesWrongFalsely : Prop := fnShardOfHalvesRow.holds Try.pinned (OpenSpec.ofChange fnShardOfHalvesWrong)

/-- 'laws.FnShardOfSpread': WHATEVER THE INPUT: true; the input reads as it did. -/
def fnShardOfSpreadSpec : ChangeSpec := { name := "fnShardOfSpread", fn := fun _ => fun
  | [d] => { results := [.lit (.bool true)], args := [d] }
  | _ => none }
def fnShardOfSpreadRow : OpenClaim := { program := "ytopapnbhnknpiaa", sum := "49179b2f82f005ac2169eaf56420e7f86e4bd33cf418583ded8b070c9bc633cc", func := "loop.example/vectorstore/laws.FnShardOfSpread", spec := "fnShardOfSpread", apart := false }
def FnShardOfSpreadSaid : Prop := fnShardOfSpreadRow.holds Try.pinned (OpenSpec.ofChange fnShardOfSpreadSpec)

/-- ITS FALSE NEIGHBOUR: 'it returns false'. Refute it at one input. -/
def fnShardOfSpreadWrong : ChangeSpec := { name := "fnShardOfSpread", fn := fun _ => fun
  | [d] => { results := [.lit (.bool false)], args := [d] }
  | _ => none }
def FnShardOfSpreadWrongFalsely : Prop := fnShardOfSpreadRow.holds Try.pinned (OpenSpec.ofChange fnShardOfSpreadWrong)

/-- 'laws.FnCheckOf': WHATEVER THE INPUT: true; the input reads as it did. -/
def fnCheckOfSpec : ChangeSpec := { name := "fnCheckOf", fn := fun _ => fun
  | [d] => { results := [.lit (.bool true)], args := [d] }
  | _ => none }
def fnCheckOfRow : OpenClaim := { program := "ytopapnbhnknpiaa", sum := "49179b2f82f005ac2169eaf56420e7f86e4bd33cf418583ded8b070c9bc633cc", func := "loop.example/vectorstore/laws.FnCheckOf", spec := "fnCheckOf", apart := false }
def FnCheckOfSaid : Prop := fnCheckOfRow.holds Try.pinned (OpenSpec.ofChange fnCheckOfSpec)

/-- ITS FALSE NEIGHBOUR: 'it returns false'. Refute it at one input. -/
def fnCheckOfWrong : ChangeSpec := { name := "fnCheckOf", fn := fun _ => fun
  | [d] => { results := [.lit (.bool false)], args := [d] }
  | _ => none }
def FnCheckOfWrongFalsely : Prop := fnCheckOfRow.holds Try.pinned (OpenSpec.ofChange fnCheckOfWrong)

/-- 'laws.FnCheckOfChange': WHATEVER THE INPUT: true; the input reads as it did. -/
def fnCheckOfChangeSpec : ChangeSpec := { name := "fnCheckOfChange", fn := fun _ => fun
  | [d] => { results := [.lit (.bool true)], args := [d] }
  | _ => none }
def fnCheckOfChangeRow : OpenClaim := { program := "ytopapnbhnknpiaa", sum := "49179b2f82f005ac2169eaf56420e7f86e4bd33cf418583ded8b070c9bc633cc", func := "loop.example/vectorstore/laws.FnCheckOfChange", spec := "fnCheckOfChange", apart := false }
def FnCheckOfChangeSaid : Prop := fnCheckOfChangeRow.holds Try.pinned (OpenSpec.ofChange fnCheckOfChangeSpec)

/-- ITS FALSE NEIGHBOUR: 'it returns false'. Refute it at one input. -/
def fnCheckOfChangeWrong : ChangeSpec := { name := "fnCheckOfChange", fn := fun _ => fun
  | [d] => { results := [.lit (.bool false)], args := [d] }
  | _ => none }
def FnCheckOfChangeWrongFalsely : Prop := fnCheckOfChangeRow.holds Try.pinned (OpenSpec.ofChange fnCheckOfChangeWrong)

/-- 'laws.FnCheckOfRange': WHATEVER THE INPUT: true; the input reads as it did. -/
def fnCheckOfRangeSpec : ChangeSpec := { name := "fnCheckOfRange", fn := fun _ => fun
  | [d] => { results := [.lit (.bool true)], args := [d] }
  | _ => none }
def fnCheckOfRangeRow : OpenClaim := { program := "ytopapnbhnknpiaa", sum := "49179b2f82f005ac2169eaf56420e7f86e4bd33cf418583ded8b070c9bc633cc", func := "loop.example/vectorstore/laws.FnCheckOfRange", spec := "fnCheckOfRange", apart := false }
def FnCheckOfRangeSaid : Prop := fnCheckOfRangeRow.holds Try.pinned (OpenSpec.ofChange fnCheckOfRangeSpec)

/-- ITS FALSE NEIGHBOUR: 'it returns false'. Refute it at one input. -/
def fnCheckOfRangeWrong : ChangeSpec := { name := "fnCheckOfRange", fn := fun _ => fun
  | [d] => { results := [.lit (.bool false)], args := [d] }
  | _ => none }
def FnCheckOfRangeWrongFalsely : Prop := fnCheckOfRangeRow.holds Try.pinned (OpenSpec.ofChange fnCheckOfRangeWrong)

/- THE SECOND FORM. 'bulk': how many values and letters a reading holds, each counted each time it is reached (what is shared counts as often as it is met; a slice's spare places count too). A statement '..UptoSaid' is the law's where the arguments, and the package variables that the reading takes, are together of bulk at most 1048576: NARROWER than '..Said'. Prove '..Said' where nothing that the law and all that it calls make is longer than what came in: it says more and counts as full. Else prove '..UptoSaid'. A law counts once. -/
mutual
def uptoBulk {H : Type} : DataW H → Nat
  | .lit (.string bytes) => bytes.length + 1
  | .lit _ => 1
  | .nil => 1
  | .ptr d => uptoBulk d + 1
  | .slice elems spare => uptoBulkAll elems + uptoBulkAll spare + 1
  | .agg parts => uptoBulkAll parts + 1
  | .iface _ d => uptoBulk d + 1
  | .map entries => uptoBulkEntries entries + 1
  | .held _ => 1
def uptoBulkAll {H : Type} : List (DataW H) → Nat
  | [] => 0
  | d :: r => uptoBulk d + uptoBulkAll r
def uptoBulkEntries {H : Type} : List (Lit × DataW H) → Nat
  | [] => 0
  | x :: r => uptoBulkEntry x + uptoBulkEntries r
def uptoBulkEntry {H : Type} : Lit × DataW H → Nat
  | (.string bytes, d) => bytes.length + uptoBulk d + 1
  | (_, d) => uptoBulk d + 1
 end
def uptoSmall : (H : Type) → List (DataW H) → Bool := fun _ ds => decide (uptoBulkAll ds ≤ 1048576)
def OpenSpec.upto (s : _root_.Go.ChangeSpec) : _root_.Go.OpenSpec := { _root_.Go.OpenSpec.ofChange s with cond := some uptoSmall }

/-- 'laws.FnExactShardOf', WHERE WHAT IT READS IS OF BULK AT MOST 1048576: true; the input reads as it did. -/
def fnExactShardOfUptoRow : OpenClaim := { program := "ytopapnbhnknpiaa", sum := "49179b2f82f005ac2169eaf56420e7f86e4bd33cf418583ded8b070c9bc633cc", func := "loop.example/vectorstore/laws.FnExactShardOf", spec := "fnExactShardOf", apart := false, narrowed := true }
def FnExactShardOfUptoSaid : Prop := fnExactShardOfUptoRow.holds Try.pinned (OpenSpec.upto fnExactShardOfSpec)

/-- 'laws.FnExactCheckOf', WHERE WHAT IT READS IS OF BULK AT MOST 1048576: true; the input reads as it did. -/
def fnExactCheckOfUptoRow : OpenClaim := { program := "ytopapnbhnknpiaa", sum := "49179b2f82f005ac2169eaf56420e7f86e4bd33cf418583ded8b070c9bc633cc", func := "loop.example/vectorstore/laws.FnExactCheckOf", spec := "fnExactCheckOf", apart := false, narrowed := true }
def FnExactCheckOfUptoSaid : Prop := fnExactCheckOfUptoRow.holds Try.pinned (OpenSpec.upto fnExactCheckOfSpec)

/-- 'laws.FnShardOf', WHERE WHAT IT READS IS OF BULK AT MOST 1048576: true; the input reads as it did. -/
def fnShardOfUptoRow : OpenClaim := { program := "ytopapnbhnknpiaa", sum := "49179b2f82f005ac2169eaf56420e7f86e4bd33cf418583ded8b070c9bc633cc", func := "loop.example/vectorstore/laws.FnShardOf", spec := "fnShardOf", apart := false, narrowed := true }
def FnShardOfUptoSaid : Prop := fnShardOfUptoRow.holds Try.pinned (OpenSpec.upto fnShardOfSpec)

/-- 'laws.FnShardOfHalves', WHERE WHAT IT READS IS OF BULK AT MOST 1048576: true; the input reads as it did. -/
def fnShardOfHalvesUptoRow : OpenClaim := { program := "ytopapnbhnknpiaa", sum := "49179b2f82f005ac2169eaf56420e7f86e4bd33cf418583ded8b070c9bc633cc", func := "loop.example/vectorstore/laws.FnShardOfHalves", spec := "fnShardOfHalves", apart := false, narrowed := true }
def FnShardOfHalvesUptoSaid : Prop := fnShardOfHalvesUptoRow.holds Try.pinned (OpenSpec.upto fnShardOfHalvesSpec)

/-- 'laws.FnShardOfSpread', WHERE WHAT IT READS IS OF BULK AT MOST 1048576: true; the input reads as it did. -/
def fnShardOfSpreadUptoRow : OpenClaim := { program := "ytopapnbhnknpiaa", sum := "49179b2f82f005ac2169eaf56420e7f86e4bd33cf418583ded8b070c9bc633cc", func := "loop.example/vectorstore/laws.FnShardOfSpread", spec := "fnShardOfSpread", apart := false, narrowed := true }
def FnShardOfSpreadUptoSaid : Prop := fnShardOfSpreadUptoRow.holds Try.pinned (OpenSpec.upto fnShardOfSpreadSpec)

/-- 'laws.FnCheckOf', WHERE WHAT IT READS IS OF BULK AT MOST 1048576: true; the input reads as it did. -/
def fnCheckOfUptoRow : OpenClaim := { program := "ytopapnbhnknpiaa", sum := "49179b2f82f005ac2169eaf56420e7f86e4bd33cf418583ded8b070c9bc633cc", func := "loop.example/vectorstore/laws.FnCheckOf", spec := "fnCheckOf", apart := false, narrowed := true }
def FnCheckOfUptoSaid : Prop := fnCheckOfUptoRow.holds Try.pinned (OpenSpec.upto fnCheckOfSpec)

/-- 'laws.FnCheckOfChange', WHERE WHAT IT READS IS OF BULK AT MOST 1048576: true; the input reads as it did. -/
def fnCheckOfChangeUptoRow : OpenClaim := { program := "ytopapnbhnknpiaa", sum := "49179b2f82f005ac2169eaf56420e7f86e4bd33cf418583ded8b070c9bc633cc", func := "loop.example/vectorstore/laws.FnCheckOfChange", spec := "fnCheckOfChange", apart := false, narrowed := true }
def FnCheckOfChangeUptoSaid : Prop := fnCheckOfChangeUptoRow.holds Try.pinned (OpenSpec.upto fnCheckOfChangeSpec)

/-- 'laws.FnCheckOfRange', WHERE WHAT IT READS IS OF BULK AT MOST 1048576: true; the input reads as it did. -/
def fnCheckOfRangeUptoRow : OpenClaim := { program := "ytopapnbhnknpiaa", sum := "49179b2f82f005ac2169eaf56420e7f86e4bd33cf418583ded8b070c9bc633cc", func := "loop.example/vectorstore/laws.FnCheckOfRange", spec := "fnCheckOfRange", apart := false, narrowed := true }
def FnCheckOfRangeUptoSaid : Prop := fnCheckOfRangeUptoRow.holds Try.pinned (OpenSpec.upto fnCheckOfRangeSpec)

end Rows
end Go.Proofs.Ytopapnbhnknpiaa
