/-
  No cell of these rows narrows 'for every input' (looked for: loops, veiled, ifaces, maps, wideKeys, modest, calm, conditions, laid).
  DERIVED. THE GIVEN ROWS OF THIS SEAT. 8 by the template 'for every input the law returns true; each argument reads behind the call as it read before'; 0 by the template 'total and deterministic' (their statements: YthohidhhhknnaaaTotals.lean).
  GIVEN WITH THE SEED: the statements are not yours to turn. If you find one false, say at which input.
  Laid BY PROGRAM, IN A SANDBOX (cutbox-rows.mjs): the forced cells as the released guide's own fill.sh prints them over the translation a9210fd2e9738593… (all of the seat's roots in one cut). By AI agents, Wed Nov 11 2026. No macro, syntax, notation, axiom, sorry.
-/
import Derived.Test.YthohidhhhknnaaaChecked
import GoSem.Claim
import GoSem.ClaimJoined
import GoSem.ClaimMapViews
import Derived.JoinedTies
import Derived.KernelRfl
namespace Go.Proofs.Ythohidhhhknnaaa
/- THE CELL 'sum', in the pinned program and in every row, IS THE sha256 OF THE DUMP (.gsa) THAT YthohidhhhknnaaaProg.lean LOADS. Nothing in Lean hashes anything: it is a label: what it is worth is what the hold of that sum in a sandbox is worth. -/
noncomputable def Try.pinned : Pinned := { name := "ythohidhhhknnaaa", sum := "a9210fd2e9738593cd00e1e0df7ec2ce73f983499721792139b4604064d6a36a", checked := Try.checked }
namespace Rows
def none {H : Type} : Left H := { results := [], args := [] }

/-- 'laws.FnValidLog': WHATEVER THE INPUT: true; the input reads as it did. -/
def fnValidLogSpec : ChangeSpec := { name := "fnValidLog", fn := fun _ => fun
  | [d] => { results := [.lit (.bool true)], args := [d] }
  | _ => none }
def fnValidLogRow : OpenClaim := { program := "ythohidhhhknnaaa", sum := "a9210fd2e9738593cd00e1e0df7ec2ce73f983499721792139b4604064d6a36a", func := "loop.example/vectorstore/laws.FnValidLog", spec := "fnValidLog", unfollowed := true, recurses := true, apart := false }
def FnValidLogSaid : Prop := fnValidLogRow.holds Try.pinned (OpenSpec.ofChange fnValidLogSpec)

/-- ITS FALSE NEIGHBOUR: 'it returns false'. Refute it at one input. -/
def fnValidLogWrong : ChangeSpec := { name := "fnValidLog", fn := fun _ => fun
  | [d] => { results := [.lit (.bool false)], args := [d] }
  | _ => none }
def FnValidLogWrongFalsely : Prop := fnValidLogRow.holds Try.pinned (OpenSpec.ofChange fnValidLogWrong)

/-- 'laws.FnExactValidLog': WHATEVER THE INPUT: true; the input reads as it did. -/
def fnExactValidLogSpec : ChangeSpec := { name := "fnExactValidLog", fn := fun _ => fun
  | [d] => { results := [.lit (.bool true)], args := [d] }
  | _ => none }
def fnExactValidLogRow : OpenClaim := { program := "ythohidhhhknnaaa", sum := "a9210fd2e9738593cd00e1e0df7ec2ce73f983499721792139b4604064d6a36a", func := "loop.example/vectorstore/laws.FnExactValidLog", spec := "fnExactValidLog", unfollowed := true, recurses := true, apart := false }
def FnExactValidLogSaid : Prop := fnExactValidLogRow.holds Try.pinned (OpenSpec.ofChange fnExactValidLogSpec)

/-- ITS FALSE NEIGHBOUR: 'it returns false'. Refute it at one input. -/
def fnExactValidLogWrong : ChangeSpec := { name := "fnExactValidLog", fn := fun _ => fun
  | [d] => { results := [.lit (.bool false)], args := [d] }
  | _ => none }
def FnExactValidLogWrongFalsely : Prop := fnExactValidLogRow.holds Try.pinned (OpenSpec.ofChange fnExactValidLogWrong)

/-- 'laws.FnExactMovedKeys': WHATEVER THE INPUT: true; the input reads as it did. -/
def fnExactMovedKeysSpec : ChangeSpec := { name := "fnExactMovedKeys", fn := fun _ => fun
  | [d1, d2, d3] => { results := [.lit (.bool true)], args := [d1, d2, d3] }
  | _ => none }
def fnExactMovedKeysRow : OpenClaim := { program := "ythohidhhhknnaaa", sum := "a9210fd2e9738593cd00e1e0df7ec2ce73f983499721792139b4604064d6a36a", func := "loop.example/vectorstore/laws.FnExactMovedKeys", spec := "fnExactMovedKeys", apart := false }
def FnExactMovedKeysSaid : Prop := fnExactMovedKeysRow.holds Try.pinned (OpenSpec.ofChange fnExactMovedKeysSpec)

/-- ITS FALSE NEIGHBOUR: 'it returns false'. Refute it at one input. -/
def fnExactMovedKeysWrong : ChangeSpec := { name := "fnExactMovedKeys", fn := fun _ => fun
  | [d1, d2, d3] => { results := [.lit (.bool false)], args := [d1, d2, d3] }
  | _ => none }
def FnExactMovedKeysWrongFalsely : Prop := fnExactMovedKeysRow.holds Try.pinned (OpenSpec.ofChange fnExactMovedKeysWrong)

/-- 'laws.FnExactShardItems': WHATEVER THE INPUT: true; the input reads as it did. -/
def fnExactShardItemsSpec : ChangeSpec := { name := "fnExactShardItems", fn := fun _ => fun
  | [d1, d2, d3] => { results := [.lit (.bool true)], args := [d1, d2, d3] }
  | _ => none }
def fnExactShardItemsRow : OpenClaim := { program := "ythohidhhhknnaaa", sum := "a9210fd2e9738593cd00e1e0df7ec2ce73f983499721792139b4604064d6a36a", func := "loop.example/vectorstore/laws.FnExactShardItems", spec := "fnExactShardItems", apart := false }
def FnExactShardItemsSaid : Prop := fnExactShardItemsRow.holds Try.pinned (OpenSpec.ofChange fnExactShardItemsSpec)

/-- ITS FALSE NEIGHBOUR: 'it returns false'. Refute it at one input. -/
def fnExactShardItemsWrong : ChangeSpec := { name := "fnExactShardItems", fn := fun _ => fun
  | [d1, d2, d3] => { results := [.lit (.bool false)], args := [d1, d2, d3] }
  | _ => none }
def FnExactShardItemsWrongFalsely : Prop := fnExactShardItemsRow.holds Try.pinned (OpenSpec.ofChange fnExactShardItemsWrong)

/-- 'laws.FnMovedKeysHalf': WHATEVER THE INPUT: true; the input reads as it did. -/
def fnMovedKeysHalfSpec : ChangeSpec := { name := "fnMovedKeysHalf", fn := fun _ => fun
  | [d] => { results := [.lit (.bool true)], args := [d] }
  | _ => none }
def fnMovedKeysHalfRow : OpenClaim := { program := "ythohidhhhknnaaa", sum := "a9210fd2e9738593cd00e1e0df7ec2ce73f983499721792139b4604064d6a36a", func := "loop.example/vectorstore/laws.FnMovedKeysHalf", spec := "fnMovedKeysHalf", apart := false }
def FnMovedKeysHalfSaid : Prop := fnMovedKeysHalfRow.holds Try.pinned (OpenSpec.ofChange fnMovedKeysHalfSpec)

/-- ITS FALSE NEIGHBOUR: 'it returns false'. Refute it at one input. -/
def fnMovedKeysHalfWrong : ChangeSpec := { name := "fnMovedKeysHalf", fn := fun _ => fun
  | [d] => { results := [.lit (.bool false)], args := [d] }
  | _ => none }
def FnMovedKeysHalfWrongFalsely : Prop := fnMovedKeysHalfRow.holds Try.pinned (OpenSpec.ofChange fnMovedKeysHalfWrong)

/-- 'laws.FnShardItemsNone': WHATEVER THE INPUT: true; the input reads as it did. -/
def fnShardItemsNoneSpec : ChangeSpec := { name := "fnShardItemsNone", fn := fun _ => fun
  | [d] => { results := [.lit (.bool true)], args := [d] }
  | _ => none }
def fnShardItemsNoneRow : OpenClaim := { program := "ythohidhhhknnaaa", sum := "a9210fd2e9738593cd00e1e0df7ec2ce73f983499721792139b4604064d6a36a", func := "loop.example/vectorstore/laws.FnShardItemsNone", spec := "fnShardItemsNone", apart := false }
def FnShardItemsNoneSaid : Prop := fnShardItemsNoneRow.holds Try.pinned (OpenSpec.ofChange fnShardItemsNoneSpec)

/-- ITS FALSE NEIGHBOUR: 'it returns false'. Refute it at one input. -/
def fnShardItemsNoneWrong : ChangeSpec := { name := "fnShardItemsNone", fn := fun _ => fun
  | [d] => { results := [.lit (.bool false)], args := [d] }
  | _ => none }
def FnShardItemsNoneWrongFalsely : Prop := fnShardItemsNoneRow.holds Try.pinned (OpenSpec.ofChange fnShardItemsNoneWrong)

/-- 'laws.FnMovedKeys': WHATEVER THE INPUT: true; the input reads as it did. -/
def fnMovedKeysSpec : ChangeSpec := { name := "fnMovedKeys", fn := fun _ => fun
  | [d] => { results := [.lit (.bool true)], args := [d] }
  | _ => none }
def fnMovedKeysRow : OpenClaim := { program := "ythohidhhhknnaaa", sum := "a9210fd2e9738593cd00e1e0df7ec2ce73f983499721792139b4604064d6a36a", func := "loop.example/vectorstore/laws.FnMovedKeys", spec := "fnMovedKeys", apart := false }
def FnMovedKeysSaid : Prop := fnMovedKeysRow.holds Try.pinned (OpenSpec.ofChange fnMovedKeysSpec)

/-- ITS FALSE NEIGHBOUR: 'it returns false'. Refute it at one input. -/
def fnMovedKeysWrong : ChangeSpec := { name := "fnMovedKeys", fn := fun _ => fun
  | [d] => { results := [.lit (.bool false)], args := [d] }
  | _ => none }
def FnMovedKeysWrongFalsely : Prop := fnMovedKeysRow.holds Try.pinned (OpenSpec.ofChange fnMovedKeysWrong)

/-- 'laws.FnShardItems': WHATEVER THE INPUT: true; the input reads as it did. -/
def fnShardItemsSpec : ChangeSpec := { name := "fnShardItems", fn := fun _ => fun
  | [d] => { results := [.lit (.bool true)], args := [d] }
  | _ => none }
def fnShardItemsRow : OpenClaim := { program := "ythohidhhhknnaaa", sum := "a9210fd2e9738593cd00e1e0df7ec2ce73f983499721792139b4604064d6a36a", func := "loop.example/vectorstore/laws.FnShardItems", spec := "fnShardItems", apart := false }
def FnShardItemsSaid : Prop := fnShardItemsRow.holds Try.pinned (OpenSpec.ofChange fnShardItemsSpec)

/-- ITS FALSE NEIGHBOUR: 'it returns false'. Refute it at one input. -/
def fnShardItemsWrong : ChangeSpec := { name := "fnShardItems", fn := fun _ => fun
  | [d] => { results := [.lit (.bool false)], args := [d] }
  | _ => none }
def FnShardItemsWrongFalsely : Prop := fnShardItemsRow.holds Try.pinned (OpenSpec.ofChange fnShardItemsWrong)

/- THE SECOND FORM. 'bulk': how many values and letters a reading holds, each counted each time it is reached (what is shared counts as often as it is met; a slice's spare places count too). A statement '..UptoSaid' is the law's where the arguments, and the package variables that the reading takes, are together of bulk at most 1048576: NARROWER than '..Said'. Prove '..Said' where nothing that the law and all that it calls make is longer than what came in: it says more and counts as full. Else prove '..UptoSaid'. A law counts once. -/
mutual
def uptoBulk {H : Type} : DataW H → Nat
  | .lit (.string bytes) => bytes.length + 1
  | .lit _ => 1
  | .nil => 1
  | .ptr d => uptoBulk d + 1
  | .slice elems spare => uptoBulkAll elems + uptoBulkAll spare + 1
  | .agg parts => uptoBulkAll parts + 1
  | .iface _ d => uptoBulk d + 1
  | .map entries => uptoBulkEntries entries + 1
  | .held _ => 1
def uptoBulkAll {H : Type} : List (DataW H) → Nat
  | [] => 0
  | d :: r => uptoBulk d + uptoBulkAll r
def uptoBulkEntries {H : Type} : List (Lit × DataW H) → Nat
  | [] => 0
  | x :: r => uptoBulkEntry x + uptoBulkEntries r
def uptoBulkEntry {H : Type} : Lit × DataW H → Nat
  | (.string bytes, d) => bytes.length + uptoBulk d + 1
  | (_, d) => uptoBulk d + 1
 end
def uptoSmall : (H : Type) → List (DataW H) → Bool := fun _ ds => decide (uptoBulkAll ds ≤ 1048576)
def OpenSpec.upto (s : _root_.Go.ChangeSpec) : _root_.Go.OpenSpec := { _root_.Go.OpenSpec.ofChange s with cond := some uptoSmall }

/-- 'laws.FnValidLog', WHERE WHAT IT READS IS OF BULK AT MOST 1048576: true; the input reads as it did. -/
def fnValidLogUptoRow : OpenClaim := { program := "ythohidhhhknnaaa", sum := "a9210fd2e9738593cd00e1e0df7ec2ce73f983499721792139b4604064d6a36a", func := "loop.example/vectorstore/laws.FnValidLog", spec := "fnValidLog", unfollowed := true, recurses := true, apart := false, narrowed := true }
def FnValidLogUptoSaid : Prop := fnValidLogUptoRow.holds Try.pinned (OpenSpec.upto fnValidLogSpec)

/-- 'laws.FnExactValidLog', WHERE WHAT IT READS IS OF BULK AT MOST 1048576: true; the input reads as it did. -/
def fnExactValidLogUptoRow : OpenClaim := { program := "ythohidhhhknnaaa", sum := "a9210fd2e9738593cd00e1e0df7ec2ce73f983499721792139b4604064d6a36a", func := "loop.example/vectorstore/laws.FnExactValidLog", spec := "fnExactValidLog", unfollowed := true, recurses := true, apart := false, narrowed := true }
def FnExactValidLogUptoSaid : Prop := fnExactValidLogUptoRow.holds Try.pinned (OpenSpec.upto fnExactValidLogSpec)

/-- 'laws.FnExactMovedKeys', WHERE WHAT IT READS IS OF BULK AT MOST 1048576: true; the input reads as it did. -/
def fnExactMovedKeysUptoRow : OpenClaim := { program := "ythohidhhhknnaaa", sum := "a9210fd2e9738593cd00e1e0df7ec2ce73f983499721792139b4604064d6a36a", func := "loop.example/vectorstore/laws.FnExactMovedKeys", spec := "fnExactMovedKeys", apart := false, narrowed := true }
def FnExactMovedKeysUptoSaid : Prop := fnExactMovedKeysUptoRow.holds Try.pinned (OpenSpec.upto fnExactMovedKeysSpec)

/-- 'laws.FnExactShardItems', WHERE WHAT IT READS IS OF BULK AT MOST 1048576: true; the input reads as it did. -/
def fnExactShardItemsUptoRow : OpenClaim := { program := "ythohidhhhknnaaa", sum := "a9210fd2e9738593cd00e1e0df7ec2ce73f983499721792139b4604064d6a36a", func := "loop.example/vectorstore/laws.FnExactShardItems", spec := "fnExactShardItems", apart := false, narrowed := true }
def FnExactShardItemsUptoSaid : Prop := fnExactShardItemsUptoRow.holds Try.pinned (OpenSpec.upto fnExactShardItemsSpec)

/-- 'laws.FnMovedKeysHalf', WHERE WHAT IT READS IS OF BULK AT MOST 1048576: true; the input reads as it did. -/
def fnMovedKeysHalfUptoRow : OpenClaim := { program := "ythohidhhhknnaaa", sum := "a9210fd2e9738593cd00e1e0df7ec2ce73f983499721792139b4604064d6a36a", func := "loop.example/vectorstore/laws.FnMovedKeysHalf", spec := "fnMovedKeysHalf", apart := false, narrowed := true }
def FnMovedKeysHalfUptoSaid : Prop := fnMovedKeysHalfUptoRow.holds Try.pinned (OpenSpec.upto fnMovedKeysHalfSpec)

/-- 'laws.FnShardItemsNone', WHERE WHAT IT READS IS OF BULK AT MOST 1048576: true; the input reads as it did. -/
def fnShardItemsNoneUptoRow : OpenClaim := { program := "ythohidhhhknnaaa", sum := "a9210fd2e9738593cd00e1e0df7ec2ce73f983499721792139b4604064d6a36a", func := "loop.example/vectorstore/laws.FnShardItemsNone", spec := "fnShardItemsNone", apart := false, narrowed := true }
def FnShardItemsNoneUptoSaid : Prop := fnShardItemsNoneUptoRow.holds Try.pinned (OpenSpec.upto fnShardItemsNoneSpec)

/-- 'laws.FnMovedKeys', WHERE WHAT IT READS IS OF BULK AT MOST 1048576: true; the input reads as it did. -/
def fnMovedKeysUptoRow : OpenClaim := { program := "ythohidhhhknnaaa", sum := "a9210fd2e9738593cd00e1e0df7ec2ce73f983499721792139b4604064d6a36a", func := "loop.example/vectorstore/laws.FnMovedKeys", spec := "fnMovedKeys", apart := false, narrowed := true }
def FnMovedKeysUptoSaid : Prop := fnMovedKeysUptoRow.holds Try.pinned (OpenSpec.upto fnMovedKeysSpec)

/-- 'laws.FnShardItems', WHERE WHAT IT READS IS OF BULK AT MOST 1048576: true; the input reads as it did. -/
def fnShardItemsUptoRow : OpenClaim := { program := "ythohidhhhknnaaa", sum := "a9210fd2e9738593cd00e1e0df7ec2ce73f983499721792139b4604064d6a36a", func := "loop.example/vectorstore/laws.FnShardItems", spec := "fnShardItems", apart := false, narrowed := true }
def FnShardItemsUptoSaid : Prop := fnShardItemsUptoRow.holds Try.pinned (OpenSpec.upto fnShardItemsSpec)

end Rows
end Go.Proofs.Ythohidhhhknnaaa
