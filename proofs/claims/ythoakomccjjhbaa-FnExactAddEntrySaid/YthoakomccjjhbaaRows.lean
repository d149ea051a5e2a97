/-
  No cell of these rows narrows 'for every input' (looked for: loops, veiled, ifaces, maps, wideKeys, modest, calm, conditions, laid).
  DERIVED. THE GIVEN ROWS OF THIS SEAT. 8 by the template 'for every input the law returns true; each argument reads behind the call as it read before'; 0 by the template 'total and deterministic' (their statements: YthoakomccjjhbaaTotals.lean).
  GIVEN WITH THE SEED: the statements are not yours to turn. If you find one false, say at which input.
  Laid BY PROGRAM, IN A SANDBOX (cutbox-rows.mjs): the forced cells as the released guide's own fill.sh prints them over the translation 87dc93cab884e943… (all of the seat's roots in one cut). By AI agents, Wed Nov 11 2026. No macro, syntax, notation, axiom, sorry.
-/
import Derived.Test.YthoakomccjjhbaaChecked
import GoSem.Claim
import GoSem.ClaimJoined
import GoSem.ClaimMapViews
import Derived.JoinedTies
import Derived.KernelRfl
namespace Go.Proofs.Ythoakomccjjhbaa
/- THE CELL 'sum', in the pinned program and in every row, IS THE sha256 OF THE DUMP (.gsa) THAT YthoakomccjjhbaaProg.lean LOADS. Nothing in Lean hashes anything: it is a label: what it is worth is what the hold of that sum in a sandbox is worth. -/
noncomputable def Try.pinned : Pinned := { name := "ythoakomccjjhbaa", sum := "87dc93cab884e943d76ba5bc56838d2f68a362ed42e22536877b7891c19ab37c", checked := Try.checked }
namespace Rows
def none {H : Type} : Left H := { results := [], args := [] }

/-- 'laws.FnAddEntry': WHATEVER THE INPUT: true; the input reads as it did. -/
def fnAddEntrySpec : ChangeSpec := { name := "fnAddEntry", fn := fun _ => fun
  | [d] => { results := [.lit (.bool true)], args := [d] }
  | _ => none }
def fnAddEntryRow : OpenClaim := { program := "ythoakomccjjhbaa", sum := "87dc93cab884e943d76ba5bc56838d2f68a362ed42e22536877b7891c19ab37c", func := "loop.example/vectorstore/laws.FnAddEntry", spec := "fnAddEntry", unfollowed := true, recurses := true, apart := false }
def FnAddEntrySaid : Prop := fnAddEntryRow.holds Try.pinned (OpenSpec.ofChange fnAddEntrySpec)

/-- ITS FALSE NEIGHBOUR: 'it returns false'. Refute it at one input. -/
def fnAddEntryWrong : ChangeSpec := { name := "fnAddEntry", fn := fun _ => fun
  | [d] => { results := [.lit (.bool false)], args := [d] }
  | _ => none }
def FnAddEntryWrongFalsely : Prop := fnAddEntryRow.holds Try.pinned (OpenSpec.ofChange fnAddEntryWrong)

/-- 'laws.FnRollBack': WHATEVER THE INPUT: true; the input reads as it did. -/
def fnRollBackSpec : ChangeSpec := { name := "fnRollBack", fn := fun _ => fun
  | [d] => { results := [.lit (.bool true)], args := [d] }
  | _ => none }
def fnRollBackRow : OpenClaim := { program := "ythoakomccjjhbaa", sum := "87dc93cab884e943d76ba5bc56838d2f68a362ed42e22536877b7891c19ab37c", func := "loop.example/vectorstore/laws.FnRollBack", spec := "fnRollBack", unfollowed := true, recurses := true, apart := false }
def FnRollBackSaid : Prop := fnRollBackRow.holds Try.pinned (OpenSpec.ofChange fnRollBackSpec)

/-- ITS FALSE NEIGHBOUR: 'it returns false'. Refute it at one input. -/
def fnRollBackWrong : ChangeSpec := { name := "fnRollBack", fn := fun _ => fun
  | [d] => { results := [.lit (.bool false)], args := [d] }
  | _ => none }
def FnRollBackWrongFalsely : Prop := fnRollBackRow.holds Try.pinned (OpenSpec.ofChange fnRollBackWrong)

/-- 'laws.FnExactRollBack': WHATEVER THE INPUT: true; the input reads as it did. -/
def fnExactRollBackSpec : ChangeSpec := { name := "fnExactRollBack", fn := fun _ => fun
  | [d1, d2] => { results := [.lit (.bool true)], args := [d1, d2] }
  | _ => none }
def fnExactRollBackRow : OpenClaim := { program := "ythoakomccjjhbaa", sum := "87dc93cab884e943d76ba5bc56838d2f68a362ed42e22536877b7891c19ab37c", func := "loop.example/vectorstore/laws.FnExactRollBack", spec := "fnExactRollBack", unfollowed := true, recurses := true, apart := false }
def FnExactRollBackSaid : Prop := fnExactRollBackRow.holds Try.pinned (OpenSpec.ofChange fnExactRollBackSpec)

/-- ITS FALSE NEIGHBOUR: 'it returns false'. Refute it at one input. -/
def fnExactRollBackWrong : ChangeSpec := { name := "fnExactRollBack", fn := fun _ => fun
  | [d1, d2] => { results := [.lit (.bool false)], args := [d1, d2] }
  | _ => none }
def FnExactRollBackWrongFalsely : Prop := fnExactRollBackRow.holds Try.pinned (OpenSpec.ofChange fnExactRollBackWrong)

/-- 'laws.FnExactStoreAt': WHATEVER THE INPUT: true; the input reads as it did. -/
def fnExactStoreAtSpec : ChangeSpec := { name := "fnExactStoreAt", fn := fun _ => fun
  | [d1, d2] => { results := [.lit (.bool true)], args := [d1, d2] }
  | _ => none }
def fnExactStoreAtRow : OpenClaim := { program := "ythoakomccjjhbaa", sum := "87dc93cab884e943d76ba5bc56838d2f68a362ed42e22536877b7891c19ab37c", func := "loop.example/vectorstore/laws.FnExactStoreAt", spec := "fnExactStoreAt", unfollowed := true, recurses := true, apart := false }
def FnExactStoreAtSaid : Prop := fnExactStoreAtRow.holds Try.pinned (OpenSpec.ofChange fnExactStoreAtSpec)

/-- ITS FALSE NEIGHBOUR: 'it returns false'. Refute it at one input. -/
def fnExactStoreAtWrong : ChangeSpec := { name := "fnExactStoreAt", fn := fun _ => fun
  | [d1, d2] => { results := [.lit (.bool false)], args := [d1, d2] }
  | _ => none }
def FnExactStoreAtWrongFalsely : Prop := fnExactStoreAtRow.holds Try.pinned (OpenSpec.ofChange fnExactStoreAtWrong)

/-- 'laws.FnExactAddEntry': WHATEVER THE INPUT: true; the input reads as it did. -/
def fnExactAddEntrySpec : ChangeSpec := { name := "fnExactAddEntry", fn := fun _ => fun
  | [d1, d2, d3] => { results := [.lit (.bool true)], args := [d1, d2, d3] }
  | _ => none }
def fnExactAddEntryRow : OpenClaim := { program := "ythoakomccjjhbaa", sum := "87dc93cab884e943d76ba5bc56838d2f68a362ed42e22536877b7891c19ab37c", func := "loop.example/vectorstore/laws.FnExactAddEntry", spec := "fnExactAddEntry", unfollowed := true, recurses := true, apart := false }
def FnExactAddEntrySaid : Prop := fnExactAddEntryRow.holds Try.pinned (OpenSpec.ofChange fnExactAddEntrySpec)

/-- ITS FALSE NEIGHBOUR: 'it returns false'. Refute it at one input. -/
def fnExactAddEntryWrong : ChangeSpec := { name := "fnExactAddEntry", fn := fun _ => fun
  | [d1, d2, d3] => { results := [.lit (.bool false)], args := [d1, d2, d3] }
  | _ => none }
def FnExactAddEntryWrongFalsely : Prop := fnExactAddEntryRow.holds Try.pinned (OpenSpec.ofChange fnExactAddEntryWrong)

/-- 'laws.FnExactChangedKeys': WHATEVER THE INPUT: true; the input reads as it did. -/
def fnExactChangedKeysSpec : ChangeSpec := { name := "fnExactChangedKeys", fn := fun _ => fun
  | [d1, d2, d3] => { results := [.lit (.bool true)], args := [d1, d2, d3] }
  | _ => none }
def fnExactChangedKeysRow : OpenClaim := { program := "ythoakomccjjhbaa", sum := "87dc93cab884e943d76ba5bc56838d2f68a362ed42e22536877b7891c19ab37c", func := "loop.example/vectorstore/laws.FnExactChangedKeys", spec := "fnExactChangedKeys", unfollowed := true, recurses := true, apart := false }
def FnExactChangedKeysSaid : Prop := fnExactChangedKeysRow.holds Try.pinned (OpenSpec.ofChange fnExactChangedKeysSpec)

/-- ITS FALSE NEIGHBOUR: 'it returns false'. Refute it at one input. -/
def fnExactChangedKeysWrong : ChangeSpec := { name := "fnExactChangedKeys", fn := fun _ => fun
  | [d1, d2, d3] => { results := [.lit (.bool false)], args := [d1, d2, d3] }
  | _ => none }
def FnExactChangedKeysWrongFalsely : Prop := fnExactChangedKeysRow.holds Try.pinned (OpenSpec.ofChange fnExactChangedKeysWrong)

/-- 'laws.FnChangedKeysSame': WHATEVER THE INPUT: true; the input reads as it did. -/
def fnChangedKeysSameSpec : ChangeSpec := { name := "fnChangedKeysSame", fn := fun _ => fun
  | [d] => { results := [.lit (.bool true)], args := [d] }
  | _ => none }
def fnChangedKeysSameRow : OpenClaim := { program := "ythoakomccjjhbaa", sum := "87dc93cab884e943d76ba5bc56838d2f68a362ed42e22536877b7891c19ab37c", func := "loop.example/vectorstore/laws.FnChangedKeysSame", spec := "fnChangedKeysSame", unfollowed := true, recurses := true, apart := false }
def FnChangedKeysSameSaid : Prop := fnChangedKeysSameRow.holds Try.pinned (OpenSpec.ofChange fnChangedKeysSameSpec)

/-- ITS FALSE NEIGHBOUR: 'it returns false'. Refute it at one input. -/
def fnChangedKeysSameWrong : ChangeSpec := { name := "fnChangedKeysSame", fn := fun _ => fun
  | [d] => { results := [.lit (.bool false)], args := [d] }
  | _ => none }
def FnChangedKeysSameWrongFalsely : Prop := fnChangedKeysSameRow.holds Try.pinned (OpenSpec.ofChange fnChangedKeysSameWrong)

/-- 'laws.FnChangedKeys': WHATEVER THE INPUT: true; the input reads as it did. -/
def fnChangedKeysSpec : ChangeSpec := { name := "fnChangedKeys", fn := fun _ => fun
  | [d] => { results := [.lit (.bool true)], args := [d] }
  | _ => none }
def fnChangedKeysRow : OpenClaim := { program := "ythoakomccjjhbaa", sum := "87dc93cab884e943d76ba5bc56838d2f68a362ed42e22536877b7891c19ab37c", func := "loop.example/vectorstore/laws.FnChangedKeys", spec := "fnChangedKeys", unfollowed := true, recurses := true, apart := false }
def FnChangedKeysSaid : Prop := fnChangedKeysRow.holds Try.pinned (OpenSpec.ofChange fnChangedKeysSpec)

/-- ITS FALSE NEIGHBOUR: 'it returns false'. Refute it at one input. -/
def fnChangedKeysWrong : ChangeSpec := { name := "fnChangedKeys", fn := fun _ => fun
  | [d] => { results := [.lit (.bool false)], args := [d] }
  | _ => none }
def FnChangedKeysWrongFalsely : Prop := fnChangedKeysRow.holds Try.pinned (OpenSpec.ofChange fnChangedKeysWrong)

/- THE SECOND FORM. 'bulk': how many values and letters a reading holds, each counted each time it is reached (what is shared counts as often as it is met; a slice's spare places count too). A statement '..UptoSaid' is the law's where the arguments, and the package variables that the reading takes, are together of bulk at most 1048576: NARROWER than '..Said'. Prove '..Said' where nothing that the law and all that it calls make is longer than what came in: it says more and counts as full. Else prove '..UptoSaid'. A law counts once. -/
mutual
def uptoBulk {H : Type} : DataW H → Nat
  | .lit (.string bytes) => bytes.length + 1
  | .lit _ => 1
  | .nil => 1
  | .ptr d => uptoBulk d + 1
  | .slice elems spare => uptoBulkAll elems + uptoBulkAll spare + 1
  | .agg parts => uptoBulkAll parts + 1
  | .iface _ d => uptoBulk d + 1
  | .map entries => uptoBulkEntries entries + 1
  | .held _ => 1
def uptoBulkAll {H : Type} : List (DataW H) → Nat
  | [] => 0
  | d :: r => uptoBulk d + uptoBulkAll r
def uptoBulkEntries {H : Type} : List (Lit × DataW H) → Nat
  | [] => 0
  | x :: r => uptoBulkEntry x + uptoBulkEntries r
def uptoBulkEntry {H : Type} : Lit × DataW H → Nat
  | (.string bytes, d) => bytes.length + uptoBulk d + 1
  | (_, d) => uptoBulk d + 1
 end
def uptoSmall : (H : Type) → List (DataW H) → Bool := fun _ ds => decide (uptoBulkAll ds ≤ 1048576)
def OpenSpec.upto (s : _root_.Go.ChangeSpec) : _root_.Go.OpenSpec := { _root_.Go.OpenSpec.ofChange s with cond := some uptoSmall }

/-- 'laws.FnAddEntry', WHERE WHAT IT READS IS OF BULK AT MOST 1048576: true; the input reads as it did. -/
def fnAddEntryUptoRow : OpenClaim := { program := "ythoakomccjjhbaa", sum := "87dc93cab884e943d76ba5bc56838d2f68a362ed42e22536877b7891c19ab37c", func := "loop.example/vectorstore/laws.FnAddEntry", spec := "fnAddEntry", unfollowed := true, recurses := true, apart := false, narrowed := true }
def FnAddEntryUptoSaid : Prop := fnAddEntryUptoRow.holds Try.pinned (OpenSpec.upto fnAddEntrySpec)

/-- 'laws.FnRollBack', WHERE WHAT IT READS IS OF BULK AT MOST 1048576: true; the input reads as it did. -/
def fnRollBackUptoRow : OpenClaim := { program := "ythoakomccjjhbaa", sum := "87dc93cab884e943d76ba5bc56838d2f68a362ed42e22536877b7891c19ab37c", func := "loop.example/vectorstore/laws.FnRollBack", spec := "fnRollBack", unfollowed := true, recurses := true, apart := false, narrowed := true }
def FnRollBackUptoSaid : Prop := fnRollBackUptoRow.holds Try.pinned (OpenSpec.upto fnRollBackSpec)

/-- 'laws.FnExactRollBack', WHERE WHAT IT READS IS OF BULK AT MOST 1048576: true; the input reads as it did. -/
def fnExactRollBackUptoRow : OpenClaim := { program := "ythoakomccjjhbaa", sum := "87dc93cab884e943d76ba5bc56838d2f68a362ed42e22536877b7891c19ab37c", func := "loop.example/vectorstore/laws.FnExactRollBack", spec := "fnExactRollBack", unfollowed := true, recurses := true, apart := false, narrowed := true }
def FnExactRollBackUptoSaid : Prop := fnExactRollBackUptoRow.holds Try.pinned (OpenSpec.upto fnExactRollBackSpec)

/-- 'laws.FnExactStoreAt', WHERE WHAT IT READS IS OF BULK AT MOST 1048576: true; the input reads as it did. -/
def fnExactStoreAtUptoRow : OpenClaim := { program := "ythoakomccjjhbaa", sum := "87dc93cab884e943d76ba5bc56838d2f68a362ed42e22536877b7891c19ab37c", func := "loop.example/vectorstore/laws.FnExactStoreAt", spec := "fnExactStoreAt", unfollowed := true, recurses := true, apart := false, narrowed := true }
def FnExactStoreAtUptoSaid : Prop := fnExactStoreAtUptoRow.holds Try.pinned (OpenSpec.upto fnExactStoreAtSpec)

/-- 'laws.FnExactAddEntry', WHERE WHAT IT READS IS OF BULK AT MOST 1048576: true; the input reads as it did. -/
def fnExactAddEntryUptoRow : OpenClaim := { program := "ythoakomccjjhbaa", sum := "87dc93cab884e943d76ba5bc56838d2f68a362ed42e22536877b7891c19ab37c", func := "loop.example/vectorstore/laws.FnExactAddEntry", spec := "fnExactAddEntry", unfollowed := true, recurses := true, apart := false, narrowed := true }
def FnExactAddEntryUptoSaid : Prop := fnExactAddEntryUptoRow.holds Try.pinned (OpenSpec.upto fnExactAddEntrySpec)

/-- 'laws.FnExactChangedKeys', WHERE WHAT IT READS IS OF BULK AT MOST 1048576: true; the input reads as it did. -/
def fnExactChangedKeysUptoRow : OpenClaim := { program := "ythoakomccjjhbaa", sum := "87dc93cab884e943d76ba5bc56838d2f68a362ed42e22536877b7891c19ab37c", func := "loop.example/vectorstore/laws.FnExactChangedKeys", spec := "fnExactChangedKeys", unfollowed := true, recurses := true, apart := false, narrowed := true }
def FnExactChangedKeysUptoSaid : Prop := fnExactChangedKeysUptoRow.holds Try.pinned (OpenSpec.upto fnExactChangedKeysSpec)

/-- 'laws.FnChangedKeysSame', WHERE WHAT IT READS IS OF BULK AT MOST 1048576: true; the input reads as it did. -/
def fnChangedKeysSameUptoRow : OpenClaim := { program := "ythoakomccjjhbaa", sum := "87dc93cab884e943d76ba5bc56838d2f68a362ed42e22536877b7891c19ab37c", func := "loop.example/vectorstore/laws.FnChangedKeysSame", spec := "fnChangedKeysSame", unfollowed := true, recurses := true, apart := false, narrowed := true }
def FnChangedKeysSameUptoSaid : Prop := fnChangedKeysSameUptoRow.holds Try.pinned (OpenSpec.upto fnChangedKeysSameSpec)

/-- 'laws.FnChangedKeys', WHERE WHAT IT READS IS OF BULK AT MOST 1048576: true; the input reads as it did. -/
def fnChangedKeysUptoRow : OpenClaim := { program := "ythoakomccjjhbaa", sum := "87dc93cab884e943d76ba5bc56838d2f68a362ed42e22536877b7891c19ab37c", func := "loop.example/vectorstore/laws.FnChangedKeys", spec := "fnChangedKeys", unfollowed := true, recurses := true, apart := false, narrowed := true }
def FnChangedKeysUptoSaid : Prop := fnChangedKeysUptoRow.holds Try.pinned (OpenSpec.upto fnChangedKeysSpec)

end Rows
end Go.Proofs.Ythoakomccjjhbaa
