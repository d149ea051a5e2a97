/-
  No cell of these rows narrows 'for every input' (looked for: loops, veiled, ifaces, maps, wideKeys, modest, calm, conditions, laid).
  DERIVED. THE GIVEN ROWS OF THIS SEAT. 4 by the template 'for every input the law returns true; each argument reads behind the call as it read before'; 0 by the template 'total and deterministic' (their statements: YtamaoljjoghajaaTotals.lean).
  GIVEN WITH THE SEED: the statements are not yours to turn. If you find one false, say at which input.
  Laid BY PROGRAM, IN A SANDBOX (cutbox-rows.mjs): the forced cells as the released guide's own fill.sh prints them over the translation 1379382d436391b3… (all of the seat's roots in one cut). By AI agents, Wed Nov 11 2026. No macro, syntax, notation, axiom, sorry.
-/
import Derived.Test.YtamaoljjoghajaaChecked
import GoSem.Claim
import GoSem.ClaimJoined
import GoSem.ClaimMapViews
import Derived.JoinedTies
import Derived.KernelRfl
namespace Go.Proofs.Ytamaoljjoghajaa
/- THE CELL 'sum', in the pinned program and in every row, IS THE sha256 OF THE DUMP (.gsa) THAT YtamaoljjoghajaaProg.lean LOADS. Nothing in Lean hashes anything: it is a label: what it is worth is what the hold of that sum in a sandbox is worth. -/
noncomputable def Try.pinned : Pinned := { name := "ytamaoljjoghajaa", sum := "1379382d436391b34163dbd13a076375f2e97bcdba754ae250bfd65ed0832dc9", checked := Try.checked }
namespace Rows
def none {H : Type} : Left H := { results := [], args := [] }

/-- 'laws.FnExactShardNearest': WHATEVER THE INPUT: true; the input reads as it did. -/
def fnExactShardNearestSpec : ChangeSpec := { name := "fnExactShardNearest", fn := fun _ => fun
  | [d1, d2, d3, d4, d5] => { results := [.lit (.bool true)], args := [d1, d2, d3, d4, d5] }
  | _ => none }
def fnExactShardNearestRow : OpenClaim := { program := "ytamaoljjoghajaa", sum := "1379382d436391b34163dbd13a076375f2e97bcdba754ae250bfd65ed0832dc9", func := "loop.example/vectorstore/laws.FnExactShardNearest", spec := "fnExactShardNearest", unfollowed := true, recurses := true, apart := false }
def FnExactShardNearestSaid : Prop := fnExactShardNearestRow.holds Try.pinned (OpenSpec.ofChange fnExactShardNearestSpec)

/-- ITS FALSE NEIGHBOUR: 'it returns false'. Refute it at one input. -/
def fnExactShardNearestWrong : ChangeSpec := { name := "fnExactShardNearest", fn := fun _ => fun
  | [d1, d2, d3, d4, d5] => { results := [.lit (.bool false)], args := [d1, d2, d3, d4, d5] }
  | _ => none }
def FnExactShardNearestWrongFalsely : Prop := fnExactShardNearestRow.holds Try.pinned (OpenSpec.ofChange fnExactShardNearestWrong)

/-- 'laws.FnShardNearest': WHATEVER THE INPUT: true; the input reads as it did. -/
def fnShardNearestSpec : ChangeSpec := { name := "fnShardNearest", fn := fun _ => fun
  | [d] => { results := [.lit (.bool true)], args := [d] }
  | _ => none }
def fnShardNearestRow : OpenClaim := { program := "ytamaoljjoghajaa", sum := "1379382d436391b34163dbd13a076375f2e97bcdba754ae250bfd65ed0832dc9", func := "loop.example/vectorstore/laws.FnShardNearest", spec := "fnShardNearest", unfollowed := true, recurses := true, apart := false }
def FnShardNearestSaid : Prop := fnShardNearestRow.holds Try.pinned (OpenSpec.ofChange fnShardNearestSpec)

/-- ITS FALSE NEIGHBOUR: 'it returns false'. Refute it at one input. -/
def fnShardNearestWrong : ChangeSpec := { name := "fnShardNearest", fn := fun _ => fun
  | [d] => { results := [.lit (.bool false)], args := [d] }
  | _ => none }
def FnShardNearestWrongFalsely : Prop := fnShardNearestRow.holds Try.pinned (OpenSpec.ofChange fnShardNearestWrong)

/-- 'laws.FnShardNearestFilter': WHATEVER THE INPUT: true; the input reads as it did. -/
def fnShardNearestFilterSpec : ChangeSpec := { name := "fnShardNearestFilter", fn := fun _ => fun
  | [d] => { results := [.lit (.bool true)], args := [d] }
  | _ => none }
def fnShardNearestFilterRow : OpenClaim := { program := "ytamaoljjoghajaa", sum := "1379382d436391b34163dbd13a076375f2e97bcdba754ae250bfd65ed0832dc9", func := "loop.example/vectorstore/laws.FnShardNearestFilter", spec := "fnShardNearestFilter", unfollowed := true, recurses := true, apart := false }
def FnShardNearestFilterSaid : Prop := fnShardNearestFilterRow.holds Try.pinned (OpenSpec.ofChange fnShardNearestFilterSpec)

/-- ITS FALSE NEIGHBOUR: 'it returns false'. Refute it at one input. -/
def fnShardNearestFilterWrong : ChangeSpec := { name := "fnShardNearestFilter", fn := fun _ => fun
  | [d] => { results := [.lit (.bool false)], args := [d] }
  | _ => none }
def FnShardNearestFilterWrongFalsely : Prop := fnShardNearestFilterRow.holds Try.pinned (OpenSpec.ofChange fnShardNearestFilterWrong)

/-- 'laws.FnProbeNearest': WHATEVER THE INPUT: true; the input reads as it did. -/
def fnProbeNearestSpec : ChangeSpec := { name := "fnProbeNearest", fn := fun _ => fun
  | [d] => { results := [.lit (.bool true)], args := [d] }
  | _ => none }
def fnProbeNearestRow : OpenClaim := { program := "ytamaoljjoghajaa", sum := "1379382d436391b34163dbd13a076375f2e97bcdba754ae250bfd65ed0832dc9", func := "loop.example/vectorstore/laws.FnProbeNearest", spec := "fnProbeNearest", unfollowed := true, recurses := true, apart := false }
def FnProbeNearestSaid : Prop := fnProbeNearestRow.holds Try.pinned (OpenSpec.ofChange fnProbeNearestSpec)

/-- ITS FALSE NEIGHBOUR: 'it returns false'. Refute it at one input. -/
def fnProbeNearestWrong : ChangeSpec := { name := "fnProbeNearest", fn := fun _ => fun
  | [d] => { results := [.lit (.bool false)], args := [d] }
  | _ => none }
def FnProbeNearestWrongFalsely : Prop := fnProbeNearestRow.holds Try.pinned (OpenSpec.ofChange fnProbeNearestWrong)

/- THE SECOND FORM. 'bulk': how many values and letters a reading holds, each counted each time it is reached (what is shared counts as often as it is met; a slice's spare places count too). A statement '..UptoSaid' is the law's where the arguments, and the package variables that the reading takes, are together of bulk at most 1048576: NARROWER than '..Said'. Prove '..Said' where nothing that the law and all that it calls make is longer than what came in: it says more and counts as full. Else prove '..UptoSaid'. A law counts once. -/
mutual
def uptoBulk {H : Type} : DataW H → Nat
  | .lit (.string bytes) => bytes.length + 1
  | .lit _ => 1
  | .nil => 1
  | .ptr d => uptoBulk d + 1
  | .slice elems spare => uptoBulkAll elems + uptoBulkAll spare + 1
  | .agg parts => uptoBulkAll parts + 1
  | .iface _ d => uptoBulk d + 1
  | .map entries => uptoBulkEntries entries + 1
  | .held _ => 1
def uptoBulkAll {H : Type} : List (DataW H) → Nat
  | [] => 0
  | d :: r => uptoBulk d + uptoBulkAll r
def uptoBulkEntries {H : Type} : List (Lit × DataW H) → Nat
  | [] => 0
  | x :: r => uptoBulkEntry x + uptoBulkEntries r
def uptoBulkEntry {H : Type} : Lit × DataW H → Nat
  | (.string bytes, d) => bytes.length + uptoBulk d + 1
  | (_, d) => uptoBulk d + 1
 end
def uptoSmall : (H : Type) → List (DataW H) → Bool := fun _ ds => decide (uptoBulkAll ds ≤ 1048576)
def OpenSpec.upto (s : _root_.Go.ChangeSpec) : _root_.Go.OpenSpec := { _root_.Go.OpenSpec.ofChange s with cond := some uptoSmall }

/-- 'laws.FnExactShardNearest', WHERE WHAT IT READS IS OF BULK AT MOST 1048576: true; the input reads as it did. -/
def fnExactShardNearestUptoRow : OpenClaim := { program := "ytamaoljjoghajaa", sum := "1379382d436391b34163dbd13a076375f2e97bcdba754ae250bfd65ed0832dc9", func := "loop.example/vectorstore/laws.FnExactShardNearest", spec := "fnExactShardNearest", unfollowed := true, recurses := true, apart := false, narrowed := true }
def FnExactShardNearestUptoSaid : Prop := fnExactShardNearestUptoRow.holds Try.pinned (OpenSpec.upto fnExactShardNearestSpec)

/-- 'laws.FnShardNearest', WHERE WHAT IT READS IS OF BULK AT MOST 1048576: true; the input reads as it did. -/
def fnShardNearestUptoRow : OpenClaim := { program := "ytamaoljjoghajaa", sum := "1379382d436391b34163dbd13a076375f2e97bcdba754ae250bfd65ed0832dc9", func := "loop.example/vectorstore/laws.FnShardNearest", spec := "fnShardNearest", unfollowed := true, recurses := true, apart := false, narrowed := true }
def FnShardNearestUptoSaid : Prop := fnShardNearestUptoRow.holds Try.pinned (OpenSpec.upto fnShardNearestSpec)

/-- 'laws.FnShardNearestFilter', WHERE WHAT IT READS IS OF BULK AT MOST 1048576: true; the input reads as it did. -/
def fnShardNearestFilterUptoRow : OpenClaim := { program := "ytamaoljjoghajaa", sum := "1379382d436391b34163dbd13a076375f2e97bcdba754ae250bfd65ed0832dc9", func := "loop.example/vectorstore/laws.FnShardNearestFilter", spec := "fnShardNearestFilter", unfollowed := true, recurses := true, apart := false, narrowed := true }
def FnShardNearestFilterUptoSaid : Prop := fnShardNearestFilterUptoRow.holds Try.pinned (OpenSpec.upto fnShardNearestFilterSpec)

/-- 'laws.FnProbeNearest', WHERE WHAT IT READS IS OF BULK AT MOST 1048576: true; the input reads as it did. -/
def fnProbeNearestUptoRow : OpenClaim := { program := "ytamaoljjoghajaa", sum := "1379382d436391b34163dbd13a076375f2e97bcdba754ae250bfd65ed0832dc9", func := "loop.example/vectorstore/laws.FnProbeNearest", spec := "fnProbeNearest", unfollowed := true, recurses := true, apart := false, narrowed := true }
def FnProbeNearestUptoSaid : Prop := fnProbeNearestUptoRow.holds Try.pinned (OpenSpec.upto fnProbeNearestSpec)

end Rows
end Go.Proofs.Ytamaoljjoghajaa
