/-
  No cell of these rows narrows 'for every input' (looked for: loops, veiled, ifaces, maps, wideKeys, modest, calm, conditions, laid).
  DERIVED. THE GIVEN ROWS OF THIS SEAT. 7 by the template 'for every input the law returns true; each argument reads behind the call as it read before'; 0 by the template 'total and deterministic' (their statements: YtbfilliflfmaoaaTotals.lean).
  GIVEN WITH THE SEED: the statements are not yours to turn. If you find one false, say at which input.
  Laid BY PROGRAM, IN A SANDBOX (cutbox-rows.mjs): the forced cells as the released guide's own fill.sh prints them over the translation 39806b9f649e5aee… (all of the seat's roots in one cut). By AI agents, Wed Nov 11 2026. No macro, syntax, notation, axiom, sorry.
-/
import Derived.Test.YtbfilliflfmaoaaChecked
import GoSem.Claim
import GoSem.ClaimJoined
import GoSem.ClaimMapViews
import Derived.JoinedTies
import Derived.KernelRfl
namespace Go.Proofs.Ytbfilliflfmaoaa
/- THE CELL 'sum', in the pinned program and in every row, IS THE sha256 OF THE DUMP (.gsa) THAT YtbfilliflfmaoaaProg.lean LOADS. Nothing in Lean hashes anything: it is a label: what it is worth is what the hold of that sum in a sandbox is worth. -/
noncomputable def Try.pinned : Pinned := { name := "ytbfilliflfmaoaa", sum := "39806b9f649e5aee11fe1d6458850061a0a3bb1c3fd0b01cf34d286910b4e7f7", checked := Try.checked }
namespace Rows
def none {H : Type} : Left H := { results := [], args := [] }

/-- 'laws.FnExactFormatPage': WHATEVER THE INPUT: true; the input reads as it did. -/
def fnExactFormatPageSpec : ChangeSpec := { name := "fnExactFormatPage", fn := fun _ => fun
  | [d] => { results := [.lit (.bool true)], args := [d] }
  | _ => none }
def fnExactFormatPageRow : OpenClaim := { program := "ytbfilliflfmaoaa", sum := "39806b9f649e5aee11fe1d6458850061a0a3bb1c3fd0b01cf34d286910b4e7f7", func := "loop.example/vectorstore/laws.FnExactFormatPage", spec := "fnExactFormatPage", apart := false }
def FnExactFormatPageSaid : Prop := fnExactFormatPageRow.holds Try.pinned (OpenSpec.ofChange fnExactFormatPageSpec)

/-- ITS FALSE NEIGHBOUR: 'it returns false'. Refute it at one input. -/
def fnExactFormatPageWrong : ChangeSpec := { name := "fnExactFormatPage", fn := fun _ => fun
  | [d] => { results := [.lit (.bool false)], args := [d] }
  | _ => none }
def FnExactFormatPageWrongFalsely : Prop := fnExactFormatPageRow.holds Try.pinned (OpenSpec.ofChange fnExactFormatPageWrong)

/-- 'laws.FnExactParsePage': WHATEVER THE INPUT: true; the input reads as it did. -/
def fnExactParsePageSpec : ChangeSpec := { name := "fnExactParsePage", fn := fun _ => fun
  | [d] => { results := [.lit (.bool true)], args := [d] }
  | _ => none }
def fnExactParsePageRow : OpenClaim := { program := "ytbfilliflfmaoaa", sum := "39806b9f649e5aee11fe1d6458850061a0a3bb1c3fd0b01cf34d286910b4e7f7", func := "loop.example/vectorstore/laws.FnExactParsePage", spec := "fnExactParsePage", apart := false }
def FnExactParsePageSaid : Prop := fnExactParsePageRow.holds Try.pinned (OpenSpec.ofChange fnExactParsePageSpec)

/-- ITS FALSE NEIGHBOUR: 'it returns false'. Refute it at one input. -/
def fnExactParsePageWrong : ChangeSpec := { name := "fnExactParsePage", fn := fun _ => fun
  | [d] => { results := [.lit (.bool false)], args := [d] }
  | _ => none }
def FnExactParsePageWrongFalsely : Prop := fnExactParsePageRow.holds Try.pinned (OpenSpec.ofChange fnExactParsePageWrong)

/-- 'laws.FnPageShort': WHATEVER THE INPUT: true; the input reads as it did. -/
def fnPageShortSpec : ChangeSpec := { name := "fnPageShort", fn := fun _ => fun
  | [d] => { results := [.lit (.bool true)], args := [d] }
  | _ => none }
def fnPageShortRow : OpenClaim := { program := "ytbfilliflfmaoaa", sum := "39806b9f649e5aee11fe1d6458850061a0a3bb1c3fd0b01cf34d286910b4e7f7", func := "loop.example/vectorstore/laws.FnPageShort", spec := "fnPageShort", apart := false }
def FnPageShortSaid : Prop := fnPageShortRow.holds Try.pinned (OpenSpec.ofChange fnPageShortSpec)

/-- ITS FALSE NEIGHBOUR: 'it returns false'. Refute it at one input. -/
def fnPageShortWrong : ChangeSpec := { name := "fnPageShort", fn := fun _ => fun
  | [d] => { results := [.lit (.bool false)], args := [d] }
  | _ => none }
def FnPageShortWrongFalsely : Prop := fnPageShortRow.holds Try.pinned (OpenSpec.ofChange fnPageShortWrong)

/-- 'laws.FnPageCheck': WHATEVER THE INPUT: true; the input reads as it did. -/
def fnPageCheckSpec : ChangeSpec := { name := "fnPageCheck", fn := fun _ => fun
  | [d] => { results := [.lit (.bool true)], args := [d] }
  | _ => none }
def fnPageCheckRow : OpenClaim := { program := "ytbfilliflfmaoaa", sum := "39806b9f649e5aee11fe1d6458850061a0a3bb1c3fd0b01cf34d286910b4e7f7", func := "loop.example/vectorstore/laws.FnPageCheck", spec := "fnPageCheck", apart := false }
def FnPageCheckSaid : Prop := fnPageCheckRow.holds Try.pinned (OpenSpec.ofChange fnPageCheckSpec)

/-- ITS FALSE NEIGHBOUR: 'it returns false'. Refute it at one input. -/
def fnPageCheckWrong : ChangeSpec := { name := "fnPageCheck", fn := fun _ => fun
  | [d] => { results := [.lit (.bool false)], args := [d] }
  | _ => none }
def FnPageCheckWrongFalsely : Prop := fnPageCheckRow.holds Try.pinned (OpenSpec.ofChange fnPageCheckWrong)

/-- 'laws.FnPageEmpty': WHATEVER THE INPUT: true; the input reads as it did. -/
def fnPageEmptySpec : ChangeSpec := { name := "fnPageEmpty", fn := fun _ => fun
  | [d] => { results := [.lit (.bool true)], args := [d] }
  | _ => none }
def fnPageEmptyRow : OpenClaim := { program := "ytbfilliflfmaoaa", sum := "39806b9f649e5aee11fe1d6458850061a0a3bb1c3fd0b01cf34d286910b4e7f7", func := "loop.example/vectorstore/laws.FnPageEmpty", spec := "fnPageEmpty", apart := false }
def FnPageEmptySaid : Prop := fnPageEmptyRow.holds Try.pinned (OpenSpec.ofChange fnPageEmptySpec)

/-- ITS FALSE NEIGHBOUR: 'it returns false'. Refute it at one input. -/
def fnPageEmptyWrong : ChangeSpec := { name := "fnPageEmpty", fn := fun _ => fun
  | [d] => { results := [.lit (.bool false)], args := [d] }
  | _ => none }
def FnPageEmptyWrongFalsely : Prop := fnPageEmptyRow.holds Try.pinned (OpenSpec.ofChange fnPageEmptyWrong)

/-- 'laws.FnPageRoundTrip': WHATEVER THE INPUT: true; the input reads as it did. -/
def fnPageRoundTripSpec : ChangeSpec := { name := "fnPageRoundTrip", fn := fun _ => fun
  | [d] => { results := [.lit (.bool true)], args := [d] }
  | _ => none }
def fnPageRoundTripRow : OpenClaim := { program := "ytbfilliflfmaoaa", sum := "39806b9f649e5aee11fe1d6458850061a0a3bb1c3fd0b01cf34d286910b4e7f7", func := "loop.example/vectorstore/laws.FnPageRoundTrip", spec := "fnPageRoundTrip", apart := false }
def FnPageRoundTripSaid : Prop := fnPageRoundTripRow.holds Try.pinned (OpenSpec.ofChange fnPageRoundTripSpec)

/-- ITS FALSE NEIGHBOUR: 'it returns false'. Refute it at one input. -/
def fnPageRoundTripWrong : ChangeSpec := { name := "fnPageRoundTrip", fn := fun _ => fun
  | [d] => { results := [.lit (.bool false)], args := [d] }
  | _ => none }
def FnPageRoundTripWrongFalsely : Prop := fnPageRoundTripRow.holds Try.pinned (OpenSpec.ofChange fnPageRoundTripWrong)

/-- 'laws.FnPageCanonical': WHATEVER THE INPUT: true; the input reads as it did. -/
def fnPageCanonicalSpec : ChangeSpec := { name := "fnPageCanonical", fn := fun _ => fun
  | [d] => { results := [.lit (.bool true)], args := [d] }
  | _ => none }
def fnPageCanonicalRow : OpenClaim := { program := "ytbfilliflfmaoaa", sum := "39806b9f649e5aee11fe1d6458850061a0a3bb1c3fd0b01cf34d286910b4e7f7", func := "loop.example/vectorstore/laws.FnPageCanonical", spec := "fnPageCanonical", apart := false }
def FnPageCanonicalSaid : Prop := fnPageCanonicalRow.holds Try.pinned (OpenSpec.ofChange fnPageCanonicalSpec)

/-- ITS FALSE NEIGHBOUR: 'it returns false'. Refute it at one input. -/
def fnPageCanonicalWrong : ChangeSpec := { name := "fnPageCanonical", fn := fun _ => fun
  | [d] => { results := [.lit (.bool false)], args := [d] }
  | _ => none }
def FnPageCanonicalWrongFalsely : Prop := fnPageCanonicalRow.holds Try.pinned (OpenSpec.ofChange fnPageCanonicalWrong)

/- THE SECOND FORM. 'bulk': how many values and letters a reading holds, each counted each time it is reached (what is shared counts as often as it is met; a slice's spare places count too). A statement '..UptoSaid' is the law's where the arguments, and the package variables that the reading takes, are together of bulk at most 1048576: NARROWER than '..Said'. Prove '..Said' where nothing that the law and all that it calls make is longer than what came in: it says more and counts as full. Else prove '..UptoSaid'. A law counts once. -/
mutual
def uptoBulk {H : Type} : DataW H → Nat
  | .lit (.string bytes) => bytes.length + 1
  | .lit _ => 1
  | .nil => 1
  | .ptr d => uptoBulk d + 1
  | .slice elems spare => uptoBulkAll elems + uptoBulkAll spare + 1
  | .agg parts => uptoBulkAll parts + 1
  | .iface _ d => uptoBulk d + 1
  | .map entries => uptoBulkEntries entries + 1
  | .held _ => 1
def uptoBulkAll {H : Type} : List (DataW H) → Nat
  | [] => 0
  | d :: r => uptoBulk d + uptoBulkAll r
def uptoBulkEntries {H : Type} : List (Lit × DataW H) → Nat
  | [] => 0
  | x :: r => uptoBulkEntry x + uptoBulkEntries r
def uptoBulkEntry {H : Type} : Lit × DataW H → Nat
  | (.string bytes, d) => bytes.length + uptoBulk d + 1
  | (_, d) => uptoBulk d + 1
 end
def uptoSmall : (H : Type) → List (DataW H) → Bool := fun _ ds => decide (uptoBulkAll ds ≤ 1048576)
def OpenSpec.upto (s : _root_.Go.ChangeSpec) : _root_.Go.OpenSpec := { _root_.Go.OpenSpec.ofChange s with cond := some uptoSmall }

/-- 'laws.FnExactFormatPage', WHERE WHAT IT READS IS OF BULK AT MOST 1048576: true; the input reads as it did. -/
def fnExactFormatPageUptoRow : OpenClaim := { program := "ytbfilliflfmaoaa", sum := "39806b9f649e5aee11fe1d6458850061a0a3bb1c3fd0b01cf34d286910b4e7f7", func := "loop.example/vectorstore/laws.FnExactFormatPage", spec := "fnExactFormatPage", apart := false, narrowed := true }
def FnExactFormatPageUptoSaid : Prop := fnExactFormatPageUptoRow.holds Try.pinned (OpenSpec.upto fnExactFormatPageSpec)

/-- 'laws.FnExactParsePage', WHERE WHAT IT READS IS OF BULK AT MOST 1048576: true; the input reads as it did. -/
def fnExactParsePageUptoRow : OpenClaim := { program := "ytbfilliflfmaoaa", sum := "39806b9f649e5aee11fe1d6458850061a0a3bb1c3fd0b01cf34d286910b4e7f7", func := "loop.example/vectorstore/laws.FnExactParsePage", spec := "fnExactParsePage", apart := false, narrowed := true }
def FnExactParsePageUptoSaid : Prop := fnExactParsePageUptoRow.holds Try.pinned (OpenSpec.upto fnExactParsePageSpec)

/-- 'laws.FnPageShort', WHERE WHAT IT READS IS OF BULK AT MOST 1048576: true; the input reads as it did. -/
def fnPageShortUptoRow : OpenClaim := { program := "ytbfilliflfmaoaa", sum := "39806b9f649e5aee11fe1d6458850061a0a3bb1c3fd0b01cf34d286910b4e7f7", func := "loop.example/vectorstore/laws.FnPageShort", spec := "fnPageShort", apart := false, narrowed := true }
def FnPageShortUptoSaid : Prop := fnPageShortUptoRow.holds Try.pinned (OpenSpec.upto fnPageShortSpec)

/-- 'laws.FnPageCheck', WHERE WHAT IT READS IS OF BULK AT MOST 1048576: true; the input reads as it did. -/
def fnPageCheckUptoRow : OpenClaim := { program := "ytbfilliflfmaoaa", sum := "39806b9f649e5aee11fe1d6458850061a0a3bb1c3fd0b01cf34d286910b4e7f7", func := "loop.example/vectorstore/laws.FnPageCheck", spec := "fnPageCheck", apart := false, narrowed := true }
def FnPageCheckUptoSaid : Prop := fnPageCheckUptoRow.holds Try.pinned (OpenSpec.upto fnPageCheckSpec)

/-- 'laws.FnPageEmpty', WHERE WHAT IT READS IS OF BULK AT MOST 1048576: true; the input reads as it did. -/
def fnPageEmptyUptoRow : OpenClaim := { program := "ytbfilliflfmaoaa", sum := "39806b9f649e5aee11fe1d6458850061a0a3bb1c3fd0b01cf34d286910b4e7f7", func := "loop.example/vectorstore/laws.FnPageEmpty", spec := "fnPageEmpty", apart := false, narrowed := true }
def FnPageEmptyUptoSaid : Prop := fnPageEmptyUptoRow.holds Try.pinned (OpenSpec.upto fnPageEmptySpec)

/-- 'laws.FnPageRoundTrip', WHERE WHAT IT READS IS OF BULK AT MOST 1048576: true; the input reads as it did. -/
def fnPageRoundTripUptoRow : OpenClaim := { program := "ytbfilliflfmaoaa", sum := "39806b9f649e5aee11fe1d6458850061a0a3bb1c3fd0b01cf34d286910b4e7f7", func := "loop.example/vectorstore/laws.FnPageRoundTrip", spec := "fnPageRoundTrip", apart := false, narrowed := true }
def FnPageRoundTripUptoSaid : Prop := fnPageRoundTripUptoRow.holds Try.pinned (OpenSpec.upto fnPageRoundTripSpec)

/-- 'laws.FnPageCanonical', WHERE WHAT IT READS IS OF BULK AT MOST 1048576: true; the input reads as it did. -/
def fnPageCanonicalUptoRow : OpenClaim := { program := "ytbfilliflfmaoaa", sum := "39806b9f649e5aee11fe1d6458850061a0a3bb1c3fd0b01cf34d286910b4e7f7", func := "loop.example/vectorstore/laws.FnPageCanonical", spec := "fnPageCanonical", apart := false, narrowed := true }
def FnPageCanonicalUptoSaid : Prop := fnPageCanonicalUptoRow.holds Try.pinned (OpenSpec.upto fnPageCanonicalSpec)

end Rows
end Go.Proofs.Ytbfilliflfmaoaa
