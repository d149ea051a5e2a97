/-
  No cell of these rows narrows 'for every input' (looked for: loops, veiled, ifaces, maps, wideKeys, modest, calm, conditions, laid).
  DERIVED. THE GIVEN ROWS OF THIS SEAT. 8 by the template 'for every input the law returns true; each argument reads behind the call as it read before'; 0 by the template 'total and deterministic' (their statements: YtjooangmmboogaaTotals.lean).
  GIVEN WITH THE SEED: the statements are not yours to turn. If you find one false, say at which input.
  Laid BY PROGRAM, IN A SANDBOX (cutbox-rows.mjs): the forced cells as the released guide's own fill.sh prints them over the translation f6eabd511074659b… (all of the seat's roots in one cut). By AI agents, Wed Nov 11 2026. No macro, syntax, notation, axiom, sorry.
-/
import Derived.Test.YtjooangmmboogaaChecked
import GoSem.Claim
import GoSem.ClaimJoined
import GoSem.ClaimMapViews
import Derived.JoinedTies
import Derived.KernelRfl
namespace Go.Proofs.Ytjooangmmboogaa
/- THE CELL 'sum', in the pinned program and in every row, IS THE sha256 OF THE DUMP (.gsa) THAT YtjooangmmboogaaProg.lean LOADS. Nothing in Lean hashes anything: it is a label: what it is worth is what the hold of that sum in a sandbox is worth. -/
noncomputable def Try.pinned : Pinned := { name := "ytjooangmmboogaa", sum := "f6eabd511074659be3c88fcf65aaccd39c5bf0312e292d262309d870419a0f98", checked := Try.checked }
namespace Rows
def none {H : Type} : Left H := { results := [], args := [] }

/-- 'laws.FnShortLog': WHATEVER THE INPUT: true; the input reads as it did. -/
def fnShortLogSpec : ChangeSpec := { name := "fnShortLog", fn := fun _ => fun
  | [d] => { results := [.lit (.bool true)], args := [d] }
  | _ => none }
def fnShortLogRow : OpenClaim := { program := "ytjooangmmboogaa", sum := "f6eabd511074659be3c88fcf65aaccd39c5bf0312e292d262309d870419a0f98", func := "loop.example/vectorstore/laws.FnShortLog", spec := "fnShortLog", unfollowed := true, recurses := true, apart := false }
def FnShortLogSaid : Prop := fnShortLogRow.holds Try.pinned (OpenSpec.ofChange fnShortLogSpec)

/-- ITS FALSE NEIGHBOUR: 'it returns false'. Refute it at one input. -/
def fnShortLogWrong : ChangeSpec := { name := "fnShortLog", fn := fun _ => fun
  | [d] => { results := [.lit (.bool false)], args := [d] }
  | _ => none }
def FnShortLogWrongFalsely : Prop := fnShortLogRow.holds Try.pinned (OpenSpec.ofChange fnShortLogWrong)

/-- 'laws.FnExactShortLog': WHATEVER THE INPUT: true; the input reads as it did. -/
def fnExactShortLogSpec : ChangeSpec := { name := "fnExactShortLog", fn := fun _ => fun
  | [d] => { results := [.lit (.bool true)], args := [d] }
  | _ => none }
def fnExactShortLogRow : OpenClaim := { program := "ytjooangmmboogaa", sum := "f6eabd511074659be3c88fcf65aaccd39c5bf0312e292d262309d870419a0f98", func := "loop.example/vectorstore/laws.FnExactShortLog", spec := "fnExactShortLog", unfollowed := true, recurses := true, apart := false }
def FnExactShortLogSaid : Prop := fnExactShortLogRow.holds Try.pinned (OpenSpec.ofChange fnExactShortLogSpec)

/-- ITS FALSE NEIGHBOUR: 'it returns false'. Refute it at one input. -/
def fnExactShortLogWrong : ChangeSpec := { name := "fnExactShortLog", fn := fun _ => fun
  | [d] => { results := [.lit (.bool false)], args := [d] }
  | _ => none }
def FnExactShortLogWrongFalsely : Prop := fnExactShortLogRow.holds Try.pinned (OpenSpec.ofChange fnExactShortLogWrong)

/-- 'laws.FnExactLogBetween': WHATEVER THE INPUT: true; the input reads as it did. -/
def fnExactLogBetweenSpec : ChangeSpec := { name := "fnExactLogBetween", fn := fun _ => fun
  | [d1, d2] => { results := [.lit (.bool true)], args := [d1, d2] }
  | _ => none }
def fnExactLogBetweenRow : OpenClaim := { program := "ytjooangmmboogaa", sum := "f6eabd511074659be3c88fcf65aaccd39c5bf0312e292d262309d870419a0f98", func := "loop.example/vectorstore/laws.FnExactLogBetween", spec := "fnExactLogBetween", unfollowed := true, recurses := true, apart := false }
def FnExactLogBetweenSaid : Prop := fnExactLogBetweenRow.holds Try.pinned (OpenSpec.ofChange fnExactLogBetweenSpec)

/-- ITS FALSE NEIGHBOUR: 'it returns false'. Refute it at one input. -/
def fnExactLogBetweenWrong : ChangeSpec := { name := "fnExactLogBetween", fn := fun _ => fun
  | [d1, d2] => { results := [.lit (.bool false)], args := [d1, d2] }
  | _ => none }
def FnExactLogBetweenWrongFalsely : Prop := fnExactLogBetweenRow.holds Try.pinned (OpenSpec.ofChange fnExactLogBetweenWrong)

/-- 'laws.FnReplayLog': WHATEVER THE INPUT: true; the input reads as it did. -/
def fnReplayLogSpec : ChangeSpec := { name := "fnReplayLog", fn := fun _ => fun
  | [d] => { results := [.lit (.bool true)], args := [d] }
  | _ => none }
def fnReplayLogRow : OpenClaim := { program := "ytjooangmmboogaa", sum := "f6eabd511074659be3c88fcf65aaccd39c5bf0312e292d262309d870419a0f98", func := "loop.example/vectorstore/laws.FnReplayLog", spec := "fnReplayLog", unfollowed := true, recurses := true, apart := false }
def FnReplayLogSaid : Prop := fnReplayLogRow.holds Try.pinned (OpenSpec.ofChange fnReplayLogSpec)

/-- ITS FALSE NEIGHBOUR: 'it returns false'. Refute it at one input. -/
def fnReplayLogWrong : ChangeSpec := { name := "fnReplayLog", fn := fun _ => fun
  | [d] => { results := [.lit (.bool false)], args := [d] }
  | _ => none }
def FnReplayLogWrongFalsely : Prop := fnReplayLogRow.holds Try.pinned (OpenSpec.ofChange fnReplayLogWrong)

/-- 'laws.FnReplayLogStop': WHATEVER THE INPUT: true; the input reads as it did. -/
def fnReplayLogStopSpec : ChangeSpec := { name := "fnReplayLogStop", fn := fun _ => fun
  | [d] => { results := [.lit (.bool true)], args := [d] }
  | _ => none }
def fnReplayLogStopRow : OpenClaim := { program := "ytjooangmmboogaa", sum := "f6eabd511074659be3c88fcf65aaccd39c5bf0312e292d262309d870419a0f98", func := "loop.example/vectorstore/laws.FnReplayLogStop", spec := "fnReplayLogStop", unfollowed := true, recurses := true, apart := false }
def FnReplayLogStopSaid : Prop := fnReplayLogStopRow.holds Try.pinned (OpenSpec.ofChange fnReplayLogStopSpec)

/-- ITS FALSE NEIGHBOUR: 'it returns false'. Refute it at one input. -/
def fnReplayLogStopWrong : ChangeSpec := { name := "fnReplayLogStop", fn := fun _ => fun
  | [d] => { results := [.lit (.bool false)], args := [d] }
  | _ => none }
def FnReplayLogStopWrongFalsely : Prop := fnReplayLogStopRow.holds Try.pinned (OpenSpec.ofChange fnReplayLogStopWrong)

/-- 'laws.FnReplayLogLast': WHATEVER THE INPUT: true; the input reads as it did. -/
def fnReplayLogLastSpec : ChangeSpec := { name := "fnReplayLogLast", fn := fun _ => fun
  | [d] => { results := [.lit (.bool true)], args := [d] }
  | _ => none }
def fnReplayLogLastRow : OpenClaim := { program := "ytjooangmmboogaa", sum := "f6eabd511074659be3c88fcf65aaccd39c5bf0312e292d262309d870419a0f98", func := "loop.example/vectorstore/laws.FnReplayLogLast", spec := "fnReplayLogLast", unfollowed := true, recurses := true, apart := false }
def FnReplayLogLastSaid : Prop := fnReplayLogLastRow.holds Try.pinned (OpenSpec.ofChange fnReplayLogLastSpec)

/-- ITS FALSE NEIGHBOUR: 'it returns false'. Refute it at one input. -/
def fnReplayLogLastWrong : ChangeSpec := { name := "fnReplayLogLast", fn := fun _ => fun
  | [d] => { results := [.lit (.bool false)], args := [d] }
  | _ => none }
def FnReplayLogLastWrongFalsely : Prop := fnReplayLogLastRow.holds Try.pinned (OpenSpec.ofChange fnReplayLogLastWrong)

/-- 'laws.FnShortLogReplay': WHATEVER THE INPUT: true; the input reads as it did. -/
def fnShortLogReplaySpec : ChangeSpec := { name := "fnShortLogReplay", fn := fun _ => fun
  | [d] => { results := [.lit (.bool true)], args := [d] }
  | _ => none }
def fnShortLogReplayRow : OpenClaim := { program := "ytjooangmmboogaa", sum := "f6eabd511074659be3c88fcf65aaccd39c5bf0312e292d262309d870419a0f98", func := "loop.example/vectorstore/laws.FnShortLogReplay", spec := "fnShortLogReplay", unfollowed := true, recurses := true, apart := false }
def FnShortLogReplaySaid : Prop := fnShortLogReplayRow.holds Try.pinned (OpenSpec.ofChange fnShortLogReplaySpec)

/-- ITS FALSE NEIGHBOUR: 'it returns false'. Refute it at one input. -/
def fnShortLogReplayWrong : ChangeSpec := { name := "fnShortLogReplay", fn := fun _ => fun
  | [d] => { results := [.lit (.bool false)], args := [d] }
  | _ => none }
def FnShortLogReplayWrongFalsely : Prop := fnShortLogReplayRow.holds Try.pinned (OpenSpec.ofChange fnShortLogReplayWrong)

/-- 'laws.FnExactReplayLog': WHATEVER THE INPUT: true; the input reads as it did. -/
def fnExactReplayLogSpec : ChangeSpec := { name := "fnExactReplayLog", fn := fun _ => fun
  | [d1, d2] => { results := [.lit (.bool true)], args := [d1, d2] }
  | _ => none }
def fnExactReplayLogRow : OpenClaim := { program := "ytjooangmmboogaa", sum := "f6eabd511074659be3c88fcf65aaccd39c5bf0312e292d262309d870419a0f98", func := "loop.example/vectorstore/laws.FnExactReplayLog", spec := "fnExactReplayLog", unfollowed := true, recurses := true, apart := false }
def FnExactReplayLogSaid : Prop := fnExactReplayLogRow.holds Try.pinned (OpenSpec.ofChange fnExactReplayLogSpec)

/-- ITS FALSE NEIGHBOUR: 'it returns false'. Refute it at one input. -/
def fnExactReplayLogWrong : ChangeSpec := { name := "fnExactReplayLog", fn := fun _ => fun
  | [d1, d2] => { results := [.lit (.bool false)], args := [d1, d2] }
  | _ => none }
def FnExactReplayLogWrongFalsely : Prop := fnExactReplayLogRow.holds Try.pinned (OpenSpec.ofChange fnExactReplayLogWrong)

/- THE SECOND FORM. 'bulk': how many values and letters a reading holds, each counted each time it is reached (what is shared counts as often as it is met; a slice's spare places count too). A statement '..UptoSaid' is the law's where the arguments, and the package variables that the reading takes, are together of bulk at most 1048576: NARROWER than '..Said'. Prove '..Said' where nothing that the law and all that it calls make is longer than what came in: it says more and counts as full. Else prove '..UptoSaid'. A law counts once. -/
mutual
def uptoBulk {H : Type} : DataW H → Nat
  | .lit (.string bytes) => bytes.length + 1
  | .lit _ => 1
  | .nil => 1
  | .ptr d => uptoBulk d + 1
  | .slice elems spare => uptoBulkAll elems + uptoBulkAll spare + 1
  | .agg parts => uptoBulkAll parts + 1
  | .iface _ d => uptoBulk d + 1
  | .map entries => uptoBulkEntries entries + 1
  | .held _ => 1
def uptoBulkAll {H : Type} : List (DataW H) → Nat
  | [] => 0
  | d :: r => uptoBulk d + uptoBulkAll r
def uptoBulkEntries {H : Type} : List (Lit × DataW H) → Nat
  | [] => 0
  | x :: r => uptoBulkEntry x + uptoBulkEntries r
def uptoBulkEntry {H : Type} : Lit × DataW H → Nat
  | (.string bytes, d) => bytes.length + uptoBulk d + 1
  | (_, d) => uptoBulk d + 1
 end
def uptoSmall : (H : Type) → List (DataW H) → Bool := fun _ ds => decide (uptoBulkAll ds ≤ 1048576)
def OpenSpec.upto (s : _root_.Go.ChangeSpec) : _root_.Go.OpenSpec := { _root_.Go.OpenSpec.ofChange s with cond := some uptoSmall }

/-- 'laws.FnShortLog', WHERE WHAT IT READS IS OF BULK AT MOST 1048576: true; the input reads as it did. -/
def fnShortLogUptoRow : OpenClaim := { program := "ytjooangmmboogaa", sum := "f6eabd511074659be3c88fcf65aaccd39c5bf0312e292d262309d870419a0f98", func := "loop.example/vectorstore/laws.FnShortLog", spec := "fnShortLog", unfollowed := true, recurses := true, apart := false, narrowed := true }
def FnShortLogUptoSaid : Prop := fnShortLogUptoRow.holds Try.pinned (OpenSpec.upto fnShortLogSpec)

/-- 'laws.FnExactShortLog', WHERE WHAT IT READS IS OF BULK AT MOST 1048576: true; the input reads as it did. -/
def fnExactShortLogUptoRow : OpenClaim := { program := "ytjooangmmboogaa", sum := "f6eabd511074659be3c88fcf65aaccd39c5bf0312e292d262309d870419a0f98", func := "loop.example/vectorstore/laws.FnExactShortLog", spec := "fnExactShortLog", unfollowed := true, recurses := true, apart := false, narrowed := true }
def FnExactShortLogUptoSaid : Prop := fnExactShortLogUptoRow.holds Try.pinned (OpenSpec.upto fnExactShortLogSpec)

/-- 'laws.FnExactLogBetween', WHERE WHAT IT READS IS OF BULK AT MOST 1048576: true; the input reads as it did. -/
def fnExactLogBetweenUptoRow : OpenClaim := { program := "ytjooangmmboogaa", sum := "f6eabd511074659be3c88fcf65aaccd39c5bf0312e292d262309d870419a0f98", func := "loop.example/vectorstore/laws.FnExactLogBetween", spec := "fnExactLogBetween", unfollowed := true, recurses := true, apart := false, narrowed := true }
def FnExactLogBetweenUptoSaid : Prop := fnExactLogBetweenUptoRow.holds Try.pinned (OpenSpec.upto fnExactLogBetweenSpec)

/-- 'laws.FnReplayLog', WHERE WHAT IT READS IS OF BULK AT MOST 1048576: true; the input reads as it did. -/
def fnReplayLogUptoRow : OpenClaim := { program := "ytjooangmmboogaa", sum := "f6eabd511074659be3c88fcf65aaccd39c5bf0312e292d262309d870419a0f98", func := "loop.example/vectorstore/laws.FnReplayLog", spec := "fnReplayLog", unfollowed := true, recurses := true, apart := false, narrowed := true }
def FnReplayLogUptoSaid : Prop := fnReplayLogUptoRow.holds Try.pinned (OpenSpec.upto fnReplayLogSpec)

/-- 'laws.FnReplayLogStop', WHERE WHAT IT READS IS OF BULK AT MOST 1048576: true; the input reads as it did. -/
def fnReplayLogStopUptoRow : OpenClaim := { program := "ytjooangmmboogaa", sum := "f6eabd511074659be3c88fcf65aaccd39c5bf0312e292d262309d870419a0f98", func := "loop.example/vectorstore/laws.FnReplayLogStop", spec := "fnReplayLogStop", unfollowed := true, recurses := true, apart := false, narrowed := true }
def FnReplayLogStopUptoSaid : Prop := fnReplayLogStopUptoRow.holds Try.pinned (OpenSpec.upto fnReplayLogStopSpec)

/-- 'laws.FnReplayLogLast', WHERE WHAT IT READS IS OF BULK AT MOST 1048576: true; the input reads as it did. -/
def fnReplayLogLastUptoRow : OpenClaim := { program := "ytjooangmmboogaa", sum := "f6eabd511074659be3c88fcf65aaccd39c5bf0312e292d262309d870419a0f98", func := "loop.example/vectorstore/laws.FnReplayLogLast", spec := "fnReplayLogLast", unfollowed := true, recurses := true, apart := false, narrowed := true }
def FnReplayLogLastUptoSaid : Prop := fnReplayLogLastUptoRow.holds Try.pinned (OpenSpec.upto fnReplayLogLastSpec)

/-- 'laws.FnShortLogReplay', WHERE WHAT IT READS IS OF BULK AT MOST 1048576: true; the input reads as it did. -/
def fnShortLogReplayUptoRow : OpenClaim := { program := "ytjooangmmboogaa", sum := "f6eabd511074659be3c88fcf65aaccd39c5bf0312e292d262309d870419a0f98", func := "loop.example/vectorstore/laws.FnShortLogReplay", spec := "fnShortLogReplay", unfollowed := true, recurses := true, apart := false, narrowed := true }
def FnShortLogReplayUptoSaid : Prop := fnShortLogReplayUptoRow.holds Try.pinned (OpenSpec.upto fnShortLogReplaySpec)

/-- 'laws.FnExactReplayLog', WHERE WHAT IT READS IS OF BULK AT MOST 1048576: true; the input reads as it did. -/
def fnExactReplayLogUptoRow : OpenClaim := { program := "ytjooangmmboogaa", sum := "f6eabd511074659be3c88fcf65aaccd39c5bf0312e292d262309d870419a0f98", func := "loop.example/vectorstore/laws.FnExactReplayLog", spec := "fnExactReplayLog", unfollowed := true, recurses := true, apart := false, narrowed := true }
def FnExactReplayLogUptoSaid : Prop := fnExactReplayLogUptoRow.holds Try.pinned (OpenSpec.upto fnExactReplayLogSpec)

end Rows
end Go.Proofs.Ytjooangmmboogaa
