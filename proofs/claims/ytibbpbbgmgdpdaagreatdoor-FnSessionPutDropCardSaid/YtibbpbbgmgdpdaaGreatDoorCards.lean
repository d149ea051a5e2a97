/-
  DERIVED. GIVEN WITH THE SEED: THE CARDS: each row of YtibbpbbgmgdpdaaGreatDoorRows.lean that lists a variable, with what it lists TIED to the program's text (the seventh form; the later family's looks); each row that meets fmt, with fmt's text TOLD by the authors' own Lean function (tested against real Go, not proved from fmt's source: count such statements apart). THE CARD IS WHAT COUNTS. Prove the row's statement (the work); the ties are given (YtibbpbbgmgdpdaaGreatDoorTie.lean); close each card by the builder's one call (the guide's Derived/Test/ToyasCard.lean, 'card_holds'). Laid BY PROGRAM, IN A SANDBOX (cutbox-door.mjs). By AI agents, Wed Nov 11 2026. No macro, syntax, notation, axiom, sorry.
-/
import Derived.Test.YtibbpbbgmgdpdaaGreatDoorRows
import GoSem.ClaimSeven
namespace Go.Proofs.YtibbpbbgmgdpdaaGreatDoor
namespace Rows

/-- THE TIED CARD OF 'laws.FnSessionPrefix'. -/
def fnSessionPrefixCard : Claim7 := { stood := { row := fnSessionPrefixRow, standIns := [], harness := (true, "ec18b42cbbaa372bb440bb6ac51bb759f5cce2bc3979719b94ad816ce137e71c"), looks := true }, kinds := [], alts := [], laidByText := true, laidKinds := [.data, .data, .data, .data, .sentinel, .sentinel, .pinned], laidTests := true, laidLooks := .later }
def FnSessionPrefixCardSaid : Prop := Claim7.holds Tryz.pinned (.plain (OpenSpec.ofChange fnSessionPrefixSpec)) fnSessionPrefixCard

/-- THE TIED CARD OF 'laws.FnSessionPutDrop'. -/
def fnSessionPutDropCard : Claim7 := { stood := { row := fnSessionPutDropRow, standIns := [], harness := (true, "ec18b42cbbaa372bb440bb6ac51bb759f5cce2bc3979719b94ad816ce137e71c"), looks := true }, kinds := [], alts := [], laidByText := true, laidKinds := [.data, .data, .data, .data, .sentinel, .sentinel, .pinned], laidTests := true, laidLooks := .later }
def FnSessionPutDropCardSaid : Prop := Claim7.holds Tryz.pinned (.plain (OpenSpec.ofChange fnSessionPutDropSpec)) fnSessionPutDropCard

/-- THE TIED CARD OF 'laws.FnSessionQuestions'. -/
def fnSessionQuestionsCard : Claim7 := { stood := { row := fnSessionQuestionsRow, standIns := [], harness := (true, "ec18b42cbbaa372bb440bb6ac51bb759f5cce2bc3979719b94ad816ce137e71c"), looks := true }, kinds := [], alts := [], laidByText := true, laidKinds := [.data, .data, .data, .data, .sentinel, .sentinel, .pinned], laidTests := true, laidLooks := .later }
def FnSessionQuestionsCardSaid : Prop := Claim7.holds Tryz.pinned (.plain (OpenSpec.ofChange fnSessionQuestionsSpec)) fnSessionQuestionsCard

/-- THE TIED CARD OF 'laws.FnExactRunSession'. -/
def fnExactRunSessionCard : Claim7 := { stood := { row := fnExactRunSessionRow, standIns := [], harness := (true, "ec18b42cbbaa372bb440bb6ac51bb759f5cce2bc3979719b94ad816ce137e71c"), looks := true }, kinds := [], alts := [], laidByText := true, laidKinds := [.data, .data, .data, .data, .sentinel, .sentinel, .pinned], laidTests := true, laidLooks := .later }
def FnExactRunSessionCardSaid : Prop := Claim7.holds Tryz.pinned (.plain (OpenSpec.ofChange fnExactRunSessionSpec)) fnExactRunSessionCard

/-- THE TIED CARD OF 'laws.FnSessionKinds'. -/
def fnSessionKindsCard : Claim7 := { stood := { row := fnSessionKindsRow, standIns := [], harness := (true, "ec18b42cbbaa372bb440bb6ac51bb759f5cce2bc3979719b94ad816ce137e71c"), looks := true }, kinds := [], alts := [], laidByText := true, laidKinds := [.data, .data, .data, .data, .sentinel, .sentinel, .pinned], laidTests := true, laidLooks := .later }
def FnSessionKindsCardSaid : Prop := Claim7.holds Tryz.pinned (.plain (OpenSpec.ofChange fnSessionKindsSpec)) fnSessionKindsCard

/-- THE TIED CARD OF 'laws.FnSessionNear'. -/
def fnSessionNearCard : Claim7 := { stood := { row := fnSessionNearRow, standIns := [], harness := (true, "ec18b42cbbaa372bb440bb6ac51bb759f5cce2bc3979719b94ad816ce137e71c"), looks := true }, kinds := [], alts := [], laidByText := true, laidKinds := [.data, .data, .data, .data, .sentinel, .sentinel, .pinned], laidTests := true, laidLooks := .later }
def FnSessionNearCardSaid : Prop := Claim7.holds Tryz.pinned (.plain (OpenSpec.ofChange fnSessionNearSpec)) fnSessionNearCard

/-- THE SECOND FORM's CARD OF 'laws.FnSessionPrefix'. -/
def fnSessionPrefixUptoCard : Claim7 := { stood := { row := fnSessionPrefixUptoRow, standIns := [], harness := (true, "ec18b42cbbaa372bb440bb6ac51bb759f5cce2bc3979719b94ad816ce137e71c"), looks := true }, kinds := [], alts := [], laidByText := true, laidKinds := [.data, .data, .data, .data, .sentinel, .sentinel, .pinned], laidTests := true, laidLooks := .later }
def FnSessionPrefixUptoCardSaid : Prop := Claim7.holds Tryz.pinned (.plain (OpenSpec.upto fnSessionPrefixSpec)) fnSessionPrefixUptoCard

/-- THE SECOND FORM's CARD OF 'laws.FnSessionPutDrop'. -/
def fnSessionPutDropUptoCard : Claim7 := { stood := { row := fnSessionPutDropUptoRow, standIns := [], harness := (true, "ec18b42cbbaa372bb440bb6ac51bb759f5cce2bc3979719b94ad816ce137e71c"), looks := true }, kinds := [], alts := [], laidByText := true, laidKinds := [.data, .data, .data, .data, .sentinel, .sentinel, .pinned], laidTests := true, laidLooks := .later }
def FnSessionPutDropUptoCardSaid : Prop := Claim7.holds Tryz.pinned (.plain (OpenSpec.upto fnSessionPutDropSpec)) fnSessionPutDropUptoCard

/-- THE SECOND FORM's CARD OF 'laws.FnSessionQuestions'. -/
def fnSessionQuestionsUptoCard : Claim7 := { stood := { row := fnSessionQuestionsUptoRow, standIns := [], harness := (true, "ec18b42cbbaa372bb440bb6ac51bb759f5cce2bc3979719b94ad816ce137e71c"), looks := true }, kinds := [], alts := [], laidByText := true, laidKinds := [.data, .data, .data, .data, .sentinel, .sentinel, .pinned], laidTests := true, laidLooks := .later }
def FnSessionQuestionsUptoCardSaid : Prop := Claim7.holds Tryz.pinned (.plain (OpenSpec.upto fnSessionQuestionsSpec)) fnSessionQuestionsUptoCard

/-- THE SECOND FORM's CARD OF 'laws.FnExactRunSession'. -/
def fnExactRunSessionUptoCard : Claim7 := { stood := { row := fnExactRunSessionUptoRow, standIns := [], harness := (true, "ec18b42cbbaa372bb440bb6ac51bb759f5cce2bc3979719b94ad816ce137e71c"), looks := true }, kinds := [], alts := [], laidByText := true, laidKinds := [.data, .data, .data, .data, .sentinel, .sentinel, .pinned], laidTests := true, laidLooks := .later }
def FnExactRunSessionUptoCardSaid : Prop := Claim7.holds Tryz.pinned (.plain (OpenSpec.upto fnExactRunSessionSpec)) fnExactRunSessionUptoCard

/-- THE SECOND FORM's CARD OF 'laws.FnSessionKinds'. -/
def fnSessionKindsUptoCard : Claim7 := { stood := { row := fnSessionKindsUptoRow, standIns := [], harness := (true, "ec18b42cbbaa372bb440bb6ac51bb759f5cce2bc3979719b94ad816ce137e71c"), looks := true }, kinds := [], alts := [], laidByText := true, laidKinds := [.data, .data, .data, .data, .sentinel, .sentinel, .pinned], laidTests := true, laidLooks := .later }
def FnSessionKindsUptoCardSaid : Prop := Claim7.holds Tryz.pinned (.plain (OpenSpec.upto fnSessionKindsSpec)) fnSessionKindsUptoCard

/-- THE SECOND FORM's CARD OF 'laws.FnSessionNear'. -/
def fnSessionNearUptoCard : Claim7 := { stood := { row := fnSessionNearUptoRow, standIns := [], harness := (true, "ec18b42cbbaa372bb440bb6ac51bb759f5cce2bc3979719b94ad816ce137e71c"), looks := true }, kinds := [], alts := [], laidByText := true, laidKinds := [.data, .data, .data, .data, .sentinel, .sentinel, .pinned], laidTests := true, laidLooks := .later }
def FnSessionNearUptoCardSaid : Prop := Claim7.holds Tryz.pinned (.plain (OpenSpec.upto fnSessionNearSpec)) fnSessionNearUptoCard
end Rows
end Go.Proofs.YtibbpbbgmgdpdaaGreatDoor
