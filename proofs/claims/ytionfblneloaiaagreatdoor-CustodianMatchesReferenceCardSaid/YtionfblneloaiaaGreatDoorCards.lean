/-
  DERIVED. GIVEN WITH THE SEED: THE CARDS: each row of YtionfblneloaiaaGreatDoorRows.lean that lists a variable, with what it lists TIED to the program's text (the seventh form; the later family's looks); each row that meets fmt, with fmt's text TOLD by the authors' own Lean function (tested against real Go, not proved from fmt's source: count such statements apart). THE CARD IS WHAT COUNTS. Prove the row's statement (the work); the ties are given (YtionfblneloaiaaGreatDoorTie.lean); close each card by the builder's one call (the guide's Derived/Test/ToyasCard.lean, 'card_holds'). Laid BY PROGRAM, IN A SANDBOX (cutbox-door.mjs). By AI agents, Wed Nov 11 2026. No macro, syntax, notation, axiom, sorry.
-/
import Derived.Test.YtionfblneloaiaaGreatDoorRows
import GoSem.ClaimSeven
namespace Go.Proofs.YtionfblneloaiaaGreatDoor
namespace Rows

/-- THE TIED CARD OF 'evergreenlaw27.CustodianAudits'. -/
def custodianAuditsCard : Claim7 := { stood := { row := custodianAuditsRow, standIns := [], harness := (true, "17457ff206cbc8f72b82d1475be42d46ab008da376033f7a4fb400a1372f6be1"), looks := true }, kinds := [], alts := [], laidByText := true, laidKinds := [.data, .data, .sentinel, .sentinel, .pinned], laidTests := true, laidLooks := .later }
def CustodianAuditsCardSaid : Prop := Claim7.holds Tryz.pinned (.plain (OpenSpec.ofChange custodianAuditsSpec)) custodianAuditsCard

/-- THE TIED CARD OF 'evergreenlaw27.CustodianOthers'. -/
def custodianOthersCard : Claim7 := { stood := { row := custodianOthersRow, standIns := [], harness := (true, "17457ff206cbc8f72b82d1475be42d46ab008da376033f7a4fb400a1372f6be1"), looks := true }, kinds := [], alts := [], laidByText := true, laidKinds := [.data, .data, .sentinel, .sentinel, .pinned], laidTests := true, laidLooks := .later }
def CustodianOthersCardSaid : Prop := Claim7.holds Tryz.pinned (.plain (OpenSpec.ofChange custodianOthersSpec)) custodianOthersCard

/-- THE TIED CARD OF 'evergreenlaw27.CustodianOpens'. -/
def custodianOpensCard : Claim7 := { stood := { row := custodianOpensRow, standIns := [], harness := (true, "17457ff206cbc8f72b82d1475be42d46ab008da376033f7a4fb400a1372f6be1"), looks := true }, kinds := [], alts := [], laidByText := true, laidKinds := [.data, .data, .sentinel, .sentinel, .pinned], laidTests := true, laidLooks := .later }
def CustodianOpensCardSaid : Prop := Claim7.holds Tryz.pinned (.plain (OpenSpec.ofChange custodianOpensSpec)) custodianOpensCard

/-- THE TIED CARD OF 'evergreenlaw27.CustodianRefuses'. -/
def custodianRefusesCard : Claim7 := { stood := { row := custodianRefusesRow, standIns := [], harness := (true, "17457ff206cbc8f72b82d1475be42d46ab008da376033f7a4fb400a1372f6be1"), looks := true }, kinds := [], alts := [], laidByText := true, laidKinds := [.data, .data, .sentinel, .sentinel, .pinned], laidTests := true, laidLooks := .later }
def CustodianRefusesCardSaid : Prop := Claim7.holds Tryz.pinned (.plain (OpenSpec.ofChange custodianRefusesSpec)) custodianRefusesCard

/-- THE TIED CARD OF 'evergreenlaw27.CustodianMatchesReference'. -/
def custodianMatchesReferenceCard : Claim7 := { stood := { row := custodianMatchesReferenceRow, standIns := [], harness := (true, "17457ff206cbc8f72b82d1475be42d46ab008da376033f7a4fb400a1372f6be1"), looks := true }, kinds := [], alts := [], laidByText := true, laidKinds := [.data, .data, .sentinel, .sentinel, .pinned], laidTests := true, laidLooks := .later }
def CustodianMatchesReferenceCardSaid : Prop := Claim7.holds Tryz.pinned (.plain (OpenSpec.ofChange custodianMatchesReferenceSpec)) custodianMatchesReferenceCard

/-- THE TIED CARD OF 'evergreenlaw27.CustodianDurable'. -/
def custodianDurableCard : Claim7 := { stood := { row := custodianDurableRow, standIns := [], harness := (true, "17457ff206cbc8f72b82d1475be42d46ab008da376033f7a4fb400a1372f6be1"), looks := true }, kinds := [], alts := [], laidByText := true, laidKinds := [.data, .data, .sentinel, .sentinel, .pinned], laidTests := true, laidLooks := .later }
def CustodianDurableCardSaid : Prop := Claim7.holds Tryz.pinned (.plain (OpenSpec.ofChange custodianDurableSpec)) custodianDurableCard

/-- THE TIED CARD OF 'evergreenlaw27.CustodianJoined'. -/
def custodianJoinedCard : Claim7 := { stood := { row := custodianJoinedRow, standIns := [], harness := (true, "17457ff206cbc8f72b82d1475be42d46ab008da376033f7a4fb400a1372f6be1"), looks := true }, kinds := [], alts := [], laidByText := true, laidKinds := [.data, .data, .data, .sentinel, .sentinel, .pinned], laidTests := true, laidLooks := .later }
def CustodianJoinedCardSaid : Prop := Claim7.holds Tryz.pinned (.plain (OpenSpec.ofChange custodianJoinedSpec)) custodianJoinedCard

/-- THE SECOND FORM's CARD OF 'evergreenlaw27.CustodianAudits'. -/
def custodianAuditsUptoCard : Claim7 := { stood := { row := custodianAuditsUptoRow, standIns := [], harness := (true, "17457ff206cbc8f72b82d1475be42d46ab008da376033f7a4fb400a1372f6be1"), looks := true }, kinds := [], alts := [], laidByText := true, laidKinds := [.data, .data, .sentinel, .sentinel, .pinned], laidTests := true, laidLooks := .later }
def CustodianAuditsUptoCardSaid : Prop := Claim7.holds Tryz.pinned (.plain (OpenSpec.upto custodianAuditsSpec)) custodianAuditsUptoCard

/-- THE SECOND FORM's CARD OF 'evergreenlaw27.CustodianOthers'. -/
def custodianOthersUptoCard : Claim7 := { stood := { row := custodianOthersUptoRow, standIns := [], harness := (true, "17457ff206cbc8f72b82d1475be42d46ab008da376033f7a4fb400a1372f6be1"), looks := true }, kinds := [], alts := [], laidByText := true, laidKinds := [.data, .data, .sentinel, .sentinel, .pinned], laidTests := true, laidLooks := .later }
def CustodianOthersUptoCardSaid : Prop := Claim7.holds Tryz.pinned (.plain (OpenSpec.upto custodianOthersSpec)) custodianOthersUptoCard

/-- THE SECOND FORM's CARD OF 'evergreenlaw27.CustodianOpens'. -/
def custodianOpensUptoCard : Claim7 := { stood := { row := custodianOpensUptoRow, standIns := [], harness := (true, "17457ff206cbc8f72b82d1475be42d46ab008da376033f7a4fb400a1372f6be1"), looks := true }, kinds := [], alts := [], laidByText := true, laidKinds := [.data, .data, .sentinel, .sentinel, .pinned], laidTests := true, laidLooks := .later }
def CustodianOpensUptoCardSaid : Prop := Claim7.holds Tryz.pinned (.plain (OpenSpec.upto custodianOpensSpec)) custodianOpensUptoCard

/-- THE SECOND FORM's CARD OF 'evergreenlaw27.CustodianRefuses'. -/
def custodianRefusesUptoCard : Claim7 := { stood := { row := custodianRefusesUptoRow, standIns := [], harness := (true, "17457ff206cbc8f72b82d1475be42d46ab008da376033f7a4fb400a1372f6be1"), looks := true }, kinds := [], alts := [], laidByText := true, laidKinds := [.data, .data, .sentinel, .sentinel, .pinned], laidTests := true, laidLooks := .later }
def CustodianRefusesUptoCardSaid : Prop := Claim7.holds Tryz.pinned (.plain (OpenSpec.upto custodianRefusesSpec)) custodianRefusesUptoCard

/-- THE SECOND FORM's CARD OF 'evergreenlaw27.CustodianMatchesReference'. -/
def custodianMatchesReferenceUptoCard : Claim7 := { stood := { row := custodianMatchesReferenceUptoRow, standIns := [], harness := (true, "17457ff206cbc8f72b82d1475be42d46ab008da376033f7a4fb400a1372f6be1"), looks := true }, kinds := [], alts := [], laidByText := true, laidKinds := [.data, .data, .sentinel, .sentinel, .pinned], laidTests := true, laidLooks := .later }
def CustodianMatchesReferenceUptoCardSaid : Prop := Claim7.holds Tryz.pinned (.plain (OpenSpec.upto custodianMatchesReferenceSpec)) custodianMatchesReferenceUptoCard

/-- THE SECOND FORM's CARD OF 'evergreenlaw27.CustodianDurable'. -/
def custodianDurableUptoCard : Claim7 := { stood := { row := custodianDurableUptoRow, standIns := [], harness := (true, "17457ff206cbc8f72b82d1475be42d46ab008da376033f7a4fb400a1372f6be1"), looks := true }, kinds := [], alts := [], laidByText := true, laidKinds := [.data, .data, .sentinel, .sentinel, .pinned], laidTests := true, laidLooks := .later }
def CustodianDurableUptoCardSaid : Prop := Claim7.holds Tryz.pinned (.plain (OpenSpec.upto custodianDurableSpec)) custodianDurableUptoCard

/-- THE SECOND FORM's CARD OF 'evergreenlaw27.CustodianJoined'. -/
def custodianJoinedUptoCard : Claim7 := { stood := { row := custodianJoinedUptoRow, standIns := [], harness := (true, "17457ff206cbc8f72b82d1475be42d46ab008da376033f7a4fb400a1372f6be1"), looks := true }, kinds := [], alts := [], laidByText := true, laidKinds := [.data, .data, .data, .sentinel, .sentinel, .pinned], laidTests := true, laidLooks := .later }
def CustodianJoinedUptoCardSaid : Prop := Claim7.holds Tryz.pinned (.plain (OpenSpec.upto custodianJoinedSpec)) custodianJoinedUptoCard
end Rows
end Go.Proofs.YtionfblneloaiaaGreatDoor
