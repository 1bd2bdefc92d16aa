/-
  DERIVED. GIVEN WITH THE SEED: THE CARDS: each row of YtehehfcmanccjaaGreatDoorRows.lean that lists a variable, with what it lists TIED to the program's text (the seventh form; the later family's looks); each row that meets fmt, with fmt's text TOLD by the authors' own Lean function (tested against real Go, not proved from fmt's source: count such statements apart). THE CARD IS WHAT COUNTS. Prove the row's statement (the work); the ties are given (YtehehfcmanccjaaGreatDoorTie.lean); close each card by the builder's one call (the guide's Derived/Test/ToyasCard.lean, 'card_holds'). Laid BY PROGRAM, IN A SANDBOX (cutbox-door.mjs). By AI agents, Wed Nov 11 2026. No macro, syntax, notation, axiom, sorry.
-/
import Derived.Test.YtehehfcmanccjaaGreatDoorRows
import GoSem.ClaimSeven
namespace Go.Proofs.YtehehfcmanccjaaGreatDoor
namespace Rows

/-- THE TIED CARD OF 'evergreenlaw24.LineageClosed'. -/
def lineageClosedCard : Claim7 := { stood := { row := lineageClosedRow, standIns := [], harness := (true, "00fe9f2b8886fbf85a3b5fe39e21941e51d7ee937d2f7d03fa6523a58cf93bf4"), looks := false }, kinds := [], alts := [], laidByText := true, laidKinds := [.data], laidTests := true, laidLooks := .later }
def LineageClosedCardSaid : Prop := Claim7.holds Tryz.pinned (.plain (OpenSpec.ofChange lineageClosedSpec)) lineageClosedCard

/-- THE TIED CARD OF 'evergreenlaw24.LineageBound'. -/
def lineageBoundCard : Claim7 := { stood := { row := lineageBoundRow, standIns := [], harness := (true, "00fe9f2b8886fbf85a3b5fe39e21941e51d7ee937d2f7d03fa6523a58cf93bf4"), looks := false }, kinds := [], alts := [], laidByText := true, laidKinds := [.data], laidTests := true, laidLooks := .later }
def LineageBoundCardSaid : Prop := Claim7.holds Tryz.pinned (.plain (OpenSpec.ofChange lineageBoundSpec)) lineageBoundCard

/-- THE TIED CARD OF 'evergreenlaw24.LineageOrders'. -/
def lineageOrdersCard : Claim7 := { stood := { row := lineageOrdersRow, standIns := [], harness := (true, "00fe9f2b8886fbf85a3b5fe39e21941e51d7ee937d2f7d03fa6523a58cf93bf4"), looks := false }, kinds := [], alts := [], laidByText := true, laidKinds := [.data], laidTests := true, laidLooks := .later }
def LineageOrdersCardSaid : Prop := Claim7.holds Tryz.pinned (.plain (OpenSpec.ofChange lineageOrdersSpec)) lineageOrdersCard

/-- THE TIED CARD OF 'evergreenlaw24.LineageMatchesReference'. -/
def lineageMatchesReferenceCard : Claim7 := { stood := { row := lineageMatchesReferenceRow, standIns := [], harness := (true, "00fe9f2b8886fbf85a3b5fe39e21941e51d7ee937d2f7d03fa6523a58cf93bf4"), looks := false }, kinds := [], alts := [], laidByText := true, laidKinds := [.data], laidTests := true, laidLooks := .later }
def LineageMatchesReferenceCardSaid : Prop := Claim7.holds Tryz.pinned (.plain (OpenSpec.ofChange lineageMatchesReferenceSpec)) lineageMatchesReferenceCard

/-- THE TIED CARD OF 'evergreenlaw24.LineageDeletes'. -/
def lineageDeletesCard : Claim7 := { stood := { row := lineageDeletesRow, standIns := [], harness := (true, "00fe9f2b8886fbf85a3b5fe39e21941e51d7ee937d2f7d03fa6523a58cf93bf4"), looks := false }, kinds := [], alts := [], laidByText := true, laidKinds := [.data], laidTests := true, laidLooks := .later }
def LineageDeletesCardSaid : Prop := Claim7.holds Tryz.pinned (.plain (OpenSpec.ofChange lineageDeletesSpec)) lineageDeletesCard

/-- THE TIED CARD OF 'evergreenlaw24.LineageHeld'. -/
def lineageHeldCard : Claim7 := { stood := { row := lineageHeldRow, standIns := [], harness := (true, "00fe9f2b8886fbf85a3b5fe39e21941e51d7ee937d2f7d03fa6523a58cf93bf4"), looks := false }, kinds := [], alts := [], laidByText := true, laidKinds := [.data], laidTests := true, laidLooks := .later }
def LineageHeldCardSaid : Prop := Claim7.holds Tryz.pinned (.plain (OpenSpec.ofChange lineageHeldSpec)) lineageHeldCard

/-- THE TIED CARD OF 'evergreenlaw24.LineageTombstones'. -/
def lineageTombstonesCard : Claim7 := { stood := { row := lineageTombstonesRow, standIns := [], harness := (true, "00fe9f2b8886fbf85a3b5fe39e21941e51d7ee937d2f7d03fa6523a58cf93bf4"), looks := false }, kinds := [], alts := [], laidByText := true, laidKinds := [.data], laidTests := true, laidLooks := .later }
def LineageTombstonesCardSaid : Prop := Claim7.holds Tryz.pinned (.plain (OpenSpec.ofChange lineageTombstonesSpec)) lineageTombstonesCard

/-- THE SECOND FORM's CARD OF 'evergreenlaw24.LineageClosed'. -/
def lineageClosedUptoCard : Claim7 := { stood := { row := lineageClosedUptoRow, standIns := [], harness := (true, "00fe9f2b8886fbf85a3b5fe39e21941e51d7ee937d2f7d03fa6523a58cf93bf4"), looks := false }, kinds := [], alts := [], laidByText := true, laidKinds := [.data], laidTests := true, laidLooks := .later }
def LineageClosedUptoCardSaid : Prop := Claim7.holds Tryz.pinned (.plain (OpenSpec.upto lineageClosedSpec)) lineageClosedUptoCard

/-- THE SECOND FORM's CARD OF 'evergreenlaw24.LineageBound'. -/
def lineageBoundUptoCard : Claim7 := { stood := { row := lineageBoundUptoRow, standIns := [], harness := (true, "00fe9f2b8886fbf85a3b5fe39e21941e51d7ee937d2f7d03fa6523a58cf93bf4"), looks := false }, kinds := [], alts := [], laidByText := true, laidKinds := [.data], laidTests := true, laidLooks := .later }
def LineageBoundUptoCardSaid : Prop := Claim7.holds Tryz.pinned (.plain (OpenSpec.upto lineageBoundSpec)) lineageBoundUptoCard

/-- THE SECOND FORM's CARD OF 'evergreenlaw24.LineageOrders'. -/
def lineageOrdersUptoCard : Claim7 := { stood := { row := lineageOrdersUptoRow, standIns := [], harness := (true, "00fe9f2b8886fbf85a3b5fe39e21941e51d7ee937d2f7d03fa6523a58cf93bf4"), looks := false }, kinds := [], alts := [], laidByText := true, laidKinds := [.data], laidTests := true, laidLooks := .later }
def LineageOrdersUptoCardSaid : Prop := Claim7.holds Tryz.pinned (.plain (OpenSpec.upto lineageOrdersSpec)) lineageOrdersUptoCard

/-- THE SECOND FORM's CARD OF 'evergreenlaw24.LineageMatchesReference'. -/
def lineageMatchesReferenceUptoCard : Claim7 := { stood := { row := lineageMatchesReferenceUptoRow, standIns := [], harness := (true, "00fe9f2b8886fbf85a3b5fe39e21941e51d7ee937d2f7d03fa6523a58cf93bf4"), looks := false }, kinds := [], alts := [], laidByText := true, laidKinds := [.data], laidTests := true, laidLooks := .later }
def LineageMatchesReferenceUptoCardSaid : Prop := Claim7.holds Tryz.pinned (.plain (OpenSpec.upto lineageMatchesReferenceSpec)) lineageMatchesReferenceUptoCard

/-- THE SECOND FORM's CARD OF 'evergreenlaw24.LineageDeletes'. -/
def lineageDeletesUptoCard : Claim7 := { stood := { row := lineageDeletesUptoRow, standIns := [], harness := (true, "00fe9f2b8886fbf85a3b5fe39e21941e51d7ee937d2f7d03fa6523a58cf93bf4"), looks := false }, kinds := [], alts := [], laidByText := true, laidKinds := [.data], laidTests := true, laidLooks := .later }
def LineageDeletesUptoCardSaid : Prop := Claim7.holds Tryz.pinned (.plain (OpenSpec.upto lineageDeletesSpec)) lineageDeletesUptoCard

/-- THE SECOND FORM's CARD OF 'evergreenlaw24.LineageHeld'. -/
def lineageHeldUptoCard : Claim7 := { stood := { row := lineageHeldUptoRow, standIns := [], harness := (true, "00fe9f2b8886fbf85a3b5fe39e21941e51d7ee937d2f7d03fa6523a58cf93bf4"), looks := false }, kinds := [], alts := [], laidByText := true, laidKinds := [.data], laidTests := true, laidLooks := .later }
def LineageHeldUptoCardSaid : Prop := Claim7.holds Tryz.pinned (.plain (OpenSpec.upto lineageHeldSpec)) lineageHeldUptoCard

/-- THE SECOND FORM's CARD OF 'evergreenlaw24.LineageTombstones'. -/
def lineageTombstonesUptoCard : Claim7 := { stood := { row := lineageTombstonesUptoRow, standIns := [], harness := (true, "00fe9f2b8886fbf85a3b5fe39e21941e51d7ee937d2f7d03fa6523a58cf93bf4"), looks := false }, kinds := [], alts := [], laidByText := true, laidKinds := [.data], laidTests := true, laidLooks := .later }
def LineageTombstonesUptoCardSaid : Prop := Claim7.holds Tryz.pinned (.plain (OpenSpec.upto lineageTombstonesSpec)) lineageTombstonesUptoCard
end Rows
end Go.Proofs.YtehehfcmanccjaaGreatDoor
