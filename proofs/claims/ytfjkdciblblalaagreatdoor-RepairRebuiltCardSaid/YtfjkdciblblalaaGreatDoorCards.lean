/-
  DERIVED. GIVEN WITH THE SEED: THE CARDS: each row of YtfjkdciblblalaaGreatDoorRows.lean that lists a variable, with what it lists TIED to the program's text (the seventh form; the later family's looks); each row that meets fmt, with fmt's text TOLD by the authors' own Lean function (tested against real Go, not proved from fmt's source: count such statements apart). THE CARD IS WHAT COUNTS. Prove the row's statement (the work); the ties are given (YtfjkdciblblalaaGreatDoorTie.lean); close each card by the builder's one call (the guide's Derived/Test/ToyasCard.lean, 'card_holds'). Laid BY PROGRAM, IN A SANDBOX (cutbox-door.mjs). By AI agents, Wed Nov 11 2026. No macro, syntax, notation, axiom, sorry.
-/
import Derived.Test.YtfjkdciblblalaaGreatDoorRows
import GoSem.ClaimSeven
namespace Go.Proofs.YtfjkdciblblalaaGreatDoor
namespace Rows

/-- THE TIED CARD OF 'evergreenlaw19.RepairRebuilt'. -/
def repairRebuiltCard : Claim7 := { stood := { row := repairRebuiltRow, standIns := [], harness := (true, "a0ab7935d1b90952a2eee0c2b328407e512c11da73a2905257207792ea40007b"), looks := false }, kinds := [], alts := [], laidByText := true, laidKinds := [.data, .data, .pinned], laidTests := true, laidLooks := .later }
def RepairRebuiltCardSaid : Prop := Claim7.holds Tryz.pinned (.plain (OpenSpec.ofChange repairRebuiltSpec)) repairRebuiltCard

/-- THE TIED CARD OF 'evergreenlaw18.PlaceJoined'. -/
def placeJoinedCard : Claim7 := { stood := { row := placeJoinedRow, standIns := [], harness := (true, "a0ab7935d1b90952a2eee0c2b328407e512c11da73a2905257207792ea40007b"), looks := false }, kinds := [], alts := [], laidByText := true, laidKinds := [.data, .data, .pinned], laidTests := true, laidLooks := .later }
def PlaceJoinedCardSaid : Prop := Claim7.holds Tryz.pinned (.plain (OpenSpec.ofChange placeJoinedSpec)) placeJoinedCard

/-- THE SECOND FORM's CARD OF 'evergreenlaw19.RepairRebuilt'. -/
def repairRebuiltUptoCard : Claim7 := { stood := { row := repairRebuiltUptoRow, standIns := [], harness := (true, "a0ab7935d1b90952a2eee0c2b328407e512c11da73a2905257207792ea40007b"), looks := false }, kinds := [], alts := [], laidByText := true, laidKinds := [.data, .data, .pinned], laidTests := true, laidLooks := .later }
def RepairRebuiltUptoCardSaid : Prop := Claim7.holds Tryz.pinned (.plain (OpenSpec.upto repairRebuiltSpec)) repairRebuiltUptoCard

/-- THE SECOND FORM's CARD OF 'evergreenlaw18.PlaceJoined'. -/
def placeJoinedUptoCard : Claim7 := { stood := { row := placeJoinedUptoRow, standIns := [], harness := (true, "a0ab7935d1b90952a2eee0c2b328407e512c11da73a2905257207792ea40007b"), looks := false }, kinds := [], alts := [], laidByText := true, laidKinds := [.data, .data, .pinned], laidTests := true, laidLooks := .later }
def PlaceJoinedUptoCardSaid : Prop := Claim7.holds Tryz.pinned (.plain (OpenSpec.upto placeJoinedSpec)) placeJoinedUptoCard
end Rows
end Go.Proofs.YtfjkdciblblalaaGreatDoor
