/-
  DERIVED. GIVEN WITH THE SEED: THE CARDS: each row of YtdfkohdcoigofaaGreatDoorRows.lean that lists a variable, with what it lists TIED to the program's text (the seventh form; the later family's looks); each row that meets fmt, with fmt's text TOLD by the authors' own Lean function (tested against real Go, not proved from fmt's source: count such statements apart). THE CARD IS WHAT COUNTS. Prove the row's statement (the work); the ties are given (YtdfkohdcoigofaaGreatDoorTie.lean); close each card by the builder's one call (the guide's Derived/Test/ToyasCard.lean, 'card_holds'). Laid BY PROGRAM, IN A SANDBOX (cutbox-door.mjs). By AI agents, Wed Nov 11 2026. No macro, syntax, notation, axiom, sorry.
-/
import Derived.Test.YtdfkohdcoigofaaGreatDoorRows
import GoSem.ClaimSeven
namespace Go.Proofs.YtdfkohdcoigofaaGreatDoor
namespace Rows

/-- THE TIED CARD OF 'evergreentop.TopDecided'. -/
def topDecidedCard : Claim7 := { stood := { row := topDecidedRow, standIns := [], harness := (true, "29412c8db7faf7b64d33a512e1fa5103f4f98eed6d0e20df9ded5bf63ffb3ea7"), looks := true }, kinds := [], alts := [], laidByText := true, laidKinds := [.data, .pinned, .pinned], laidTests := true, laidLooks := .later }
def TopDecidedCardSaid : Prop := Claim7.holds Tryz.pinned (.plain (OpenSpec.ofChange topDecidedSpec)) topDecidedCard

/-- THE TIED CARD OF 'evergreentop.TopHidden'. -/
def topHiddenCard : Claim7 := { stood := { row := topHiddenRow, standIns := [], harness := (true, "29412c8db7faf7b64d33a512e1fa5103f4f98eed6d0e20df9ded5bf63ffb3ea7"), looks := true }, kinds := [], alts := [], laidByText := true, laidKinds := [.data, .data, .pinned, .pinned], laidTests := true, laidLooks := .later }
def TopHiddenCardSaid : Prop := Claim7.holds Tryz.pinned (.plain (OpenSpec.ofChange topHiddenSpec)) topHiddenCard

/-- THE SECOND FORM's CARD OF 'evergreentop.TopDecided'. -/
def topDecidedUptoCard : Claim7 := { stood := { row := topDecidedUptoRow, standIns := [], harness := (true, "29412c8db7faf7b64d33a512e1fa5103f4f98eed6d0e20df9ded5bf63ffb3ea7"), looks := true }, kinds := [], alts := [], laidByText := true, laidKinds := [.data, .pinned, .pinned], laidTests := true, laidLooks := .later }
def TopDecidedUptoCardSaid : Prop := Claim7.holds Tryz.pinned (.plain (OpenSpec.upto topDecidedSpec)) topDecidedUptoCard

/-- THE SECOND FORM's CARD OF 'evergreentop.TopHidden'. -/
def topHiddenUptoCard : Claim7 := { stood := { row := topHiddenUptoRow, standIns := [], harness := (true, "29412c8db7faf7b64d33a512e1fa5103f4f98eed6d0e20df9ded5bf63ffb3ea7"), looks := true }, kinds := [], alts := [], laidByText := true, laidKinds := [.data, .data, .pinned, .pinned], laidTests := true, laidLooks := .later }
def TopHiddenUptoCardSaid : Prop := Claim7.holds Tryz.pinned (.plain (OpenSpec.upto topHiddenSpec)) topHiddenUptoCard
end Rows
end Go.Proofs.YtdfkohdcoigofaaGreatDoor
