/-
  DERIVED. GIVEN WITH THE SEED: THE CARDS: each row of YtfmiakflhkpnfaaGreatDoorRows.lean that lists a variable, with what it lists TIED to the program's text (the seventh form; the later family's looks); each row that meets fmt, with fmt's text TOLD by the authors' own Lean function (tested against real Go, not proved from fmt's source: count such statements apart). THE CARD IS WHAT COUNTS. Prove the row's statement (the work); the ties are given (YtfmiakflhkpnfaaGreatDoorTie.lean); close each card by the builder's one call (the guide's Derived/Test/ToyasCard.lean, 'card_holds'). Laid BY PROGRAM, IN A SANDBOX (cutbox-door.mjs). By AI agents, Wed Nov 11 2026. No macro, syntax, notation, axiom, sorry.
-/
import Derived.Test.YtfmiakflhkpnfaaGreatDoorRows
import GoSem.ClaimSeven
namespace Go.Proofs.YtfmiakflhkpnfaaGreatDoor
namespace Rows

/-- THE TIED CARD OF 'evergreentop.TopLawful'. -/
def topLawfulCard : Claim7 := { stood := { row := topLawfulRow, standIns := [], harness := (true, "44341a48440bc8607936c987a7a0cebb406eb79699d553587a45e51293748a1a"), looks := true }, kinds := [], alts := [], laidByText := true, laidKinds := [.data, .data, .pinned, .pinned], laidTests := true, laidLooks := .later }
def TopLawfulCardSaid : Prop := Claim7.holds Tryz.pinned (.plain (OpenSpec.ofChange topLawfulSpec)) topLawfulCard

/-- THE SECOND FORM's CARD OF 'evergreentop.TopLawful'. -/
def topLawfulUptoCard : Claim7 := { stood := { row := topLawfulUptoRow, standIns := [], harness := (true, "44341a48440bc8607936c987a7a0cebb406eb79699d553587a45e51293748a1a"), looks := true }, kinds := [], alts := [], laidByText := true, laidKinds := [.data, .data, .pinned, .pinned], laidTests := true, laidLooks := .later }
def TopLawfulUptoCardSaid : Prop := Claim7.holds Tryz.pinned (.plain (OpenSpec.upto topLawfulSpec)) topLawfulUptoCard
end Rows
end Go.Proofs.YtfmiakflhkpnfaaGreatDoor
