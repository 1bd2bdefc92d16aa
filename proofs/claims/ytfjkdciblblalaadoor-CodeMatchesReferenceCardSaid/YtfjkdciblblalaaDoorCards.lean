/-
  DERIVED. GIVEN WITH THE SEED: THE CARDS: each row of YtfjkdciblblalaaDoorRows.lean that lists a variable, with what it lists TIED to the program's text (the seventh form; the later family's looks); each row that meets fmt, with fmt's text TOLD by the authors' own Lean function (tested against real Go, not proved from fmt's source: count such statements apart). THE CARD IS WHAT COUNTS. Prove the row's statement (the work); the ties are given (YtfjkdciblblalaaDoorTie.lean); close each card by the builder's one call (the guide's Derived/Test/ToyasCard.lean, 'card_holds'). Laid BY PROGRAM, IN A SANDBOX (cutbox-door.mjs). By AI agents, Wed Nov 11 2026. No macro, syntax, notation, axiom, sorry.
-/
import Derived.Test.YtfjkdciblblalaaDoorRows
import GoSem.ClaimSeven
namespace Go.Proofs.YtfjkdciblblalaaDoor
namespace Rows

/-- THE TIED CARD OF 'evergreenlaw17.CodeMatchesReference'. -/
def codeMatchesReferenceCard : Claim7 := { stood := { row := codeMatchesReferenceRow, standIns := [], harness := (true, "19e8ba4082395210e43820fc6d7ac4a79838da49cfb613aae10cecb0ee200d08"), looks := false }, kinds := [], alts := [], laidByText := true, laidKinds := [.data, .data, .pinned], laidTests := true, laidLooks := .later }
def CodeMatchesReferenceCardSaid : Prop := Claim7.holds Tryd.pinned (.plain (OpenSpec.ofChange codeMatchesReferenceSpec)) codeMatchesReferenceCard

/-- THE SECOND FORM's CARD OF 'evergreenlaw17.CodeMatchesReference'. -/
def codeMatchesReferenceUptoCard : Claim7 := { stood := { row := codeMatchesReferenceUptoRow, standIns := [], harness := (true, "19e8ba4082395210e43820fc6d7ac4a79838da49cfb613aae10cecb0ee200d08"), looks := false }, kinds := [], alts := [], laidByText := true, laidKinds := [.data, .data, .pinned], laidTests := true, laidLooks := .later }
def CodeMatchesReferenceUptoCardSaid : Prop := Claim7.holds Tryd.pinned (.plain (OpenSpec.upto codeMatchesReferenceSpec)) codeMatchesReferenceUptoCard
end Rows
end Go.Proofs.YtfjkdciblblalaaDoor
