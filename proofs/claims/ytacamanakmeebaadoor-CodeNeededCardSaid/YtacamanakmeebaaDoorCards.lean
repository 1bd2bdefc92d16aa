/-
  DERIVED. GIVEN WITH THE SEED: THE CARDS: each row of YtacamanakmeebaaDoorRows.lean that lists a variable, with what it lists TIED to the program's text (the seventh form; the later family's looks); each row that meets fmt, with fmt's text TOLD by the authors' own Lean function (tested against real Go, not proved from fmt's source: count such statements apart). THE CARD IS WHAT COUNTS. Prove the row's statement (the work); the ties are given (YtacamanakmeebaaDoorTie.lean); close each card by the builder's one call (the guide's Derived/Test/ToyasCard.lean, 'card_holds'). Laid BY PROGRAM, IN A SANDBOX (cutbox-door.mjs). By AI agents, Wed Nov 11 2026. No macro, syntax, notation, axiom, sorry.
-/
import Derived.Test.YtacamanakmeebaaDoorRows
import GoSem.ClaimSeven
namespace Go.Proofs.YtacamanakmeebaaDoor
namespace Rows

/-- THE TIED CARD OF 'evergreenlaw17.CodeMatchesReference'. -/
def codeMatchesReferenceCard : Claim7 := { stood := { row := codeMatchesReferenceRow, standIns := [], harness := (true, "fd43deb3a49715184e6cb6b66bed59122a4ebe5a56e1d9dfa7a0e815b155b553"), looks := false }, kinds := [], alts := [], laidByText := true, laidKinds := [.data, .data, .pinned], laidTests := true, laidLooks := .later }
def CodeMatchesReferenceCardSaid : Prop := Claim7.holds Tryd.pinned (.plain (OpenSpec.ofChange codeMatchesReferenceSpec)) codeMatchesReferenceCard

/-- THE TIED CARD OF 'evergreenlaw17.CodeNumbersMatchReference'. -/
def codeNumbersMatchReferenceCard : Claim7 := { stood := { row := codeNumbersMatchReferenceRow, standIns := [], harness := (true, "fd43deb3a49715184e6cb6b66bed59122a4ebe5a56e1d9dfa7a0e815b155b553"), looks := false }, kinds := [], alts := [], laidByText := true, laidKinds := [.data, .data, .pinned], laidTests := true, laidLooks := .later }
def CodeNumbersMatchReferenceCardSaid : Prop := Claim7.holds Tryd.pinned (.plain (OpenSpec.ofChange codeNumbersMatchReferenceSpec)) codeNumbersMatchReferenceCard

/-- THE TIED CARD OF 'evergreenlaw17.CodeField'. -/
def codeFieldCard : Claim7 := { stood := { row := codeFieldRow, standIns := [], harness := (true, "fd43deb3a49715184e6cb6b66bed59122a4ebe5a56e1d9dfa7a0e815b155b553"), looks := false }, kinds := [], alts := [], laidByText := true, laidKinds := [.data, .data, .pinned], laidTests := true, laidLooks := .later }
def CodeFieldCardSaid : Prop := Claim7.holds Tryd.pinned (.plain (OpenSpec.ofChange codeFieldSpec)) codeFieldCard

/-- THE TIED CARD OF 'evergreenlaw17.CodeAny'. -/
def codeAnyCard : Claim7 := { stood := { row := codeAnyRow, standIns := [], harness := (true, "fd43deb3a49715184e6cb6b66bed59122a4ebe5a56e1d9dfa7a0e815b155b553"), looks := false }, kinds := [], alts := [], laidByText := true, laidKinds := [.data, .data, .pinned], laidTests := true, laidLooks := .later }
def CodeAnyCardSaid : Prop := Claim7.holds Tryd.pinned (.plain (OpenSpec.ofChange codeAnySpec)) codeAnyCard

/-- THE TIED CARD OF 'evergreenlaw17.CodeNoticed'. -/
def codeNoticedCard : Claim7 := { stood := { row := codeNoticedRow, standIns := [], harness := (true, "fd43deb3a49715184e6cb6b66bed59122a4ebe5a56e1d9dfa7a0e815b155b553"), looks := false }, kinds := [], alts := [], laidByText := true, laidKinds := [.data, .data, .pinned], laidTests := true, laidLooks := .later }
def CodeNoticedCardSaid : Prop := Claim7.holds Tryd.pinned (.plain (OpenSpec.ofChange codeNoticedSpec)) codeNoticedCard

/-- THE TIED CARD OF 'evergreenlaw17.CodeNeeded'. -/
def codeNeededCard : Claim7 := { stood := { row := codeNeededRow, standIns := [], harness := (true, "fd43deb3a49715184e6cb6b66bed59122a4ebe5a56e1d9dfa7a0e815b155b553"), looks := false }, kinds := [], alts := [], laidByText := true, laidKinds := [.data, .data, .pinned], laidTests := true, laidLooks := .later }
def CodeNeededCardSaid : Prop := Claim7.holds Tryd.pinned (.plain (OpenSpec.ofChange codeNeededSpec)) codeNeededCard

/-- THE TIED CARD OF 'evergreenlaw17.CodeLinear'. -/
def codeLinearCard : Claim7 := { stood := { row := codeLinearRow, standIns := [], harness := (true, "fd43deb3a49715184e6cb6b66bed59122a4ebe5a56e1d9dfa7a0e815b155b553"), looks := false }, kinds := [], alts := [], laidByText := true, laidKinds := [.data, .data, .pinned], laidTests := true, laidLooks := .later }
def CodeLinearCardSaid : Prop := Claim7.holds Tryd.pinned (.plain (OpenSpec.ofChange codeLinearSpec)) codeLinearCard

/-- THE TIED CARD OF 'evergreenlaw17.CodeFewer'. -/
def codeFewerCard : Claim7 := { stood := { row := codeFewerRow, standIns := [], harness := (true, "fd43deb3a49715184e6cb6b66bed59122a4ebe5a56e1d9dfa7a0e815b155b553"), looks := false }, kinds := [], alts := [], laidByText := true, laidKinds := [.data, .data, .pinned], laidTests := true, laidLooks := .later }
def CodeFewerCardSaid : Prop := Claim7.holds Tryd.pinned (.plain (OpenSpec.ofChange codeFewerSpec)) codeFewerCard

/-- THE SECOND FORM's CARD OF 'evergreenlaw17.CodeMatchesReference'. -/
def codeMatchesReferenceUptoCard : Claim7 := { stood := { row := codeMatchesReferenceUptoRow, standIns := [], harness := (true, "fd43deb3a49715184e6cb6b66bed59122a4ebe5a56e1d9dfa7a0e815b155b553"), looks := false }, kinds := [], alts := [], laidByText := true, laidKinds := [.data, .data, .pinned], laidTests := true, laidLooks := .later }
def CodeMatchesReferenceUptoCardSaid : Prop := Claim7.holds Tryd.pinned (.plain (OpenSpec.upto codeMatchesReferenceSpec)) codeMatchesReferenceUptoCard

/-- THE SECOND FORM's CARD OF 'evergreenlaw17.CodeNumbersMatchReference'. -/
def codeNumbersMatchReferenceUptoCard : Claim7 := { stood := { row := codeNumbersMatchReferenceUptoRow, standIns := [], harness := (true, "fd43deb3a49715184e6cb6b66bed59122a4ebe5a56e1d9dfa7a0e815b155b553"), looks := false }, kinds := [], alts := [], laidByText := true, laidKinds := [.data, .data, .pinned], laidTests := true, laidLooks := .later }
def CodeNumbersMatchReferenceUptoCardSaid : Prop := Claim7.holds Tryd.pinned (.plain (OpenSpec.upto codeNumbersMatchReferenceSpec)) codeNumbersMatchReferenceUptoCard

/-- THE SECOND FORM's CARD OF 'evergreenlaw17.CodeField'. -/
def codeFieldUptoCard : Claim7 := { stood := { row := codeFieldUptoRow, standIns := [], harness := (true, "fd43deb3a49715184e6cb6b66bed59122a4ebe5a56e1d9dfa7a0e815b155b553"), looks := false }, kinds := [], alts := [], laidByText := true, laidKinds := [.data, .data, .pinned], laidTests := true, laidLooks := .later }
def CodeFieldUptoCardSaid : Prop := Claim7.holds Tryd.pinned (.plain (OpenSpec.upto codeFieldSpec)) codeFieldUptoCard

/-- THE SECOND FORM's CARD OF 'evergreenlaw17.CodeAny'. -/
def codeAnyUptoCard : Claim7 := { stood := { row := codeAnyUptoRow, standIns := [], harness := (true, "fd43deb3a49715184e6cb6b66bed59122a4ebe5a56e1d9dfa7a0e815b155b553"), looks := false }, kinds := [], alts := [], laidByText := true, laidKinds := [.data, .data, .pinned], laidTests := true, laidLooks := .later }
def CodeAnyUptoCardSaid : Prop := Claim7.holds Tryd.pinned (.plain (OpenSpec.upto codeAnySpec)) codeAnyUptoCard

/-- THE SECOND FORM's CARD OF 'evergreenlaw17.CodeNoticed'. -/
def codeNoticedUptoCard : Claim7 := { stood := { row := codeNoticedUptoRow, standIns := [], harness := (true, "fd43deb3a49715184e6cb6b66bed59122a4ebe5a56e1d9dfa7a0e815b155b553"), looks := false }, kinds := [], alts := [], laidByText := true, laidKinds := [.data, .data, .pinned], laidTests := true, laidLooks := .later }
def CodeNoticedUptoCardSaid : Prop := Claim7.holds Tryd.pinned (.plain (OpenSpec.upto codeNoticedSpec)) codeNoticedUptoCard

/-- THE SECOND FORM's CARD OF 'evergreenlaw17.CodeNeeded'. -/
def codeNeededUptoCard : Claim7 := { stood := { row := codeNeededUptoRow, standIns := [], harness := (true, "fd43deb3a49715184e6cb6b66bed59122a4ebe5a56e1d9dfa7a0e815b155b553"), looks := false }, kinds := [], alts := [], laidByText := true, laidKinds := [.data, .data, .pinned], laidTests := true, laidLooks := .later }
def CodeNeededUptoCardSaid : Prop := Claim7.holds Tryd.pinned (.plain (OpenSpec.upto codeNeededSpec)) codeNeededUptoCard

/-- THE SECOND FORM's CARD OF 'evergreenlaw17.CodeLinear'. -/
def codeLinearUptoCard : Claim7 := { stood := { row := codeLinearUptoRow, standIns := [], harness := (true, "fd43deb3a49715184e6cb6b66bed59122a4ebe5a56e1d9dfa7a0e815b155b553"), looks := false }, kinds := [], alts := [], laidByText := true, laidKinds := [.data, .data, .pinned], laidTests := true, laidLooks := .later }
def CodeLinearUptoCardSaid : Prop := Claim7.holds Tryd.pinned (.plain (OpenSpec.upto codeLinearSpec)) codeLinearUptoCard

/-- THE SECOND FORM's CARD OF 'evergreenlaw17.CodeFewer'. -/
def codeFewerUptoCard : Claim7 := { stood := { row := codeFewerUptoRow, standIns := [], harness := (true, "fd43deb3a49715184e6cb6b66bed59122a4ebe5a56e1d9dfa7a0e815b155b553"), looks := false }, kinds := [], alts := [], laidByText := true, laidKinds := [.data, .data, .pinned], laidTests := true, laidLooks := .later }
def CodeFewerUptoCardSaid : Prop := Claim7.holds Tryd.pinned (.plain (OpenSpec.upto codeFewerSpec)) codeFewerUptoCard
end Rows
end Go.Proofs.YtacamanakmeebaaDoor
