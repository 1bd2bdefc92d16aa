/-
  NARROWER THAN 'FOR EVERY INPUT', by the rows' own cells (each row's printed sentence says how): CodeMatchesReference: laid · CodeNumbersMatchReference: laid · CodeField: laid · CodeAny: laid · CodeNoticed: laid · CodeNeeded: laid · CodeLinear: laid · CodeFewer: laid.
  DERIVED. THE GIVEN ROWS OF THIS SEAT. 8 by the template 'for every input the law returns true; each argument reads behind the call as it read before'; 0 by the template 'total and deterministic' (their statements: YtacamanakmeebaaDoorTotals.lean).
  GIVEN WITH THE SEED: the statements are not yours to turn. If you find one false, say at which input.
  Laid BY PROGRAM, IN A SANDBOX (cutbox-rows.mjs): the forced cells as the released guide's own fill.sh prints them over the translation 89b04625731e46f2… (all of the seat's roots in one cut). By AI agents, Wed Nov 11 2026. No macro, syntax, notation, axiom, sorry.
-/
import Derived.Test.YtacamanakmeebaaDoorChecked
import GoSem.PinnedTables
import GoSem.Claim
import GoSem.ClaimJoined
import GoSem.ClaimMapViews
import Derived.JoinedTies
import Derived.KernelRfl
namespace Go.Proofs.YtacamanakmeebaaDoor
/- THE CELL 'sum', in the pinned program and in every row, IS THE sha256 OF THE DUMP (.gsa) THAT YtacamanakmeebaaDoorProg.lean LOADS. Nothing in Lean hashes anything: it is a label: what it is worth is what the hold of that sum in a sandbox is worth. -/
noncomputable def Tryd.pinned : Pinned := { name := "ytacamanakmeebaadoor", sum := "89b04625731e46f2e3d276073d9ff8bb3ae934528a760ad2e2cf932bd6c72184", checked := Tryd.checked }
namespace Rows
def none {H : Type} : Left H := { results := [], args := [] }

/- WHAT THE LISTED PACKAGE-LEVEL VARIABLES READ AS WHEN THE CALL BEGINS. Each datum BY PROGRAM (the guide's laid-datum.mjs) off the statement by which the dump's own 'gosem.cut.vars' lays the variable. In a bare row this is a premise. The card (YtacamanakmeebaaDoorCards.lean) ties it to the program's text. -/
def laid_unicode_utf8_acceptRanges {H : Type} : DataW H := .agg [.agg [.lit (.int .u8 128), .lit (.int .u8 191)], .agg [.lit (.int .u8 160), .lit (.int .u8 191)], .agg [.lit (.int .u8 128), .lit (.int .u8 159)], .agg [.lit (.int .u8 144), .lit (.int .u8 191)], .agg [.lit (.int .u8 128), .lit (.int .u8 143)], .agg [.lit (.int .u8 0), .lit (.int .u8 0)], .agg [.lit (.int .u8 0), .lit (.int .u8 0)], .agg [.lit (.int .u8 0), .lit (.int .u8 0)], .agg [.lit (.int .u8 0), .lit (.int .u8 0)], .agg [.lit (.int .u8 0), .lit (.int .u8 0)], .agg [.lit (.int .u8 0), .lit (.int .u8 0)], .agg [.lit (.int .u8 0), .lit (.int .u8 0)], .agg [.lit (.int .u8 0), .lit (.int .u8 0)], .agg [.lit (.int .u8 0), .lit (.int .u8 0)], .agg [.lit (.int .u8 0), .lit (.int .u8 0)], .agg [.lit (.int .u8 0), .lit (.int .u8 0)]]
def laid_evergreen_code_reduced {H : Type} : DataW H := .agg [.lit (.int .i64 0), .lit (.int .i64 29), .lit (.int .i64 58), .lit (.int .i64 39), .lit (.int .i64 116), .lit (.int .i64 105), .lit (.int .i64 78), .lit (.int .i64 83), .lit (.int .i64 232), .lit (.int .i64 245), .lit (.int .i64 210), .lit (.int .i64 207), .lit (.int .i64 156), .lit (.int .i64 129), .lit (.int .i64 166), .lit (.int .i64 187)]
/-- One of Go's own tables, pinned by name: the form's constant. -/
def laid_unicode_utf8_first : DataW Unit := Go.Pinned.utf8First

/-- 'evergreenlaw17.CodeMatchesReference': WHATEVER THE INPUT: true; the input reads as it did. -/
def codeMatchesReferenceSpec : ChangeSpec := { name := "codeMatchesReference", fn := fun _ => fun
  | [d1, d2, d3, d4, d5, d6] => { results := [.lit (.bool true)], args := [d1, d2, d3, d4, d5, d6] }
  | _ => none }
def codeMatchesReferenceRow : OpenClaim := { program := "ytacamanakmeebaadoor", sum := "89b04625731e46f2e3d276073d9ff8bb3ae934528a760ad2e2cf932bd6c72184", func := "evergreen/evergreenlaw17.CodeMatchesReference", spec := "codeMatchesReference", inPlace := ["internal/abi.NoEscape", "internal/bytealg.MakeNoZero", "internal/bytealg.IndexByteString", "internal/bytealg.IndexString"], unfollowed := true, recurses := true, named := ["evergreen/code.reduced", "unicode/utf8.first", "unicode/utf8.acceptRanges", "internal/bytealg.MaxLen"], apart := false, laid := [("unicode/utf8.acceptRanges", laid_unicode_utf8_acceptRanges), ("evergreen/code.reduced", laid_evergreen_code_reduced), ("unicode/utf8.first", laid_unicode_utf8_first)] }
def CodeMatchesReferenceSaid : Prop := codeMatchesReferenceRow.holds Tryd.pinned (OpenSpec.ofChange codeMatchesReferenceSpec)

/-- ITS FALSE NEIGHBOUR: 'it returns false'. Refute it at one input. -/
def codeMatchesReferenceWrong : ChangeSpec := { name := "codeMatchesReference", fn := fun _ => fun
  | [d1, d2, d3, d4, d5, d6] => { results := [.lit (.bool false)], args := [d1, d2, d3, d4, d5, d6] }
  | _ => none }
def CodeMatchesReferenceWrongFalsely : Prop := codeMatchesReferenceRow.holds Tryd.pinned (OpenSpec.ofChange codeMatchesReferenceWrong)

/-- 'evergreenlaw17.CodeNumbersMatchReference': WHATEVER THE INPUT: true; the input reads as it did. -/
def codeNumbersMatchReferenceSpec : ChangeSpec := { name := "codeNumbersMatchReference", fn := fun _ => fun
  | [d1, d2] => { results := [.lit (.bool true)], args := [d1, d2] }
  | _ => none }
def codeNumbersMatchReferenceRow : OpenClaim := { program := "ytacamanakmeebaadoor", sum := "89b04625731e46f2e3d276073d9ff8bb3ae934528a760ad2e2cf932bd6c72184", func := "evergreen/evergreenlaw17.CodeNumbersMatchReference", spec := "codeNumbersMatchReference", inPlace := ["internal/abi.NoEscape", "internal/bytealg.MakeNoZero", "internal/bytealg.IndexByteString", "internal/bytealg.IndexString"], unfollowed := true, recurses := true, named := ["evergreen/code.reduced", "unicode/utf8.first", "unicode/utf8.acceptRanges", "internal/bytealg.MaxLen"], apart := false, laid := [("unicode/utf8.acceptRanges", laid_unicode_utf8_acceptRanges), ("evergreen/code.reduced", laid_evergreen_code_reduced), ("unicode/utf8.first", laid_unicode_utf8_first)] }
def CodeNumbersMatchReferenceSaid : Prop := codeNumbersMatchReferenceRow.holds Tryd.pinned (OpenSpec.ofChange codeNumbersMatchReferenceSpec)

/-- ITS FALSE NEIGHBOUR: 'it returns false'. Refute it at one input. -/
def codeNumbersMatchReferenceWrong : ChangeSpec := { name := "codeNumbersMatchReference", fn := fun _ => fun
  | [d1, d2] => { results := [.lit (.bool false)], args := [d1, d2] }
  | _ => none }
def CodeNumbersMatchReferenceWrongFalsely : Prop := codeNumbersMatchReferenceRow.holds Tryd.pinned (OpenSpec.ofChange codeNumbersMatchReferenceWrong)

/-- 'evergreenlaw17.CodeField': WHATEVER THE INPUT: true; the input reads as it did. -/
def codeFieldSpec : ChangeSpec := { name := "codeField", fn := fun _ => fun
  | [d1, d2, d3] => { results := [.lit (.bool true)], args := [d1, d2, d3] }
  | _ => none }
def codeFieldRow : OpenClaim := { program := "ytacamanakmeebaadoor", sum := "89b04625731e46f2e3d276073d9ff8bb3ae934528a760ad2e2cf932bd6c72184", func := "evergreen/evergreenlaw17.CodeField", spec := "codeField", inPlace := ["internal/abi.NoEscape", "internal/bytealg.MakeNoZero", "internal/bytealg.IndexByteString", "internal/bytealg.IndexString"], unfollowed := true, recurses := true, named := ["evergreen/code.reduced", "unicode/utf8.first", "unicode/utf8.acceptRanges", "internal/bytealg.MaxLen"], apart := false, laid := [("unicode/utf8.acceptRanges", laid_unicode_utf8_acceptRanges), ("evergreen/code.reduced", laid_evergreen_code_reduced), ("unicode/utf8.first", laid_unicode_utf8_first)] }
def CodeFieldSaid : Prop := codeFieldRow.holds Tryd.pinned (OpenSpec.ofChange codeFieldSpec)

/-- ITS FALSE NEIGHBOUR: 'it returns false'. Refute it at one input. -/
def codeFieldWrong : ChangeSpec := { name := "codeField", fn := fun _ => fun
  | [d1, d2, d3] => { results := [.lit (.bool false)], args := [d1, d2, d3] }
  | _ => none }
def CodeFieldWrongFalsely : Prop := codeFieldRow.holds Tryd.pinned (OpenSpec.ofChange codeFieldWrong)

/-- 'evergreenlaw17.CodeAny': WHATEVER THE INPUT: true; the input reads as it did. -/
def codeAnySpec : ChangeSpec := { name := "codeAny", fn := fun _ => fun
  | [d1, d2] => { results := [.lit (.bool true)], args := [d1, d2] }
  | _ => none }
def codeAnyRow : OpenClaim := { program := "ytacamanakmeebaadoor", sum := "89b04625731e46f2e3d276073d9ff8bb3ae934528a760ad2e2cf932bd6c72184", func := "evergreen/evergreenlaw17.CodeAny", spec := "codeAny", inPlace := ["internal/abi.NoEscape", "internal/bytealg.MakeNoZero", "internal/bytealg.IndexByteString", "internal/bytealg.IndexString"], unfollowed := true, recurses := true, named := ["evergreen/code.reduced", "unicode/utf8.first", "unicode/utf8.acceptRanges", "internal/bytealg.MaxLen"], apart := false, laid := [("unicode/utf8.acceptRanges", laid_unicode_utf8_acceptRanges), ("evergreen/code.reduced", laid_evergreen_code_reduced), ("unicode/utf8.first", laid_unicode_utf8_first)] }
def CodeAnySaid : Prop := codeAnyRow.holds Tryd.pinned (OpenSpec.ofChange codeAnySpec)

/-- ITS FALSE NEIGHBOUR: 'it returns false'. Refute it at one input. -/
def codeAnyWrong : ChangeSpec := { name := "codeAny", fn := fun _ => fun
  | [d1, d2] => { results := [.lit (.bool false)], args := [d1, d2] }
  | _ => none }
def CodeAnyWrongFalsely : Prop := codeAnyRow.holds Tryd.pinned (OpenSpec.ofChange codeAnyWrong)

/-- 'evergreenlaw17.CodeNoticed': WHATEVER THE INPUT: true; the input reads as it did. -/
def codeNoticedSpec : ChangeSpec := { name := "codeNoticed", fn := fun _ => fun
  | [d1, d2, d3] => { results := [.lit (.bool true)], args := [d1, d2, d3] }
  | _ => none }
def codeNoticedRow : OpenClaim := { program := "ytacamanakmeebaadoor", sum := "89b04625731e46f2e3d276073d9ff8bb3ae934528a760ad2e2cf932bd6c72184", func := "evergreen/evergreenlaw17.CodeNoticed", spec := "codeNoticed", inPlace := ["internal/abi.NoEscape", "internal/bytealg.MakeNoZero", "internal/bytealg.IndexByteString", "internal/bytealg.IndexString"], unfollowed := true, recurses := true, named := ["evergreen/code.reduced", "unicode/utf8.first", "unicode/utf8.acceptRanges", "internal/bytealg.MaxLen"], apart := false, laid := [("unicode/utf8.acceptRanges", laid_unicode_utf8_acceptRanges), ("evergreen/code.reduced", laid_evergreen_code_reduced), ("unicode/utf8.first", laid_unicode_utf8_first)] }
def CodeNoticedSaid : Prop := codeNoticedRow.holds Tryd.pinned (OpenSpec.ofChange codeNoticedSpec)

/-- ITS FALSE NEIGHBOUR: 'it returns false'. Refute it at one input. -/
def codeNoticedWrong : ChangeSpec := { name := "codeNoticed", fn := fun _ => fun
  | [d1, d2, d3] => { results := [.lit (.bool false)], args := [d1, d2, d3] }
  | _ => none }
def CodeNoticedWrongFalsely : Prop := codeNoticedRow.holds Tryd.pinned (OpenSpec.ofChange codeNoticedWrong)

/-- 'evergreenlaw17.CodeNeeded': WHATEVER THE INPUT: true; the input reads as it did. -/
def codeNeededSpec : ChangeSpec := { name := "codeNeeded", fn := fun _ => fun
  | [d1, d2, d3] => { results := [.lit (.bool true)], args := [d1, d2, d3] }
  | _ => none }
def codeNeededRow : OpenClaim := { program := "ytacamanakmeebaadoor", sum := "89b04625731e46f2e3d276073d9ff8bb3ae934528a760ad2e2cf932bd6c72184", func := "evergreen/evergreenlaw17.CodeNeeded", spec := "codeNeeded", inPlace := ["internal/abi.NoEscape", "internal/bytealg.MakeNoZero", "internal/bytealg.IndexByteString", "internal/bytealg.IndexString"], unfollowed := true, recurses := true, named := ["evergreen/code.reduced", "unicode/utf8.first", "unicode/utf8.acceptRanges", "internal/bytealg.MaxLen"], apart := false, laid := [("unicode/utf8.acceptRanges", laid_unicode_utf8_acceptRanges), ("evergreen/code.reduced", laid_evergreen_code_reduced), ("unicode/utf8.first", laid_unicode_utf8_first)] }
def CodeNeededSaid : Prop := codeNeededRow.holds Tryd.pinned (OpenSpec.ofChange codeNeededSpec)

/-- ITS FALSE NEIGHBOUR: 'it returns false'. Refute it at one input. -/
def codeNeededWrong : ChangeSpec := { name := "codeNeeded", fn := fun _ => fun
  | [d1, d2, d3] => { results := [.lit (.bool false)], args := [d1, d2, d3] }
  | _ => none }
def CodeNeededWrongFalsely : Prop := codeNeededRow.holds Tryd.pinned (OpenSpec.ofChange codeNeededWrong)

/-- 'evergreenlaw17.CodeLinear': WHATEVER THE INPUT: true; the input reads as it did. -/
def codeLinearSpec : ChangeSpec := { name := "codeLinear", fn := fun _ => fun
  | [d1, d2] => { results := [.lit (.bool true)], args := [d1, d2] }
  | _ => none }
def codeLinearRow : OpenClaim := { program := "ytacamanakmeebaadoor", sum := "89b04625731e46f2e3d276073d9ff8bb3ae934528a760ad2e2cf932bd6c72184", func := "evergreen/evergreenlaw17.CodeLinear", spec := "codeLinear", inPlace := ["internal/abi.NoEscape", "internal/bytealg.MakeNoZero", "internal/bytealg.IndexByteString", "internal/bytealg.IndexString"], unfollowed := true, recurses := true, named := ["evergreen/code.reduced", "unicode/utf8.first", "unicode/utf8.acceptRanges", "internal/bytealg.MaxLen"], apart := false, laid := [("unicode/utf8.acceptRanges", laid_unicode_utf8_acceptRanges), ("evergreen/code.reduced", laid_evergreen_code_reduced), ("unicode/utf8.first", laid_unicode_utf8_first)] }
def CodeLinearSaid : Prop := codeLinearRow.holds Tryd.pinned (OpenSpec.ofChange codeLinearSpec)

/-- ITS FALSE NEIGHBOUR: 'it returns false'. Refute it at one input. -/
def codeLinearWrong : ChangeSpec := { name := "codeLinear", fn := fun _ => fun
  | [d1, d2] => { results := [.lit (.bool false)], args := [d1, d2] }
  | _ => none }
def CodeLinearWrongFalsely : Prop := codeLinearRow.holds Tryd.pinned (OpenSpec.ofChange codeLinearWrong)

/-- 'evergreenlaw17.CodeFewer': WHATEVER THE INPUT: true; the input reads as it did. -/
def codeFewerSpec : ChangeSpec := { name := "codeFewer", fn := fun _ => fun
  | [d1, d2, d3] => { results := [.lit (.bool true)], args := [d1, d2, d3] }
  | _ => none }
def codeFewerRow : OpenClaim := { program := "ytacamanakmeebaadoor", sum := "89b04625731e46f2e3d276073d9ff8bb3ae934528a760ad2e2cf932bd6c72184", func := "evergreen/evergreenlaw17.CodeFewer", spec := "codeFewer", inPlace := ["internal/abi.NoEscape", "internal/bytealg.MakeNoZero", "internal/bytealg.IndexByteString", "internal/bytealg.IndexString"], unfollowed := true, recurses := true, named := ["evergreen/code.reduced", "unicode/utf8.first", "unicode/utf8.acceptRanges", "internal/bytealg.MaxLen"], apart := false, laid := [("unicode/utf8.acceptRanges", laid_unicode_utf8_acceptRanges), ("evergreen/code.reduced", laid_evergreen_code_reduced), ("unicode/utf8.first", laid_unicode_utf8_first)] }
def CodeFewerSaid : Prop := codeFewerRow.holds Tryd.pinned (OpenSpec.ofChange codeFewerSpec)

/-- ITS FALSE NEIGHBOUR: 'it returns false'. Refute it at one input. -/
def codeFewerWrong : ChangeSpec := { name := "codeFewer", fn := fun _ => fun
  | [d1, d2, d3] => { results := [.lit (.bool false)], args := [d1, d2, d3] }
  | _ => none }
def CodeFewerWrongFalsely : Prop := codeFewerRow.holds Tryd.pinned (OpenSpec.ofChange codeFewerWrong)

/- THE SECOND FORM. 'bulk': how many values and letters a reading holds, each counted each time it is reached (what is shared counts as often as it is met; a slice's spare places count too). A statement '..UptoSaid' is the law's where the arguments, and the package variables that the reading takes, are together of bulk at most 1048576: NARROWER than '..Said'. Prove '..Said' where nothing that the law and all that it calls make is longer than what came in: it says more and counts as full. Else prove '..UptoSaid'. A law counts once. -/
mutual
def uptoBulk {H : Type} : DataW H → Nat
  | .lit (.string bytes) => bytes.length + 1
  | .lit _ => 1
  | .nil => 1
  | .ptr d => uptoBulk d + 1
  | .slice elems spare => uptoBulkAll elems + uptoBulkAll spare + 1
  | .agg parts => uptoBulkAll parts + 1
  | .iface _ d => uptoBulk d + 1
  | .map entries => uptoBulkEntries entries + 1
  | .held _ => 1
def uptoBulkAll {H : Type} : List (DataW H) → Nat
  | [] => 0
  | d :: r => uptoBulk d + uptoBulkAll r
def uptoBulkEntries {H : Type} : List (Lit × DataW H) → Nat
  | [] => 0
  | x :: r => uptoBulkEntry x + uptoBulkEntries r
def uptoBulkEntry {H : Type} : Lit × DataW H → Nat
  | (.string bytes, d) => bytes.length + uptoBulk d + 1
  | (_, d) => uptoBulk d + 1
 end
def uptoSmall : (H : Type) → List (DataW H) → Bool := fun _ ds => decide (uptoBulkAll ds ≤ 1048576)
def OpenSpec.upto (s : _root_.Go.ChangeSpec) : _root_.Go.OpenSpec := { _root_.Go.OpenSpec.ofChange s with cond := some uptoSmall }

/-- 'evergreenlaw17.CodeMatchesReference', WHERE WHAT IT READS IS OF BULK AT MOST 1048576: true; the input reads as it did. -/
def codeMatchesReferenceUptoRow : OpenClaim := { program := "ytacamanakmeebaadoor", sum := "89b04625731e46f2e3d276073d9ff8bb3ae934528a760ad2e2cf932bd6c72184", func := "evergreen/evergreenlaw17.CodeMatchesReference", spec := "codeMatchesReference", inPlace := ["internal/abi.NoEscape", "internal/bytealg.MakeNoZero", "internal/bytealg.IndexByteString", "internal/bytealg.IndexString"], unfollowed := true, recurses := true, named := ["evergreen/code.reduced", "unicode/utf8.first", "unicode/utf8.acceptRanges", "internal/bytealg.MaxLen"], apart := false, laid := [("unicode/utf8.acceptRanges", laid_unicode_utf8_acceptRanges), ("evergreen/code.reduced", laid_evergreen_code_reduced), ("unicode/utf8.first", laid_unicode_utf8_first)], narrowed := true }
def CodeMatchesReferenceUptoSaid : Prop := codeMatchesReferenceUptoRow.holds Tryd.pinned (OpenSpec.upto codeMatchesReferenceSpec)

/-- 'evergreenlaw17.CodeNumbersMatchReference', WHERE WHAT IT READS IS OF BULK AT MOST 1048576: true; the input reads as it did. -/
def codeNumbersMatchReferenceUptoRow : OpenClaim := { program := "ytacamanakmeebaadoor", sum := "89b04625731e46f2e3d276073d9ff8bb3ae934528a760ad2e2cf932bd6c72184", func := "evergreen/evergreenlaw17.CodeNumbersMatchReference", spec := "codeNumbersMatchReference", inPlace := ["internal/abi.NoEscape", "internal/bytealg.MakeNoZero", "internal/bytealg.IndexByteString", "internal/bytealg.IndexString"], unfollowed := true, recurses := true, named := ["evergreen/code.reduced", "unicode/utf8.first", "unicode/utf8.acceptRanges", "internal/bytealg.MaxLen"], apart := false, laid := [("unicode/utf8.acceptRanges", laid_unicode_utf8_acceptRanges), ("evergreen/code.reduced", laid_evergreen_code_reduced), ("unicode/utf8.first", laid_unicode_utf8_first)], narrowed := true }
def CodeNumbersMatchReferenceUptoSaid : Prop := codeNumbersMatchReferenceUptoRow.holds Tryd.pinned (OpenSpec.upto codeNumbersMatchReferenceSpec)

/-- 'evergreenlaw17.CodeField', WHERE WHAT IT READS IS OF BULK AT MOST 1048576: true; the input reads as it did. -/
def codeFieldUptoRow : OpenClaim := { program := "ytacamanakmeebaadoor", sum := "89b04625731e46f2e3d276073d9ff8bb3ae934528a760ad2e2cf932bd6c72184", func := "evergreen/evergreenlaw17.CodeField", spec := "codeField", inPlace := ["internal/abi.NoEscape", "internal/bytealg.MakeNoZero", "internal/bytealg.IndexByteString", "internal/bytealg.IndexString"], unfollowed := true, recurses := true, named := ["evergreen/code.reduced", "unicode/utf8.first", "unicode/utf8.acceptRanges", "internal/bytealg.MaxLen"], apart := false, laid := [("unicode/utf8.acceptRanges", laid_unicode_utf8_acceptRanges), ("evergreen/code.reduced", laid_evergreen_code_reduced), ("unicode/utf8.first", laid_unicode_utf8_first)], narrowed := true }
def CodeFieldUptoSaid : Prop := codeFieldUptoRow.holds Tryd.pinned (OpenSpec.upto codeFieldSpec)

/-- 'evergreenlaw17.CodeAny', WHERE WHAT IT READS IS OF BULK AT MOST 1048576: true; the input reads as it did. -/
def codeAnyUptoRow : OpenClaim := { program := "ytacamanakmeebaadoor", sum := "89b04625731e46f2e3d276073d9ff8bb3ae934528a760ad2e2cf932bd6c72184", func := "evergreen/evergreenlaw17.CodeAny", spec := "codeAny", inPlace := ["internal/abi.NoEscape", "internal/bytealg.MakeNoZero", "internal/bytealg.IndexByteString", "internal/bytealg.IndexString"], unfollowed := true, recurses := true, named := ["evergreen/code.reduced", "unicode/utf8.first", "unicode/utf8.acceptRanges", "internal/bytealg.MaxLen"], apart := false, laid := [("unicode/utf8.acceptRanges", laid_unicode_utf8_acceptRanges), ("evergreen/code.reduced", laid_evergreen_code_reduced), ("unicode/utf8.first", laid_unicode_utf8_first)], narrowed := true }
def CodeAnyUptoSaid : Prop := codeAnyUptoRow.holds Tryd.pinned (OpenSpec.upto codeAnySpec)

/-- 'evergreenlaw17.CodeNoticed', WHERE WHAT IT READS IS OF BULK AT MOST 1048576: true; the input reads as it did. -/
def codeNoticedUptoRow : OpenClaim := { program := "ytacamanakmeebaadoor", sum := "89b04625731e46f2e3d276073d9ff8bb3ae934528a760ad2e2cf932bd6c72184", func := "evergreen/evergreenlaw17.CodeNoticed", spec := "codeNoticed", inPlace := ["internal/abi.NoEscape", "internal/bytealg.MakeNoZero", "internal/bytealg.IndexByteString", "internal/bytealg.IndexString"], unfollowed := true, recurses := true, named := ["evergreen/code.reduced", "unicode/utf8.first", "unicode/utf8.acceptRanges", "internal/bytealg.MaxLen"], apart := false, laid := [("unicode/utf8.acceptRanges", laid_unicode_utf8_acceptRanges), ("evergreen/code.reduced", laid_evergreen_code_reduced), ("unicode/utf8.first", laid_unicode_utf8_first)], narrowed := true }
def CodeNoticedUptoSaid : Prop := codeNoticedUptoRow.holds Tryd.pinned (OpenSpec.upto codeNoticedSpec)

/-- 'evergreenlaw17.CodeNeeded', WHERE WHAT IT READS IS OF BULK AT MOST 1048576: true; the input reads as it did. -/
def codeNeededUptoRow : OpenClaim := { program := "ytacamanakmeebaadoor", sum := "89b04625731e46f2e3d276073d9ff8bb3ae934528a760ad2e2cf932bd6c72184", func := "evergreen/evergreenlaw17.CodeNeeded", spec := "codeNeeded", inPlace := ["internal/abi.NoEscape", "internal/bytealg.MakeNoZero", "internal/bytealg.IndexByteString", "internal/bytealg.IndexString"], unfollowed := true, recurses := true, named := ["evergreen/code.reduced", "unicode/utf8.first", "unicode/utf8.acceptRanges", "internal/bytealg.MaxLen"], apart := false, laid := [("unicode/utf8.acceptRanges", laid_unicode_utf8_acceptRanges), ("evergreen/code.reduced", laid_evergreen_code_reduced), ("unicode/utf8.first", laid_unicode_utf8_first)], narrowed := true }
def CodeNeededUptoSaid : Prop := codeNeededUptoRow.holds Tryd.pinned (OpenSpec.upto codeNeededSpec)

/-- 'evergreenlaw17.CodeLinear', WHERE WHAT IT READS IS OF BULK AT MOST 1048576: true; the input reads as it did. -/
def codeLinearUptoRow : OpenClaim := { program := "ytacamanakmeebaadoor", sum := "89b04625731e46f2e3d276073d9ff8bb3ae934528a760ad2e2cf932bd6c72184", func := "evergreen/evergreenlaw17.CodeLinear", spec := "codeLinear", inPlace := ["internal/abi.NoEscape", "internal/bytealg.MakeNoZero", "internal/bytealg.IndexByteString", "internal/bytealg.IndexString"], unfollowed := true, recurses := true, named := ["evergreen/code.reduced", "unicode/utf8.first", "unicode/utf8.acceptRanges", "internal/bytealg.MaxLen"], apart := false, laid := [("unicode/utf8.acceptRanges", laid_unicode_utf8_acceptRanges), ("evergreen/code.reduced", laid_evergreen_code_reduced), ("unicode/utf8.first", laid_unicode_utf8_first)], narrowed := true }
def CodeLinearUptoSaid : Prop := codeLinearUptoRow.holds Tryd.pinned (OpenSpec.upto codeLinearSpec)

/-- 'evergreenlaw17.CodeFewer', WHERE WHAT IT READS IS OF BULK AT MOST 1048576: true; the input reads as it did. -/
def codeFewerUptoRow : OpenClaim := { program := "ytacamanakmeebaadoor", sum := "89b04625731e46f2e3d276073d9ff8bb3ae934528a760ad2e2cf932bd6c72184", func := "evergreen/evergreenlaw17.CodeFewer", spec := "codeFewer", inPlace := ["internal/abi.NoEscape", "internal/bytealg.MakeNoZero", "internal/bytealg.IndexByteString", "internal/bytealg.IndexString"], unfollowed := true, recurses := true, named := ["evergreen/code.reduced", "unicode/utf8.first", "unicode/utf8.acceptRanges", "internal/bytealg.MaxLen"], apart := false, laid := [("unicode/utf8.acceptRanges", laid_unicode_utf8_acceptRanges), ("evergreen/code.reduced", laid_evergreen_code_reduced), ("unicode/utf8.first", laid_unicode_utf8_first)], narrowed := true }
def CodeFewerUptoSaid : Prop := codeFewerUptoRow.holds Tryd.pinned (OpenSpec.upto codeFewerSpec)

end Rows
end Go.Proofs.YtacamanakmeebaaDoor
