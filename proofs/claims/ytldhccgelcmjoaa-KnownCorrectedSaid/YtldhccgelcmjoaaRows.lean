/-
  No cell of these rows narrows 'for every input' (looked for: loops, veiled, ifaces, maps, wideKeys, modest, calm, conditions, laid).
  DERIVED. THE GIVEN ROWS OF THIS SEAT. 3 by the template 'for every input the law returns true; each argument reads behind the call as it read before'; 0 by the template 'total and deterministic' (their statements: YtldhccgelcmjoaaTotals.lean).
  GIVEN WITH THE SEED: the statements are not yours to turn. If you find one false, say at which input.
  Laid BY PROGRAM, IN A SANDBOX (cutbox-rows.mjs): the forced cells as the released guide's own fill.sh prints them over the translation 813a8e692c7e0433… (all of the seat's roots in one cut). By AI agents, Wed Nov 11 2026. No macro, syntax, notation, axiom, sorry.
-/
import Derived.Test.YtldhccgelcmjoaaChecked
import GoSem.Claim
import GoSem.ClaimJoined
import GoSem.ClaimMapViews
import Derived.JoinedTies
import Derived.KernelRfl
namespace Go.Proofs.Ytldhccgelcmjoaa
/- THE CELL 'sum', in the pinned program and in every row, IS THE sha256 OF THE DUMP (.gsa) THAT YtldhccgelcmjoaaProg.lean LOADS. Nothing in Lean hashes anything: it is a label: what it is worth is what the hold of that sum in a sandbox is worth. -/
noncomputable def Try.pinned : Pinned := { name := "ytldhccgelcmjoaa", sum := "813a8e692c7e04336e0774a81157c2e40d83cd6fd793a7587b78fbcddffc04bc", checked := Try.checked }
namespace Rows
def none {H : Type} : Left H := { results := [], args := [] }

/-- 'evergreenlaw21.KnownCorrected': WHATEVER THE INPUT: true; the input reads as it did. -/
def knownCorrectedSpec : ChangeSpec := { name := "knownCorrected", fn := fun _ => fun
  | [d1, d2, d3, d4, d5] => { results := [.lit (.bool true)], args := [d1, d2, d3, d4, d5] }
  | _ => none }
def knownCorrectedRow : OpenClaim := { program := "ytldhccgelcmjoaa", sum := "813a8e692c7e04336e0774a81157c2e40d83cd6fd793a7587b78fbcddffc04bc", func := "evergreen/evergreenlaw21.KnownCorrected", spec := "knownCorrected", inPlace := ["internal/abi.NoEscape"], unfollowed := true, recurses := true, apart := false }
def KnownCorrectedSaid : Prop := knownCorrectedRow.holds Try.pinned (OpenSpec.ofChange knownCorrectedSpec)

/-- ITS FALSE NEIGHBOUR: 'it returns false'. Refute it at one input. -/
def knownCorrectedWrong : ChangeSpec := { name := "knownCorrected", fn := fun _ => fun
  | [d1, d2, d3, d4, d5] => { results := [.lit (.bool false)], args := [d1, d2, d3, d4, d5] }
  | _ => none }
def KnownCorrectedWrongFalsely : Prop := knownCorrectedRow.holds Try.pinned (OpenSpec.ofChange knownCorrectedWrong)

/-- 'evergreenlaw21.KnownHolds': WHATEVER THE INPUT: true; the input reads as it did. -/
def knownHoldsSpec : ChangeSpec := { name := "knownHolds", fn := fun _ => fun
  | [d1, d2, d3, d4, d5, d6] => { results := [.lit (.bool true)], args := [d1, d2, d3, d4, d5, d6] }
  | _ => none }
def knownHoldsRow : OpenClaim := { program := "ytldhccgelcmjoaa", sum := "813a8e692c7e04336e0774a81157c2e40d83cd6fd793a7587b78fbcddffc04bc", func := "evergreen/evergreenlaw21.KnownHolds", spec := "knownHolds", inPlace := ["internal/abi.NoEscape"], unfollowed := true, recurses := true, apart := false }
def KnownHoldsSaid : Prop := knownHoldsRow.holds Try.pinned (OpenSpec.ofChange knownHoldsSpec)

/-- ITS FALSE NEIGHBOUR: 'it returns false'. Refute it at one input. -/
def knownHoldsWrong : ChangeSpec := { name := "knownHolds", fn := fun _ => fun
  | [d1, d2, d3, d4, d5, d6] => { results := [.lit (.bool false)], args := [d1, d2, d3, d4, d5, d6] }
  | _ => none }
def KnownHoldsWrongFalsely : Prop := knownHoldsRow.holds Try.pinned (OpenSpec.ofChange knownHoldsWrong)

/-- 'evergreenlaw21.KnownSpans': WHATEVER THE INPUT: true; the input reads as it did. -/
def knownSpansSpec : ChangeSpec := { name := "knownSpans", fn := fun _ => fun
  | [d1, d2, d3, d4] => { results := [.lit (.bool true)], args := [d1, d2, d3, d4] }
  | _ => none }
def knownSpansRow : OpenClaim := { program := "ytldhccgelcmjoaa", sum := "813a8e692c7e04336e0774a81157c2e40d83cd6fd793a7587b78fbcddffc04bc", func := "evergreen/evergreenlaw21.KnownSpans", spec := "knownSpans", inPlace := ["internal/abi.NoEscape"], unfollowed := true, recurses := true, apart := false }
def KnownSpansSaid : Prop := knownSpansRow.holds Try.pinned (OpenSpec.ofChange knownSpansSpec)

/-- ITS FALSE NEIGHBOUR: 'it returns false'. Refute it at one input. -/
def knownSpansWrong : ChangeSpec := { name := "knownSpans", fn := fun _ => fun
  | [d1, d2, d3, d4] => { results := [.lit (.bool false)], args := [d1, d2, d3, d4] }
  | _ => none }
def KnownSpansWrongFalsely : Prop := knownSpansRow.holds Try.pinned (OpenSpec.ofChange knownSpansWrong)

/- THE SECOND FORM. 'bulk': how many values and letters a reading holds, each counted each time it is reached (what is shared counts as often as it is met; a slice's spare places count too). A statement '..UptoSaid' is the law's where the arguments, and the package variables that the reading takes, are together of bulk at most 1048576: NARROWER than '..Said'. Prove '..Said' where nothing that the law and all that it calls make is longer than what came in: it says more and counts as full. Else prove '..UptoSaid'. A law counts once. -/
mutual
def uptoBulk {H : Type} : DataW H → Nat
  | .lit (.string bytes) => bytes.length + 1
  | .lit _ => 1
  | .nil => 1
  | .ptr d => uptoBulk d + 1
  | .slice elems spare => uptoBulkAll elems + uptoBulkAll spare + 1
  | .agg parts => uptoBulkAll parts + 1
  | .iface _ d => uptoBulk d + 1
  | .map entries => uptoBulkEntries entries + 1
  | .held _ => 1
def uptoBulkAll {H : Type} : List (DataW H) → Nat
  | [] => 0
  | d :: r => uptoBulk d + uptoBulkAll r
def uptoBulkEntries {H : Type} : List (Lit × DataW H) → Nat
  | [] => 0
  | x :: r => uptoBulkEntry x + uptoBulkEntries r
def uptoBulkEntry {H : Type} : Lit × DataW H → Nat
  | (.string bytes, d) => bytes.length + uptoBulk d + 1
  | (_, d) => uptoBulk d + 1
 end
def uptoSmall : (H : Type) → List (DataW H) → Bool := fun _ ds => decide (uptoBulkAll ds ≤ 1048576)
def OpenSpec.upto (s : _root_.Go.ChangeSpec) : _root_.Go.OpenSpec := { _root_.Go.OpenSpec.ofChange s with cond := some uptoSmall }

/-- 'evergreenlaw21.KnownCorrected', WHERE WHAT IT READS IS OF BULK AT MOST 1048576: true; the input reads as it did. -/
def knownCorrectedUptoRow : OpenClaim := { program := "ytldhccgelcmjoaa", sum := "813a8e692c7e04336e0774a81157c2e40d83cd6fd793a7587b78fbcddffc04bc", func := "evergreen/evergreenlaw21.KnownCorrected", spec := "knownCorrected", inPlace := ["internal/abi.NoEscape"], unfollowed := true, recurses := true, apart := false, narrowed := true }
def KnownCorrectedUptoSaid : Prop := knownCorrectedUptoRow.holds Try.pinned (OpenSpec.upto knownCorrectedSpec)

/-- 'evergreenlaw21.KnownHolds', WHERE WHAT IT READS IS OF BULK AT MOST 1048576: true; the input reads as it did. -/
def knownHoldsUptoRow : OpenClaim := { program := "ytldhccgelcmjoaa", sum := "813a8e692c7e04336e0774a81157c2e40d83cd6fd793a7587b78fbcddffc04bc", func := "evergreen/evergreenlaw21.KnownHolds", spec := "knownHolds", inPlace := ["internal/abi.NoEscape"], unfollowed := true, recurses := true, apart := false, narrowed := true }
def KnownHoldsUptoSaid : Prop := knownHoldsUptoRow.holds Try.pinned (OpenSpec.upto knownHoldsSpec)

/-- 'evergreenlaw21.KnownSpans', WHERE WHAT IT READS IS OF BULK AT MOST 1048576: true; the input reads as it did. -/
def knownSpansUptoRow : OpenClaim := { program := "ytldhccgelcmjoaa", sum := "813a8e692c7e04336e0774a81157c2e40d83cd6fd793a7587b78fbcddffc04bc", func := "evergreen/evergreenlaw21.KnownSpans", spec := "knownSpans", inPlace := ["internal/abi.NoEscape"], unfollowed := true, recurses := true, apart := false, narrowed := true }
def KnownSpansUptoSaid : Prop := knownSpansUptoRow.holds Try.pinned (OpenSpec.upto knownSpansSpec)

end Rows
end Go.Proofs.Ytldhccgelcmjoaa
