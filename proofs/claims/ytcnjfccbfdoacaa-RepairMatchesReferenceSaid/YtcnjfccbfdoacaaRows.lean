/-
  No cell of these rows narrows 'for every input' (looked for: loops, veiled, ifaces, maps, wideKeys, modest, calm, conditions, laid).
  DERIVED. THE GIVEN ROWS OF THIS SEAT. 7 by the template 'for every input the law returns true; each argument reads behind the call as it read before'; 0 by the template 'total and deterministic' (their statements: YtcnjfccbfdoacaaTotals.lean).
  GIVEN WITH THE SEED: the statements are not yours to turn. If you find one false, say at which input.
  Laid BY PROGRAM, IN A SANDBOX (cutbox-rows.mjs): the forced cells as the released guide's own fill.sh prints them over the translation b6a51c2b586b0162… (all of the seat's roots in one cut). By AI agents, Wed Nov 11 2026. No macro, syntax, notation, axiom, sorry.
-/
import Derived.Test.YtcnjfccbfdoacaaChecked
import GoSem.Claim
import GoSem.ClaimJoined
import GoSem.ClaimMapViews
import Derived.JoinedTies
import Derived.KernelRfl
namespace Go.Proofs.Ytcnjfccbfdoacaa
/- THE CELL 'sum', in the pinned program and in every row, IS THE sha256 OF THE DUMP (.gsa) THAT YtcnjfccbfdoacaaProg.lean LOADS. Nothing in Lean hashes anything: it is a label: what it is worth is what the hold of that sum in a sandbox is worth. -/
noncomputable def Try.pinned : Pinned := { name := "ytcnjfccbfdoacaa", sum := "b6a51c2b586b016250038d264939827f2349457d6cf18136d37ef4d51255682b", checked := Try.checked }
namespace Rows
def none {H : Type} : Left H := { results := [], args := [] }

/-- 'evergreenlaw19.RepairMatchesReference': WHATEVER THE INPUT: true; the input reads as it did. -/
def repairMatchesReferenceSpec : ChangeSpec := { name := "repairMatchesReference", fn := fun _ => fun
  | [d1, d2, d3, d4, d5, d6, d7, d8, d9] => { results := [.lit (.bool true)], args := [d1, d2, d3, d4, d5, d6, d7, d8, d9] }
  | _ => none }
def repairMatchesReferenceRow : OpenClaim := { program := "ytcnjfccbfdoacaa", sum := "b6a51c2b586b016250038d264939827f2349457d6cf18136d37ef4d51255682b", func := "evergreen/evergreenlaw19.RepairMatchesReference", spec := "repairMatchesReference", unfollowed := true, recurses := true, plainKeys := false, apart := false }
def RepairMatchesReferenceSaid : Prop := repairMatchesReferenceRow.holds Try.pinned (OpenSpec.ofChange repairMatchesReferenceSpec)

/-- ITS FALSE NEIGHBOUR: 'it returns false'. Refute it at one input. -/
def repairMatchesReferenceWrong : ChangeSpec := { name := "repairMatchesReference", fn := fun _ => fun
  | [d1, d2, d3, d4, d5, d6, d7, d8, d9] => { results := [.lit (.bool false)], args := [d1, d2, d3, d4, d5, d6, d7, d8, d9] }
  | _ => none }
def RepairMatchesReferenceWrongFalsely : Prop := repairMatchesReferenceRow.holds Try.pinned (OpenSpec.ofChange repairMatchesReferenceWrong)

/-- 'evergreenlaw19.RepairPermitted': WHATEVER THE INPUT: true; the input reads as it did. -/
def repairPermittedSpec : ChangeSpec := { name := "repairPermitted", fn := fun _ => fun
  | [d1, d2] => { results := [.lit (.bool true)], args := [d1, d2] }
  | _ => none }
def repairPermittedRow : OpenClaim := { program := "ytcnjfccbfdoacaa", sum := "b6a51c2b586b016250038d264939827f2349457d6cf18136d37ef4d51255682b", func := "evergreen/evergreenlaw19.RepairPermitted", spec := "repairPermitted", unfollowed := true, recurses := true, plainKeys := false, apart := false }
def RepairPermittedSaid : Prop := repairPermittedRow.holds Try.pinned (OpenSpec.ofChange repairPermittedSpec)

/-- ITS FALSE NEIGHBOUR: 'it returns false'. Refute it at one input. -/
def repairPermittedWrong : ChangeSpec := { name := "repairPermitted", fn := fun _ => fun
  | [d1, d2] => { results := [.lit (.bool false)], args := [d1, d2] }
  | _ => none }
def RepairPermittedWrongFalsely : Prop := repairPermittedRow.holds Try.pinned (OpenSpec.ofChange repairPermittedWrong)

/-- 'evergreenlaw19.RepairFewest': WHATEVER THE INPUT: true; the input reads as it did. -/
def repairFewestSpec : ChangeSpec := { name := "repairFewest", fn := fun _ => fun
  | [d1, d2, d3] => { results := [.lit (.bool true)], args := [d1, d2, d3] }
  | _ => none }
def repairFewestRow : OpenClaim := { program := "ytcnjfccbfdoacaa", sum := "b6a51c2b586b016250038d264939827f2349457d6cf18136d37ef4d51255682b", func := "evergreen/evergreenlaw19.RepairFewest", spec := "repairFewest", unfollowed := true, recurses := true, plainKeys := false, apart := false }
def RepairFewestSaid : Prop := repairFewestRow.holds Try.pinned (OpenSpec.ofChange repairFewestSpec)

/-- ITS FALSE NEIGHBOUR: 'it returns false'. Refute it at one input. -/
def repairFewestWrong : ChangeSpec := { name := "repairFewest", fn := fun _ => fun
  | [d1, d2, d3] => { results := [.lit (.bool false)], args := [d1, d2, d3] }
  | _ => none }
def RepairFewestWrongFalsely : Prop := repairFewestRow.holds Try.pinned (OpenSpec.ofChange repairFewestWrong)

/-- 'evergreenlaw19.RepairDays': WHATEVER THE INPUT: true; the input reads as it did. -/
def repairDaysSpec : ChangeSpec := { name := "repairDays", fn := fun _ => fun
  | [d1, d2] => { results := [.lit (.bool true)], args := [d1, d2] }
  | _ => none }
def repairDaysRow : OpenClaim := { program := "ytcnjfccbfdoacaa", sum := "b6a51c2b586b016250038d264939827f2349457d6cf18136d37ef4d51255682b", func := "evergreen/evergreenlaw19.RepairDays", spec := "repairDays", unfollowed := true, recurses := true, plainKeys := false, apart := false }
def RepairDaysSaid : Prop := repairDaysRow.holds Try.pinned (OpenSpec.ofChange repairDaysSpec)

/-- ITS FALSE NEIGHBOUR: 'it returns false'. Refute it at one input. -/
def repairDaysWrong : ChangeSpec := { name := "repairDays", fn := fun _ => fun
  | [d1, d2] => { results := [.lit (.bool false)], args := [d1, d2] }
  | _ => none }
def RepairDaysWrongFalsely : Prop := repairDaysRow.holds Try.pinned (OpenSpec.ofChange repairDaysWrong)

/-- 'evergreenlaw19.RepairInterrupted': WHATEVER THE INPUT: true; the input reads as it did. -/
def repairInterruptedSpec : ChangeSpec := { name := "repairInterrupted", fn := fun _ => fun
  | [d1, d2, d3] => { results := [.lit (.bool true)], args := [d1, d2, d3] }
  | _ => none }
def repairInterruptedRow : OpenClaim := { program := "ytcnjfccbfdoacaa", sum := "b6a51c2b586b016250038d264939827f2349457d6cf18136d37ef4d51255682b", func := "evergreen/evergreenlaw19.RepairInterrupted", spec := "repairInterrupted", unfollowed := true, recurses := true, plainKeys := false, apart := false }
def RepairInterruptedSaid : Prop := repairInterruptedRow.holds Try.pinned (OpenSpec.ofChange repairInterruptedSpec)

/-- ITS FALSE NEIGHBOUR: 'it returns false'. Refute it at one input. -/
def repairInterruptedWrong : ChangeSpec := { name := "repairInterrupted", fn := fun _ => fun
  | [d1, d2, d3] => { results := [.lit (.bool false)], args := [d1, d2, d3] }
  | _ => none }
def RepairInterruptedWrongFalsely : Prop := repairInterruptedRow.holds Try.pinned (OpenSpec.ofChange repairInterruptedWrong)

/-- 'evergreenlaw19.RepairWider': WHATEVER THE INPUT: true; the input reads as it did. -/
def repairWiderSpec : ChangeSpec := { name := "repairWider", fn := fun _ => fun
  | [d1, d2, d3, d4] => { results := [.lit (.bool true)], args := [d1, d2, d3, d4] }
  | _ => none }
def repairWiderRow : OpenClaim := { program := "ytcnjfccbfdoacaa", sum := "b6a51c2b586b016250038d264939827f2349457d6cf18136d37ef4d51255682b", func := "evergreen/evergreenlaw19.RepairWider", spec := "repairWider", unfollowed := true, recurses := true, plainKeys := false, apart := false }
def RepairWiderSaid : Prop := repairWiderRow.holds Try.pinned (OpenSpec.ofChange repairWiderSpec)

/-- ITS FALSE NEIGHBOUR: 'it returns false'. Refute it at one input. -/
def repairWiderWrong : ChangeSpec := { name := "repairWider", fn := fun _ => fun
  | [d1, d2, d3, d4] => { results := [.lit (.bool false)], args := [d1, d2, d3, d4] }
  | _ => none }
def RepairWiderWrongFalsely : Prop := repairWiderRow.holds Try.pinned (OpenSpec.ofChange repairWiderWrong)

/-- 'evergreenlaw19.RepairBalanced': WHATEVER THE INPUT: true; the input reads as it did. -/
def repairBalancedSpec : ChangeSpec := { name := "repairBalanced", fn := fun _ => fun
  | [d1, d2] => { results := [.lit (.bool true)], args := [d1, d2] }
  | _ => none }
def repairBalancedRow : OpenClaim := { program := "ytcnjfccbfdoacaa", sum := "b6a51c2b586b016250038d264939827f2349457d6cf18136d37ef4d51255682b", func := "evergreen/evergreenlaw19.RepairBalanced", spec := "repairBalanced", unfollowed := true, recurses := true, plainKeys := false, apart := false }
def RepairBalancedSaid : Prop := repairBalancedRow.holds Try.pinned (OpenSpec.ofChange repairBalancedSpec)

/-- ITS FALSE NEIGHBOUR: 'it returns false'. Refute it at one input. -/
def repairBalancedWrong : ChangeSpec := { name := "repairBalanced", fn := fun _ => fun
  | [d1, d2] => { results := [.lit (.bool false)], args := [d1, d2] }
  | _ => none }
def RepairBalancedWrongFalsely : Prop := repairBalancedRow.holds Try.pinned (OpenSpec.ofChange repairBalancedWrong)

/- THE SECOND FORM. 'bulk': how many values and letters a reading holds, each counted each time it is reached (what is shared counts as often as it is met; a slice's spare places count too). A statement '..UptoSaid' is the law's where the arguments, and the package variables that the reading takes, are together of bulk at most 1048576: NARROWER than '..Said'. Prove '..Said' where nothing that the law and all that it calls make is longer than what came in: it says more and counts as full. Else prove '..UptoSaid'. A law counts once. -/
mutual
def uptoBulk {H : Type} : DataW H → Nat
  | .lit (.string bytes) => bytes.length + 1
  | .lit _ => 1
  | .nil => 1
  | .ptr d => uptoBulk d + 1
  | .slice elems spare => uptoBulkAll elems + uptoBulkAll spare + 1
  | .agg parts => uptoBulkAll parts + 1
  | .iface _ d => uptoBulk d + 1
  | .map entries => uptoBulkEntries entries + 1
  | .held _ => 1
def uptoBulkAll {H : Type} : List (DataW H) → Nat
  | [] => 0
  | d :: r => uptoBulk d + uptoBulkAll r
def uptoBulkEntries {H : Type} : List (Lit × DataW H) → Nat
  | [] => 0
  | x :: r => uptoBulkEntry x + uptoBulkEntries r
def uptoBulkEntry {H : Type} : Lit × DataW H → Nat
  | (.string bytes, d) => bytes.length + uptoBulk d + 1
  | (_, d) => uptoBulk d + 1
 end
def uptoSmall : (H : Type) → List (DataW H) → Bool := fun _ ds => decide (uptoBulkAll ds ≤ 1048576)
def OpenSpec.upto (s : _root_.Go.ChangeSpec) : _root_.Go.OpenSpec := { _root_.Go.OpenSpec.ofChange s with cond := some uptoSmall }

/-- 'evergreenlaw19.RepairMatchesReference', WHERE WHAT IT READS IS OF BULK AT MOST 1048576: true; the input reads as it did. -/
def repairMatchesReferenceUptoRow : OpenClaim := { program := "ytcnjfccbfdoacaa", sum := "b6a51c2b586b016250038d264939827f2349457d6cf18136d37ef4d51255682b", func := "evergreen/evergreenlaw19.RepairMatchesReference", spec := "repairMatchesReference", unfollowed := true, recurses := true, plainKeys := false, apart := false, narrowed := true }
def RepairMatchesReferenceUptoSaid : Prop := repairMatchesReferenceUptoRow.holds Try.pinned (OpenSpec.upto repairMatchesReferenceSpec)

/-- 'evergreenlaw19.RepairPermitted', WHERE WHAT IT READS IS OF BULK AT MOST 1048576: true; the input reads as it did. -/
def repairPermittedUptoRow : OpenClaim := { program := "ytcnjfccbfdoacaa", sum := "b6a51c2b586b016250038d264939827f2349457d6cf18136d37ef4d51255682b", func := "evergreen/evergreenlaw19.RepairPermitted", spec := "repairPermitted", unfollowed := true, recurses := true, plainKeys := false, apart := false, narrowed := true }
def RepairPermittedUptoSaid : Prop := repairPermittedUptoRow.holds Try.pinned (OpenSpec.upto repairPermittedSpec)

/-- 'evergreenlaw19.RepairFewest', WHERE WHAT IT READS IS OF BULK AT MOST 1048576: true; the input reads as it did. -/
def repairFewestUptoRow : OpenClaim := { program := "ytcnjfccbfdoacaa", sum := "b6a51c2b586b016250038d264939827f2349457d6cf18136d37ef4d51255682b", func := "evergreen/evergreenlaw19.RepairFewest", spec := "repairFewest", unfollowed := true, recurses := true, plainKeys := false, apart := false, narrowed := true }
def RepairFewestUptoSaid : Prop := repairFewestUptoRow.holds Try.pinned (OpenSpec.upto repairFewestSpec)

/-- 'evergreenlaw19.RepairDays', WHERE WHAT IT READS IS OF BULK AT MOST 1048576: true; the input reads as it did. -/
def repairDaysUptoRow : OpenClaim := { program := "ytcnjfccbfdoacaa", sum := "b6a51c2b586b016250038d264939827f2349457d6cf18136d37ef4d51255682b", func := "evergreen/evergreenlaw19.RepairDays", spec := "repairDays", unfollowed := true, recurses := true, plainKeys := false, apart := false, narrowed := true }
def RepairDaysUptoSaid : Prop := repairDaysUptoRow.holds Try.pinned (OpenSpec.upto repairDaysSpec)

/-- 'evergreenlaw19.RepairInterrupted', WHERE WHAT IT READS IS OF BULK AT MOST 1048576: true; the input reads as it did. -/
def repairInterruptedUptoRow : OpenClaim := { program := "ytcnjfccbfdoacaa", sum := "b6a51c2b586b016250038d264939827f2349457d6cf18136d37ef4d51255682b", func := "evergreen/evergreenlaw19.RepairInterrupted", spec := "repairInterrupted", unfollowed := true, recurses := true, plainKeys := false, apart := false, narrowed := true }
def RepairInterruptedUptoSaid : Prop := repairInterruptedUptoRow.holds Try.pinned (OpenSpec.upto repairInterruptedSpec)

/-- 'evergreenlaw19.RepairWider', WHERE WHAT IT READS IS OF BULK AT MOST 1048576: true; the input reads as it did. -/
def repairWiderUptoRow : OpenClaim := { program := "ytcnjfccbfdoacaa", sum := "b6a51c2b586b016250038d264939827f2349457d6cf18136d37ef4d51255682b", func := "evergreen/evergreenlaw19.RepairWider", spec := "repairWider", unfollowed := true, recurses := true, plainKeys := false, apart := false, narrowed := true }
def RepairWiderUptoSaid : Prop := repairWiderUptoRow.holds Try.pinned (OpenSpec.upto repairWiderSpec)

/-- 'evergreenlaw19.RepairBalanced', WHERE WHAT IT READS IS OF BULK AT MOST 1048576: true; the input reads as it did. -/
def repairBalancedUptoRow : OpenClaim := { program := "ytcnjfccbfdoacaa", sum := "b6a51c2b586b016250038d264939827f2349457d6cf18136d37ef4d51255682b", func := "evergreen/evergreenlaw19.RepairBalanced", spec := "repairBalanced", unfollowed := true, recurses := true, plainKeys := false, apart := false, narrowed := true }
def RepairBalancedUptoSaid : Prop := repairBalancedUptoRow.holds Try.pinned (OpenSpec.upto repairBalancedSpec)

end Rows
end Go.Proofs.Ytcnjfccbfdoacaa
