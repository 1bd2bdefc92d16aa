/-
  No cell of these rows narrows 'for every input' (looked for: loops, veiled, ifaces, maps, wideKeys, modest, calm, conditions, laid).
  DERIVED. THE GIVEN ROWS OF THIS SEAT. 6 by the template 'for every input the law returns true; each argument reads behind the call as it read before'; 0 by the template 'total and deterministic' (their statements: YtnpnoobknolahaaTotals.lean).
  GIVEN WITH THE SEED: the statements are not yours to turn. If you find one false, say at which input.
  Laid BY PROGRAM, IN A SANDBOX (cutbox-rows.mjs): the forced cells as the released guide's own fill.sh prints them over the translation bd15cd589c3b2e56… (all of the seat's roots in one cut). By AI agents, Wed Nov 11 2026. No macro, syntax, notation, axiom, sorry.
-/
import Derived.Test.YtnpnoobknolahaaChecked
import GoSem.Claim
import GoSem.ClaimJoined
import GoSem.ClaimMapViews
import Derived.JoinedTies
import Derived.KernelRfl
namespace Go.Proofs.Ytnpnoobknolahaa
/- THE CELL 'sum', in the pinned program and in every row, IS THE sha256 OF THE DUMP (.gsa) THAT YtnpnoobknolahaaProg.lean LOADS. Nothing in Lean hashes anything: it is a label: what it is worth is what the hold of that sum in a sandbox is worth. -/
noncomputable def Try.pinned : Pinned := { name := "ytnpnoobknolahaa", sum := "bd15cd589c3b2e565032d207cecc940751501e69bc5293147d414773823fa480", checked := Try.checked }
namespace Rows
def none {H : Type} : Left H := { results := [], args := [] }

/-- 'evergreenlaw18.PlaceMatchesReference': WHATEVER THE INPUT: true; the input reads as it did. -/
def placeMatchesReferenceSpec : ChangeSpec := { name := "placeMatchesReference", fn := fun _ => fun
  | [d1, d2, d3, d4, d5, d6] => { results := [.lit (.bool true)], args := [d1, d2, d3, d4, d5, d6] }
  | _ => none }
def placeMatchesReferenceRow : OpenClaim := { program := "ytnpnoobknolahaa", sum := "bd15cd589c3b2e565032d207cecc940751501e69bc5293147d414773823fa480", func := "evergreen/evergreenlaw18.PlaceMatchesReference", spec := "placeMatchesReference", unfollowed := true, recurses := true, apart := false }
def PlaceMatchesReferenceSaid : Prop := placeMatchesReferenceRow.holds Try.pinned (OpenSpec.ofChange placeMatchesReferenceSpec)

/-- ITS FALSE NEIGHBOUR: 'it returns false'. Refute it at one input. -/
def placeMatchesReferenceWrong : ChangeSpec := { name := "placeMatchesReference", fn := fun _ => fun
  | [d1, d2, d3, d4, d5, d6] => { results := [.lit (.bool false)], args := [d1, d2, d3, d4, d5, d6] }
  | _ => none }
def PlaceMatchesReferenceWrongFalsely : Prop := placeMatchesReferenceRow.holds Try.pinned (OpenSpec.ofChange placeMatchesReferenceWrong)

/-- 'evergreenlaw18.PlaceSurvives': WHATEVER THE INPUT: true; the input reads as it did. -/
def placeSurvivesSpec : ChangeSpec := { name := "placeSurvives", fn := fun _ => fun
  | [d1, d2, d3] => { results := [.lit (.bool true)], args := [d1, d2, d3] }
  | _ => none }
def placeSurvivesRow : OpenClaim := { program := "ytnpnoobknolahaa", sum := "bd15cd589c3b2e565032d207cecc940751501e69bc5293147d414773823fa480", func := "evergreen/evergreenlaw18.PlaceSurvives", spec := "placeSurvives", unfollowed := true, recurses := true, apart := false }
def PlaceSurvivesSaid : Prop := placeSurvivesRow.holds Try.pinned (OpenSpec.ofChange placeSurvivesSpec)

/-- ITS FALSE NEIGHBOUR: 'it returns false'. Refute it at one input. -/
def placeSurvivesWrong : ChangeSpec := { name := "placeSurvives", fn := fun _ => fun
  | [d1, d2, d3] => { results := [.lit (.bool false)], args := [d1, d2, d3] }
  | _ => none }
def PlaceSurvivesWrongFalsely : Prop := placeSurvivesRow.holds Try.pinned (OpenSpec.ofChange placeSurvivesWrong)

/-- 'evergreenlaw18.PlaceWitness': WHATEVER THE INPUT: true; the input reads as it did. -/
def placeWitnessSpec : ChangeSpec := { name := "placeWitness", fn := fun _ => fun
  | [d] => { results := [.lit (.bool true)], args := [d] }
  | _ => none }
def placeWitnessRow : OpenClaim := { program := "ytnpnoobknolahaa", sum := "bd15cd589c3b2e565032d207cecc940751501e69bc5293147d414773823fa480", func := "evergreen/evergreenlaw18.PlaceWitness", spec := "placeWitness", unfollowed := true, recurses := true, apart := false }
def PlaceWitnessSaid : Prop := placeWitnessRow.holds Try.pinned (OpenSpec.ofChange placeWitnessSpec)

/-- ITS FALSE NEIGHBOUR: 'it returns false'. Refute it at one input. -/
def placeWitnessWrong : ChangeSpec := { name := "placeWitness", fn := fun _ => fun
  | [d] => { results := [.lit (.bool false)], args := [d] }
  | _ => none }
def PlaceWitnessWrongFalsely : Prop := placeWitnessRow.holds Try.pinned (OpenSpec.ofChange placeWitnessWrong)

/-- 'evergreenlaw18.PlaceMonotone': WHATEVER THE INPUT: true; the input reads as it did. -/
def placeMonotoneSpec : ChangeSpec := { name := "placeMonotone", fn := fun _ => fun
  | [d1, d2, d3] => { results := [.lit (.bool true)], args := [d1, d2, d3] }
  | _ => none }
def placeMonotoneRow : OpenClaim := { program := "ytnpnoobknolahaa", sum := "bd15cd589c3b2e565032d207cecc940751501e69bc5293147d414773823fa480", func := "evergreen/evergreenlaw18.PlaceMonotone", spec := "placeMonotone", unfollowed := true, recurses := true, apart := false }
def PlaceMonotoneSaid : Prop := placeMonotoneRow.holds Try.pinned (OpenSpec.ofChange placeMonotoneSpec)

/-- ITS FALSE NEIGHBOUR: 'it returns false'. Refute it at one input. -/
def placeMonotoneWrong : ChangeSpec := { name := "placeMonotone", fn := fun _ => fun
  | [d1, d2, d3] => { results := [.lit (.bool false)], args := [d1, d2, d3] }
  | _ => none }
def PlaceMonotoneWrongFalsely : Prop := placeMonotoneRow.holds Try.pinned (OpenSpec.ofChange placeMonotoneWrong)

/-- 'evergreenlaw18.PlaceBest': WHATEVER THE INPUT: true; the input reads as it did. -/
def placeBestSpec : ChangeSpec := { name := "placeBest", fn := fun _ => fun
  | [d] => { results := [.lit (.bool true)], args := [d] }
  | _ => none }
def placeBestRow : OpenClaim := { program := "ytnpnoobknolahaa", sum := "bd15cd589c3b2e565032d207cecc940751501e69bc5293147d414773823fa480", func := "evergreen/evergreenlaw18.PlaceBest", spec := "placeBest", unfollowed := true, recurses := true, apart := false }
def PlaceBestSaid : Prop := placeBestRow.holds Try.pinned (OpenSpec.ofChange placeBestSpec)

/-- ITS FALSE NEIGHBOUR: 'it returns false'. Refute it at one input. -/
def placeBestWrong : ChangeSpec := { name := "placeBest", fn := fun _ => fun
  | [d] => { results := [.lit (.bool false)], args := [d] }
  | _ => none }
def PlaceBestWrongFalsely : Prop := placeBestRow.holds Try.pinned (OpenSpec.ofChange placeBestWrong)

/-- 'evergreenlaw18.PlaceSpread': WHATEVER THE INPUT: true; the input reads as it did. -/
def placeSpreadSpec : ChangeSpec := { name := "placeSpread", fn := fun _ => fun
  | [d1, d2, d3, d4] => { results := [.lit (.bool true)], args := [d1, d2, d3, d4] }
  | _ => none }
def placeSpreadRow : OpenClaim := { program := "ytnpnoobknolahaa", sum := "bd15cd589c3b2e565032d207cecc940751501e69bc5293147d414773823fa480", func := "evergreen/evergreenlaw18.PlaceSpread", spec := "placeSpread", unfollowed := true, recurses := true, apart := false }
def PlaceSpreadSaid : Prop := placeSpreadRow.holds Try.pinned (OpenSpec.ofChange placeSpreadSpec)

/-- ITS FALSE NEIGHBOUR: 'it returns false'. Refute it at one input. -/
def placeSpreadWrong : ChangeSpec := { name := "placeSpread", fn := fun _ => fun
  | [d1, d2, d3, d4] => { results := [.lit (.bool false)], args := [d1, d2, d3, d4] }
  | _ => none }
def PlaceSpreadWrongFalsely : Prop := placeSpreadRow.holds Try.pinned (OpenSpec.ofChange placeSpreadWrong)

/- THE SECOND FORM. 'bulk': how many values and letters a reading holds, each counted each time it is reached (what is shared counts as often as it is met; a slice's spare places count too). A statement '..UptoSaid' is the law's where the arguments, and the package variables that the reading takes, are together of bulk at most 1048576: NARROWER than '..Said'. Prove '..Said' where nothing that the law and all that it calls make is longer than what came in: it says more and counts as full. Else prove '..UptoSaid'. A law counts once. -/
mutual
def uptoBulk {H : Type} : DataW H → Nat
  | .lit (.string bytes) => bytes.length + 1
  | .lit _ => 1
  | .nil => 1
  | .ptr d => uptoBulk d + 1
  | .slice elems spare => uptoBulkAll elems + uptoBulkAll spare + 1
  | .agg parts => uptoBulkAll parts + 1
  | .iface _ d => uptoBulk d + 1
  | .map entries => uptoBulkEntries entries + 1
  | .held _ => 1
def uptoBulkAll {H : Type} : List (DataW H) → Nat
  | [] => 0
  | d :: r => uptoBulk d + uptoBulkAll r
def uptoBulkEntries {H : Type} : List (Lit × DataW H) → Nat
  | [] => 0
  | x :: r => uptoBulkEntry x + uptoBulkEntries r
def uptoBulkEntry {H : Type} : Lit × DataW H → Nat
  | (.string bytes, d) => bytes.length + uptoBulk d + 1
  | (_, d) => uptoBulk d + 1
 end
def uptoSmall : (H : Type) → List (DataW H) → Bool := fun _ ds => decide (uptoBulkAll ds ≤ 1048576)
def OpenSpec.upto (s : _root_.Go.ChangeSpec) : _root_.Go.OpenSpec := { _root_.Go.OpenSpec.ofChange s with cond := some uptoSmall }

/-- 'evergreenlaw18.PlaceMatchesReference', WHERE WHAT IT READS IS OF BULK AT MOST 1048576: true; the input reads as it did. -/
def placeMatchesReferenceUptoRow : OpenClaim := { program := "ytnpnoobknolahaa", sum := "bd15cd589c3b2e565032d207cecc940751501e69bc5293147d414773823fa480", func := "evergreen/evergreenlaw18.PlaceMatchesReference", spec := "placeMatchesReference", unfollowed := true, recurses := true, apart := false, narrowed := true }
def PlaceMatchesReferenceUptoSaid : Prop := placeMatchesReferenceUptoRow.holds Try.pinned (OpenSpec.upto placeMatchesReferenceSpec)

/-- 'evergreenlaw18.PlaceSurvives', WHERE WHAT IT READS IS OF BULK AT MOST 1048576: true; the input reads as it did. -/
def placeSurvivesUptoRow : OpenClaim := { program := "ytnpnoobknolahaa", sum := "bd15cd589c3b2e565032d207cecc940751501e69bc5293147d414773823fa480", func := "evergreen/evergreenlaw18.PlaceSurvives", spec := "placeSurvives", unfollowed := true, recurses := true, apart := false, narrowed := true }
def PlaceSurvivesUptoSaid : Prop := placeSurvivesUptoRow.holds Try.pinned (OpenSpec.upto placeSurvivesSpec)

/-- 'evergreenlaw18.PlaceWitness', WHERE WHAT IT READS IS OF BULK AT MOST 1048576: true; the input reads as it did. -/
def placeWitnessUptoRow : OpenClaim := { program := "ytnpnoobknolahaa", sum := "bd15cd589c3b2e565032d207cecc940751501e69bc5293147d414773823fa480", func := "evergreen/evergreenlaw18.PlaceWitness", spec := "placeWitness", unfollowed := true, recurses := true, apart := false, narrowed := true }
def PlaceWitnessUptoSaid : Prop := placeWitnessUptoRow.holds Try.pinned (OpenSpec.upto placeWitnessSpec)

/-- 'evergreenlaw18.PlaceMonotone', WHERE WHAT IT READS IS OF BULK AT MOST 1048576: true; the input reads as it did. -/
def placeMonotoneUptoRow : OpenClaim := { program := "ytnpnoobknolahaa", sum := "bd15cd589c3b2e565032d207cecc940751501e69bc5293147d414773823fa480", func := "evergreen/evergreenlaw18.PlaceMonotone", spec := "placeMonotone", unfollowed := true, recurses := true, apart := false, narrowed := true }
def PlaceMonotoneUptoSaid : Prop := placeMonotoneUptoRow.holds Try.pinned (OpenSpec.upto placeMonotoneSpec)

/-- 'evergreenlaw18.PlaceBest', WHERE WHAT IT READS IS OF BULK AT MOST 1048576: true; the input reads as it did. -/
def placeBestUptoRow : OpenClaim := { program := "ytnpnoobknolahaa", sum := "bd15cd589c3b2e565032d207cecc940751501e69bc5293147d414773823fa480", func := "evergreen/evergreenlaw18.PlaceBest", spec := "placeBest", unfollowed := true, recurses := true, apart := false, narrowed := true }
def PlaceBestUptoSaid : Prop := placeBestUptoRow.holds Try.pinned (OpenSpec.upto placeBestSpec)

/-- 'evergreenlaw18.PlaceSpread', WHERE WHAT IT READS IS OF BULK AT MOST 1048576: true; the input reads as it did. -/
def placeSpreadUptoRow : OpenClaim := { program := "ytnpnoobknolahaa", sum := "bd15cd589c3b2e565032d207cecc940751501e69bc5293147d414773823fa480", func := "evergreen/evergreenlaw18.PlaceSpread", spec := "placeSpread", unfollowed := true, recurses := true, apart := false, narrowed := true }
def PlaceSpreadUptoSaid : Prop := placeSpreadUptoRow.holds Try.pinned (OpenSpec.upto placeSpreadSpec)

end Rows
end Go.Proofs.Ytnpnoobknolahaa
