/- Chapter 19: Right of the reference. -/
import Derived.Test.YtfjkdciblblalaaGreatDoorR5
import Derived.Test.YtfjkdciblblalaaGreatDoorHu
namespace Go.Sx
open Go Go.Proofs
noncomputable def rightB (holders lost : List Int) (width k deadline : Int) : Bool := @decide (Right holders lost width k deadline) (Classical.propDecidable _)
theorem rightB_no {holders lost : List Int} {width k deadline : Int} (h : ¬ Right holders lost width k deadline) : rightB holders lost width k deadline = false := by unfold rightB; exact @decide_eq_false _ (Classical.propDecidable _) h
theorem rightB_yes {holders lost : List Int} {width k deadline : Int} (h : Right holders lost width k deadline) : rightB holders lost width k deadline = true := by unfold rightB; exact @decide_eq_true _ (Classical.propDecidable _) h
noncomputable def rsurv (holders lost : List Int) (width k deadline : Int) : List Int := if rightB holders lost width k deadline = true then survS holders lost else []
def survTo (holders lost : List Int) (i : Nat) : List Int := ((List.range i).filter fun i : Nat => decide ((i : Int) ∉ lost)).map (at' holders)
theorem survTo_step {holders lost : List Int} (i : Nat) : survTo holders lost (i + 1) = survTo holders lost i ++ (if (i : Int) ∈ lost then [] else [at' holders i]) := by
  unfold survTo
  rw [List.range_succ, List.filter_append, List.map_append]
  congr 1
  by_cases h : (i : Int) ∈ lost
  · simp [h]
  · simp [h]
theorem survTo_len {holders lost : List Int} (i : Nat) : (survTo holders lost i).length ≤ i := by
  unfold survTo
  rw [List.length_map]
  have := List.length_filter_le (fun i : Nat => decide ((i : Int) ∉ lost)) (List.range i)
  rwa [List.length_range] at this
theorem survTo_end {holders lost : List Int} : survTo holders lost holders.length = survS holders lost := rfl
attribute [local irreducible] WC WL WX POp Then Again Fn NX W1 WA WO QL RP RA Yld LoopAt HC HL HX HN H1 HA HO HQ A.blk A.grow A.rd A.obj AgainH CutH
end Go.Sx

