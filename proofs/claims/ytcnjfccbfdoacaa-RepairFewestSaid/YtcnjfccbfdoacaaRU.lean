/- Plain: what a plan that there is says; where a fragment is. -/
import Derived.Test.YtcnjfccbfdoacaaRO
namespace Go.Sx
open Go Go.Proofs
theorem after_at {holders lost : List Int} {l : List Tr} {day : Int} {f : Nat} (hf : f < holders.length) : at' (afterS holders lost l day) f = afterI holders lost l day f := by
  unfold afterS at'
  simp [hf]
theorem plan_yes_inv (c : CaseP) (h : GoodC c) (hB : planB c.holders c.lost c.to c.width c.k c.deadline = true) : (0 < c.lost.length → c.k ≤ ((survS c.holders c.lost).length : Int)) ∧ (planAt (survS c.holders c.lost) c.lost c.to c.width.toNat c.k.toNat c.deadline.toNat).length = c.lost.length := by
  refine ⟨fun h0 => ?_, ?_⟩
  · by_cases h1 : ((survS c.holders c.lost).length : Int) < c.k
    · rw [plan_no1 c h h0 h1] at hB; cases hB
    · omega
  · have hle := plan_len_le (surv := survS c.holders c.lost) (lost := c.lost) (to := c.to) (width := c.width.toNat) (k := c.k.toNat) c.deadline.toNat
    by_cases h1 : (planAt (survS c.holders c.lost) c.lost c.to c.width.toNat c.k.toNat c.deadline.toNat).length < c.lost.length
    · rw [plan_no2 c h1] at hB; cases hB
    · omega
end Go.Sx

