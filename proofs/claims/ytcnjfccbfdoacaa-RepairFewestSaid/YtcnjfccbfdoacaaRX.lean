/- Plain: a situation that is better; one fragment less that is lost. -/
import Derived.Test.YtcnjfccbfdoacaaRU
namespace Go.Sx
open Go Go.Proofs
structure GoodD (c : CaseP) : Prop where
  right : Right c.holders c.lost c.width c.k c.deadline
  len : c.to.length = c.lost.length
  cu : custs c.to
  off : ∀ x ∈ c.to, x ∉ survS c.holders c.lost
theorem GoodC.d {c : CaseP} (h : GoodC c) : GoodD c := ⟨h.right, h.len, h.cu, h.off⟩
theorem good_ofD (c : CaseP) (h : GoodD c) : goodB c.holders c.lost c.to c.width c.k c.deadline = !(decide (0 < c.lost.length) && decide (((survS c.holders c.lost).length : Int) < c.k)) := by
  have h1 : (c.to.any fun x => (survS c.holders c.lost).contains x) = false := by
    rw [List.any_eq_false]; intro x hx hc; exact h.off x hx (List.contains_iff_mem.1 hc)
  unfold goodB
  rw [rightB_yes h.right, decide_eq_true h.len, decide_eq_true h.cu, h1]
  rfl
theorem plan_yesD (c : CaseP) (h : GoodD c) {j : Nat} (hs : 0 < c.lost.length → c.k ≤ ((survS c.holders c.lost).length : Int)) (h1 : (planAt (survS c.holders c.lost) c.lost c.to c.width.toNat c.k.toNat j).length = c.lost.length) (hj : (j : Int) ≤ c.deadline) :
    planB c.holders c.lost c.to c.width c.k c.deadline = true ∧ planR c.holders c.lost c.to c.width c.k c.deadline = planAt (survS c.holders c.lost) c.lost c.to c.width.toNat c.k.toNat j := by
  have hD : planD c.holders c.lost c.to c.width c.k c.deadline = planAt (survS c.holders c.lost) c.lost c.to c.width.toNat c.k.toNat j := plan_full (by omega) _ (by omega)
  have hB : planB c.holders c.lost c.to c.width c.k c.deadline = true := by
    unfold planB
    rw [good_ofD c h, hD, h1, decide_eq_true (Nat.le_refl _), Bool.and_true]
    by_cases h0 : 0 < c.lost.length
    · have := hs h0
      rw [decide_eq_false (show ¬ ((survS c.holders c.lost).length : Int) < c.k by omega), Bool.and_false]; rfl
    · rw [decide_eq_false h0]; rfl
  refine ⟨hB, ?_⟩
  unfold planR
  rw [if_pos hB, hD]
theorem least {p : Nat → Prop} : ∀ n : Nat, p n → ∃ j, j ≤ n ∧ p j ∧ ∀ i, i < j → ¬ p i := by
  intro n
  induction n using Nat.strongRecOn with
  | ind n ih =>
    intro h
    by_cases hx : ∃ i, i < n ∧ p i
    · obtain ⟨i, hi, hp⟩ := hx
      obtain ⟨j, h1, h2, h3⟩ := ih i hi hp
      exact ⟨j, by omega, h2, h3⟩
    · exact ⟨n, Nat.le_refl n, h, fun i hi hp => hx ⟨i, hi, hp⟩⟩
theorem asc_sub {n : Int} {l m : List Int} (h : ascTo n l l.length) (hs : m.Sublist l) : ascTo n m m.length := by
  have hp : l.Pairwise (· < ·) := by
    rw [List.pairwise_iff_getElem]
    intro i j hi hj hij
    have := asc_lt h hij hj
    have e1 : at' l i = l[i] := by simp [at', hi]
    have e2 : at' l j = l[j] := by simp [at', hj]
    omega
  have hp2 := hp.sublist hs
  intro j hj
  refine ⟨asc_in h _ (hs.subset (at_mem hj)), fun h0 => ?_⟩
  have := List.pairwise_iff_getElem.1 hp2 (j - 1) j (by omega) hj (by omega)
  have e1 : at' m (j - 1) = m[j - 1] := by unfold at'; rw [List.getD_eq_getElem?_getD, List.getElem?_eq_getElem (by omega)]; rfl
  have e2 : at' m j = m[j] := by simp [at', hj]
  rw [e1, e2]; exact this
end Go.Sx

