/- Plain: sorting; the fixed examples. -/
import Derived.Test.YtcnjfccbfdoacaaRJ
import Derived.Test.YtcnjfccbfdoacaaRH
import Derived.Test.YtcnjfccbfdoacaaRG
namespace Go.Sx
open Go Go.Proofs
theorem srt_pw (l : List Int) : (srt l).Pairwise (· ≤ ·) := by
  unfold srt
  have := List.pairwise_mergeSort (le := fun x y : Int => decide (x ≤ y)) (by intro a b c h1 h2; simp only [decide_eq_true_eq] at *; omega) (by intro a b; simp only [Bool.or_eq_true, decide_eq_true_eq]; omega) l
  exact this.imp fun {_ _} h => by simpa using h
theorem srt_perm (l : List Int) : (srt l).Perm l := by unfold srt; exact List.mergeSort_perm l _
theorem srt_eq {l m : List Int} (h : m.Pairwise (· ≤ ·)) (hp : l.Perm m) : srt l = m :=
  List.Perm.eq_of_pairwise (le := (· ≤ ·)) (fun _ _ _ _ h1 h2 => Int.le_antisymm h1 h2) (srt_pw l) h ((srt_perm l).trans hp)
def insI (x : Int) : List Int → List Int
  | [] => [x]
  | y :: l => if x ≤ y then x :: y :: l else y :: insI x l
def isort : List Int → List Int
  | [] => []
  | x :: l => insI x (isort l)
theorem insI_perm (x : Int) : ∀ l : List Int, (x :: l).Perm (insI x l)
  | [] => List.Perm.refl _
  | y :: l => by
    unfold insI
    split
    · exact List.Perm.refl _
    · exact (List.Perm.swap _ _ _).trans (List.Perm.cons _ (insI_perm x l))
theorem insI_pw (x : Int) : ∀ l : List Int, l.Pairwise (· ≤ ·) → (insI x l).Pairwise (· ≤ ·)
  | [], _ => by simp [insI]
  | y :: l, h => by
    unfold insI
    rw [List.pairwise_cons] at h
    split
    · rename_i hxy
      rw [List.pairwise_cons]
      refine ⟨fun z hz => ?_, List.pairwise_cons.2 h⟩
      rcases List.mem_cons.1 hz with rfl | hz
      · exact hxy
      · exact Int.le_trans hxy (h.1 z hz)
    · rename_i hxy
      rw [List.pairwise_cons]
      refine ⟨fun z hz => ?_, insI_pw x l h.2⟩
      rcases List.mem_cons.1 ((insI_perm x l).mem_iff.2 hz) with rfl | hz
      · omega
      · exact h.1 z hz
theorem isort_perm : ∀ l : List Int, l.Perm (isort l)
  | [] => List.Perm.refl _
  | x :: l => ((isort_perm l).cons x).trans (insI_perm x _)
theorem isort_pw : ∀ l : List Int, (isort l).Pairwise (· ≤ ·)
  | [] => List.Pairwise.nil
  | x :: l => insI_pw x _ (isort_pw l)
theorem srt_is : srt = isort := funext fun l => srt_eq (isort_pw l) (isort_perm l)
/- the fixed examples -/
def sH : List Int := [0, 1, 2, 3, 4]
def sL : List Int := [0, 3]
def sT : List Int := [5, 6]
def sOne : List Tr := [⟨0, 5, [1, 2], 0, 1⟩, ⟨3, 6, [1, 2], 1, 2⟩]
def sTwo : List Tr := [⟨0, 5, [1, 2], 0, 1⟩, ⟨3, 6, [1, 4], 0, 1⟩]
theorem sRight {w k d : Int} (hw : 1 ≤ w ∧ w ≤ 9) (hk : 1 ≤ k ∧ k ≤ 5) (hd : 0 ≤ d ∧ d ≤ 1000) : Right sH sL w k d := ⟨by decide, by decide, by decide, hw, hk, hd, by unfold ascTo; decide⟩
theorem sRight0 : Right sH [] 1 2 9 := ⟨by decide, by decide, by decide, by decide, by decide, by decide, by unfold ascTo; decide⟩
theorem sSurv : survS sH sL = [1, 2, 4] := by decide
theorem sSurv0 : survS sH [] = [0, 1, 2, 3, 4] := by decide
theorem p1_1 : planAt [1, 2, 4] sL sT 1 2 1 = [⟨0, 5, [1, 2], 0, 1⟩] := by
  simp only [planAt, stepP, hasL, srt_is]; delta newT; simp only [srt_is]; decide
theorem p1_2 : planAt [1, 2, 4] sL sT 1 2 2 = sOne := by
  rw [planAt, p1_1]; simp only [stepP, hasL, srt_is]; delta newT; simp only [srt_is]; decide
theorem p2_1 : planAt [1, 2, 4] sL sT 2 2 1 = sTwo := by
  simp only [planAt, stepP, hasL, srt_is]; delta newT; simp only [srt_is]; decide
theorem pD1 : planD sH sL sT 1 2 9 = sOne := by
  unfold planD; rw [sSurv]; exact (plan_full (d := 2) (by show _ ≤ (planAt [1, 2, 4] sL sT 1 2 2).length; rw [p1_2]; decide) 9 (by decide)).trans p1_2
theorem pD2 : planD sH sL sT 2 2 9 = sTwo := by
  unfold planD; rw [sSurv]; exact (plan_full (d := 1) (by show _ ≤ (planAt [1, 2, 4] sL sT 2 2 1).length; rw [p2_1]; decide) 9 (by decide)).trans p2_1
theorem pD3 : planD sH sL sT 1 2 1 = [⟨0, 5, [1, 2], 0, 1⟩] := by unfold planD; rw [sSurv]; exact p1_1
theorem pB1 : planB sH sL sT 1 2 9 = true := by unfold planB goodB; rw [rightB_yes (sRight (by decide) (by decide) (by decide)), pD1]; decide
theorem pB2 : planB sH sL sT 2 2 9 = true := by unfold planB goodB; rw [rightB_yes (sRight (by decide) (by decide) (by decide)), pD2]; decide
theorem pB3 : planB sH sL sT 1 2 1 = false := by unfold planB goodB; rw [rightB_yes (sRight (by decide) (by decide) (by decide)), pD3]; decide
theorem pB4 : planB sH sL sT 1 4 9 = false := by
  have : goodB sH sL sT 1 4 9 = false := by unfold goodB; rw [rightB_yes (sRight (by decide) (by decide) (by decide))]; decide
  unfold planB; rw [this]; rfl
theorem pR1 : planR sH sL sT 1 2 9 = sOne := by unfold planR; rw [if_pos pB1, pD1]
theorem pR2 : planR sH sL sT 2 2 9 = sTwo := by unfold planR; rw [if_pos pB2, pD2]
theorem pR3 : planR sH sL sT 1 2 1 = [] := by unfold planR; rw [if_neg (by rw [pB3]; decide)]
theorem pR4 : planR sH sL sT 1 4 9 = [] := by unfold planR; rw [if_neg (by rw [pB4]; decide)]
theorem sAfter1 : afterS sH sL sOne 1 = [5, 1, 2, -1, 4] := by decide
theorem sAfter2 : afterS sH sL sOne 2 = [5, 1, 2, 6, 4] := by decide
theorem sSo : sortedI [1, 2] := fun i h0 hi => by
  have h2 : i = 1 := by simp at hi; omega
  subst h2; decide
theorem sValid1 : validB sH sL 1 2 9 sOne = true := validB_yes ⟨sRight (by decide) (by decide) (by decide), by
  intro i hi
  match i, hi with
  | 0, _ => exact ⟨⟨by decide, by decide, by decide, sSo, by decide⟩, by unfold StepOK hasL; rw [sSurv, srt_is]; decide⟩
  | 1, _ => exact ⟨⟨by decide, by decide, by decide, sSo, by decide⟩, by unfold StepOK hasL; rw [sSurv, srt_is]; decide⟩, by rw [srt_is]; decide, by decide, by decide, by rw [sSurv]; decide⟩
theorem sValid2 : validB sH sL 1 2 9 sTwo = false := validB_no fun h => by
  have := (h.ok 1 (by decide)).2 1 (by decide)
  exact absurd this.1 (by decide)
theorem sValid0 : validB sH [] 1 2 9 [] = true := validB_yes ⟨sRight0, (by intro i hi; cases hi), (by rw [srt_is]; decide), by decide, by decide, by decide⟩
end Go.Sx

