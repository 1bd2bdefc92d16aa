/- Plain: a repair that is interrupted. -/
import Derived.Test.YtfjkdciblblalaaGreatDoorRX
namespace Go.Sx
open Go Go.Proofs
theorem plan_invD (c : CaseP) (h : GoodD c) (hB : planB c.holders c.lost c.tos c.width c.k c.deadline = true) : (0 < c.lost.length → c.k ≤ ((survS c.holders c.lost).length : Int)) ∧ (planAt (survS c.holders c.lost) c.lost c.tos c.width.toNat c.k.toNat c.deadline.toNat).length = c.lost.length := by
  refine ⟨fun h0 => ?_, ?_⟩
  · by_cases h1 : ((survS c.holders c.lost).length : Int) < c.k
    · unfold planB at hB
      rw [good_ofD c h, decide_eq_true h0, decide_eq_true h1] at hB
      cases hB
    · omega
  · have hle := plan_len_le (surv := survS c.holders c.lost) (lost := c.lost) (tos := c.tos) (width := c.width.toNat) (k := c.k.toNat) c.deadline.toNat
    by_cases h1 : (planAt (survS c.holders c.lost) c.lost c.tos c.width.toNat c.k.toNat c.deadline.toNat).length < c.lost.length
    · rw [plan_no2 c h1] at hB; cases hB
    · omega
section
variable {surv lost tos : List Int} {width k : Nat}
theorem plan_stop_iff {d d' : Nat} (h : d ≤ d') {q : Nat} (hq : q < (planAt surv lost tos width k d').length) : (tr (planAt surv lost tos width k d') q).stop ≤ (d : Int) ↔ q < (planAt surv lost tos width k d).length := by
  obtain ⟨R, h1, h2⟩ := plan_split (surv := surv) (lost := lost) (tos := tos) (width := width) (k := k) h
  have hs := plan_stop (surv := surv) (lost := lost) (tos := tos) (width := width) (k := k) d
  rw [h1] at hq ⊢
  generalize planAt surv lost tos width k d = A at *
  by_cases hqa : q < A.length
  · have e : tr (A ++ R) q = tr A q := by unfold tr; rw [List.getD_eq_getElem?_getD, List.getD_eq_getElem?_getD, List.getElem?_append_left hqa]
    rw [e]
    exact ⟨fun _ => hqa, fun _ => (hs _ (tr_mem hqa)).1⟩
  · have hlr : q - A.length < R.length := by rw [List.length_append] at hq; omega
    have e : tr (A ++ R) q = tr R (q - A.length) := by unfold tr; rw [List.getD_eq_getElem?_getD, List.getD_eq_getElem?_getD, List.getElem?_append_right (by omega)]
    rw [e]
    have := h2 _ (tr_mem hlr)
    exact ⟨fun h3 => by omega, fun h3 => absurd h3 hqa⟩
end
/-- Who holds what in the end. -/
def finI (holders lost tos : List Int) (i : Nat) : Int := match lost.findIdx? fun x => decide (x = (i : Int)) with
  | some q => at' tos q
  | none => at' holders i
def finL (holders lost tos : List Int) : List Int := (List.range holders.length).map (finI holders lost tos)
theorem fin_lost {holders lost tos : List Int} {n : Int} (hasc : ascTo n lost lost.length) {q i : Nat} (hq : q < lost.length) (hi : at' lost q = (i : Int)) : finI holders lost tos i = at' tos q := by
  unfold finI
  have : lost.findIdx? (fun x => decide (x = (i : Int))) = some q := by
    rw [List.findIdx?_eq_some_iff_getElem]
    have e : at' lost q = lost[q] := by simp [at', hq]
    refine ⟨hq, decide_eq_true (by rw [← e]; exact hi), fun j hj h2 => ?_⟩
    have hj2 : j < lost.length := by omega
    have e2 : at' lost j = lost[j] := by simp [at', hj2]
    have h3 := of_decide_eq_true h2
    have := asc_lt hasc hj hq
    omega
  rw [this]
theorem fin_held {holders lost tos : List Int} {i : Nat} (h : (i : Int) ∉ lost) : finI holders lost tos i = at' holders i := by
  unfold finI
  have : lost.findIdx? (fun x => decide (x = (i : Int))) = none := by
    rw [List.findIdx?_eq_none_iff]
    intro x hx
    exact decide_eq_false fun e => h (e ▸ hx)
  rw [this]
theorem fin_len (holders lost tos : List Int) : (finL holders lost tos).length = holders.length := by simp [finL]
theorem fin_at {holders lost tos : List Int} {i : Nat} (h : i < holders.length) : at' (finL holders lost tos) i = finI holders lost tos i := by
  unfold finL at'
  simp [h]
theorem at_drop (l : List Int) (c i : Nat) : at' (l.drop c) i = at' l (c + i) := by
  unfold at'
  rw [List.getD_eq_getElem?_getD, List.getD_eq_getElem?_getD, List.getElem?_drop]
theorem rest_good {holders lost tos : List Int} {width k dl : Int} (hg : GoodD ⟨holders, lost, tos, width, k, dl⟩) (c : Nat) : GoodD ⟨finL holders lost tos, lost.drop c, tos.drop c, width, k, dl⟩ := by
  have hr := hg.right
  have htl := hg.len
  have hcu := hg.cu
  have hoff := hg.off
  dsimp only at hr htl hcu hoff
  have hcase : ∀ i, i < holders.length → ((i : Int) ∉ lost ∧ finI holders lost tos i = at' holders i) ∨ ∃ q, q < lost.length ∧ at' lost q = (i : Int) ∧ finI holders lost tos i = at' tos q := fun i hi => by
    by_cases h : (i : Int) ∈ lost
    · right
      obtain ⟨q, hq, e⟩ := mem_at h
      exact ⟨q, hq, e, fin_lost hr.asc hq e⟩
    · left; exact ⟨h, fin_held h⟩
  have hsv : ∀ i, i < holders.length → (i : Int) ∉ lost → at' holders i ∈ survS holders lost := fun i hi h => by
    unfold survS
    exact List.mem_map.2 ⟨i, List.mem_filter.2 ⟨List.mem_range.2 hi, decide_eq_true h⟩, rfl⟩
  have hne : ∀ i q, i < holders.length → (i : Int) ∉ lost → q < lost.length → at' holders i ≠ at' tos q := fun i q hi h hq e => hoff _ (at_mem (show q < tos.length by omega)) (e ▸ hsv i hi h)
  refine ⟨⟨⟨?_, fun x hx => ?_⟩, ?_, ?_, hr.w, ?_, hr.d, ?_⟩, ?_, ⟨(List.drop_sublist c tos).nodup hcu.1, fun x hx => hcu.2 x (List.mem_of_mem_drop hx)⟩, fun x hx hs => ?_⟩
  · show (finL holders lost tos).Nodup
    rw [nodup_at]
    intro i j hi hj e
    rw [fin_len] at hi hj
    rw [fin_at hi, fin_at hj] at e
    rcases hcase i hi with ⟨h1, h2⟩ | ⟨q, h1, h2, h3⟩ <;> rcases hcase j hj with ⟨g1, g2⟩ | ⟨p, g1, g2, g3⟩
    · rw [h2, g2] at e; exact nodup_at.1 hr.cu.1 i j hi hj e
    · rw [h2, g3] at e; exact absurd e (hne i p hi h1 g1)
    · rw [h3, g2] at e; exact absurd e.symm (hne j q hj g1 h1)
    · rw [h3, g3] at e
      have := nodup_at.1 hcu.1 q p (by omega) (by omega) e
      subst this
      omega
  · obtain ⟨i, hi, rfl⟩ := mem_at hx
    dsimp only at hi ⊢
    rw [fin_len] at hi
    rw [fin_at hi]
    rcases hcase i hi with ⟨h1, h2⟩ | ⟨q, h1, h2, h3⟩
    · rw [h2]; exact hr.cu.2 _ (at_mem hi)
    · rw [h3]; exact hcu.2 _ (at_mem (by omega))
  · show 0 < (finL holders lost tos).length
    rw [fin_len]; exact hr.pos
  · show (finL holders lost tos).length ≤ 9
    rw [fin_len]; exact hr.n9
  · show 1 ≤ k ∧ k ≤ ((finL holders lost tos).length : Int)
    rw [fin_len]; exact hr.k
  · show ascTo ((finL holders lost tos).length : Int) (lost.drop c) (lost.drop c).length
    rw [fin_len]; exact asc_sub hr.asc (List.drop_sublist c lost)
  · show (tos.drop c).length = (lost.drop c).length
    rw [List.length_drop, List.length_drop, htl]
  · dsimp only at hx hs
    unfold survS at hs
    obtain ⟨i, hi, rfl⟩ := List.mem_map.1 hs
    rw [List.mem_filter, List.mem_range, fin_len] at hi
    have hi2 : (i : Int) ∉ lost.drop c := by simpa using hi.2
    rw [fin_at hi.1] at hx
    rcases hcase i hi.1 with ⟨h1, h2⟩ | ⟨q, h1, h2, h3⟩
    · rw [h2] at hx
      exact hoff _ (List.mem_of_mem_drop hx) (hsv i hi.1 h1)
    · rw [h3] at hx
      obtain ⟨p, hp, e⟩ := mem_at hx
      rw [at_drop] at e
      rw [List.length_drop] at hp
      have := nodup_at.1 hcu.1 _ _ (by omega) (by omega) e
      apply hi2
      rw [← h2, ← this, ← at_drop]
      exact at_mem (by rw [List.length_drop]; omega)
theorem rest_cnt {surv lost tos surv' to' : List Int} {width k d : Nat} (hs : surv'.length = surv.length + (planAt surv lost tos width k d).length) (i : Nat) :
    (planAt surv' (lost.drop (planAt surv lost tos width k d).length) to' width k i).length + (planAt surv lost tos width k d).length = (planAt surv lost tos width k (d + i)).length := by
  induction i with
  | zero => exact Nat.zero_add _
  | succ i ih =>
    have hle := plan_len_le (surv := surv) (lost := lost) (tos := tos) (width := width) (k := k) (d + i)
    rw [← Nat.add_assoc, plan_succ_len, plan_succ_len, ← ih, hs, List.length_drop]
    rw [← ih] at hle
    generalize (planAt surv' (lost.drop (planAt surv lost tos width k d).length) to' width k i).length = p' at *
    generalize (planAt surv lost tos width k d).length = p at *
    unfold dayN
    rw [show surv.length + p + p' = surv.length + (p' + p) by omega]
    generalize (surv.length + (p' + p)) * width / k = x at *
    omega
end Go.Sx

