/- Plain: what Plan returns repairs the situation. -/
import Derived.Test.YtfjkdciblblalaaGreatDoorRM
namespace Go.Sx
open Go Go.Proofs
theorem nodup_le : ∀ (l m : List Nat), l.Nodup → (∀ x ∈ l, x ∈ m) → l.length ≤ m.length
  | [], m, _, _ => Nat.zero_le _
  | x :: l, m, h, hs => by
    have hx := hs x (by simp)
    rw [List.nodup_cons] at h
    have h1 := nodup_le l (m.erase x) h.2 (fun y hy => (List.mem_erase_of_ne (fun e => by subst e; exact h.1 hy)).2 (hs y (by simp [hy])))
    rw [List.length_erase_of_mem hx] at h1
    have : 0 < m.length := List.length_pos_of_mem hx
    simp only [List.length_cons]; omega
theorem take_range (l : List Int) (f n : Nat) (h : f + n ≤ l.length) : l.take f ++ (List.range n).map (fun j => at' l (f + j)) = l.take (f + n) := by
  induction n with
  | zero => simp
  | succ n ih =>
    rw [List.range_succ, List.map_append, ← List.append_assoc, ih (by omega), ← Nat.add_assoc, take_at (by omega)]
    rfl
section
variable {surv lost tos : List Int} {width k : Nat}
theorem plan_split {d d' : Nat} (h : d ≤ d') : ∃ R, planAt surv lost tos width k d' = planAt surv lost tos width k d ++ R ∧ ∀ t ∈ R, (d : Int) ≤ t.start ∧ t.stop = t.start + 1 := by
  induction d' with
  | zero => obtain rfl : d = 0 := by omega
            exact ⟨[], by simp, by simp⟩
  | succ e ih =>
    by_cases he : d = e + 1
    · subst he; exact ⟨[], by simp, by simp⟩
    · obtain ⟨R, h1, h2⟩ := ih (by omega)
      refine ⟨R ++ (List.range (dayN (hasL surv (planAt surv lost tos width k e) e).length width k lost.length (planAt surv lost tos width k e).length)).map (newT (hasL surv (planAt surv lost tos width k e) e) lost tos k (planAt surv lost tos width k e).length e), ?_, fun t ht => ?_⟩
      · rw [← List.append_assoc, ← h1]; rfl
      · rcases List.mem_append.1 ht with ht | ht
        · exact h2 t ht
        · obtain ⟨j, -, rfl⟩ := List.mem_map.1 ht
          show (d : Int) ≤ (e : Int) ∧ (e : Int) + 1 = (e : Int) + 1
          omega
theorem plan_end {d d' : Nat} (h : d ≤ d') : endTo (planAt surv lost tos width k d') d = (planAt surv lost tos width k d).map Tr.tos := by
  obtain ⟨R, h1, h2⟩ := plan_split (surv := surv) (lost := lost) (tos := tos) (width := width) (k := k) h
  rw [h1]
  have h3 : endTo R d = [] := by
    unfold endTo
    rw [List.filter_eq_nil_iff.2 (fun t ht => by have := h2 t ht; simp; omega)]; rfl
  have h4 : endTo (planAt surv lost tos width k d ++ R) d = endTo (planAt surv lost tos width k d) d ++ endTo R d := by unfold endTo; rw [List.filter_append, List.map_append]
  rw [h4, h3, List.append_nil, endTo_all fun t ht => (plan_stop d t ht).1]
theorem plan_has {d d' : Nat} (h : d ≤ d') : hasL surv (planAt surv lost tos width k d') d = hasL surv (planAt surv lost tos width k d) d := by
  unfold hasL
  rw [plan_end h, plan_end (Nat.le_refl d)]
theorem plan_map (htl : tos.length = lost.length) (d : Nat) : (planAt surv lost tos width k d).map Tr.tos = tos.take (planAt surv lost tos width k d).length ∧ (planAt surv lost tos width k d).map Tr.frag = lost.take (planAt surv lost tos width k d).length := by
  induction d with
  | zero => exact ⟨rfl, rfl⟩
  | succ d ih =>
    have hle := plan_len_le (surv := surv) (lost := lost) (tos := tos) (width := width) (k := k) (d + 1)
    rw [plan_succ_len] at hle ⊢
    have hp : planAt surv lost tos width k (d + 1) = planAt surv lost tos width k d ++ (List.range (dayN (surv.length + (planAt surv lost tos width k d).length) width k lost.length (planAt surv lost tos width k d).length)).map (newT (hasL surv (planAt surv lost tos width k d) d) lost tos k (planAt surv lost tos width k d).length d) := by
      rw [← plan_has_len d]; rfl
    rw [hp, List.map_append, List.map_append, ih.1, ih.2, List.map_map, List.map_map]
    exact ⟨take_range tos _ _ (by omega), take_range lost _ _ (by omega)⟩
theorem plan_mem {d' : Nat} {t : Tr} (h : t ∈ planAt surv lost tos width k d') : ∃ d j, d < d' ∧ j < dayN (surv.length + (planAt surv lost tos width k d).length) width k lost.length (planAt surv lost tos width k d).length ∧ t = newT (hasL surv (planAt surv lost tos width k d) d) lost tos k (planAt surv lost tos width k d).length d j := by
  induction d' with
  | zero => simp [planAt] at h
  | succ e ih =>
    simp only [planAt, stepP, List.mem_append, List.mem_map, List.mem_range] at h
    rcases h with h | ⟨j, h1, rfl⟩
    · obtain ⟨d, j, h1, h2, h3⟩ := ih h
      exact ⟨d, j, by omega, h2, h3⟩
    · rw [plan_has_len] at h1
      exact ⟨e, j, by omega, h1, rfl⟩
theorem cntP_app (l m : List Tr) (s c : Int) : cntP (l ++ m) s c = cntP l s c + cntP m s c := by unfold cntP; rw [List.filter_append, List.length_append]
theorem cntP_none {l : List Tr} {s c : Int} (h : ∀ t ∈ l, t.start ≠ s) : cntP l s c = 0 := by
  unfold cntP
  rw [List.filter_eq_nil_iff.2 (fun t ht => by have := h t ht; simp [this])]; rfl
theorem cntP_take (l : List Tr) (i : Nat) (s c : Int) : cntP (l.take i) s c ≤ cntP l s c := by
  unfold cntP
  exact ((List.take_sublist i l).filter _).length_le
theorem plan_cnt {d d' : Nat} (h : d < d') (c : Int) : cntP (planAt surv lost tos width k d') d c =
    ((List.range (dayN (surv.length + (planAt surv lost tos width k d).length) width k lost.length (planAt surv lost tos width k d).length)).filter fun j => decide (c ∈ (newT (hasL surv (planAt surv lost tos width k d) d) lost tos k (planAt surv lost tos width k d).length d j).src)).length := by
  obtain ⟨R, h1, h2⟩ := plan_split (surv := surv) (lost := lost) (tos := tos) (width := width) (k := k) (show d + 1 ≤ d' by omega)
  have hp : planAt surv lost tos width k (d + 1) = planAt surv lost tos width k d ++ (List.range (dayN (surv.length + (planAt surv lost tos width k d).length) width k lost.length (planAt surv lost tos width k d).length)).map (newT (hasL surv (planAt surv lost tos width k d) d) lost tos k (planAt surv lost tos width k d).length d) := by
    rw [← plan_has_len d]; rfl
  rw [h1, hp, cntP_app, cntP_app, cntP_none (l := R) (fun t ht => by have := (h2 t ht).1; push_cast at this; omega), cntP_none (l := planAt surv lost tos width k d) (fun t ht => by have := plan_stop d t ht; omega), Nat.zero_add, Nat.add_zero]
  unfold cntP
  rw [List.filter_map, List.length_map]
  congr 2
  funext j
  have : (newT (hasL surv (planAt surv lost tos width k d) d) lost tos k (planAt surv lost tos width k d).length d j).start = (d : Int) := rfl
  simp only [Function.comp, this, true_and]
end
theorem newT_mem {h lost tos : List Int} {k f d j : Nat} {c : Int} : c ∈ (newT h lost tos k f d j).src ↔ ∃ i, i < k ∧ at' h ((j * k + i) % h.length) = c := by
  rw [newT_eq]
  dsimp only
  rw [srt_mem]
  unfold fromI
  rw [List.mem_map]
  constructor
  · rintro ⟨i, hi, e⟩; exact ⟨i, List.mem_range.1 hi, e⟩
  · rintro ⟨i, hi, e⟩; exact ⟨i, List.mem_range.2 hi, e⟩
theorem day_width {h lost tos : List Int} {k f d n w : Nat} (hn : h.Nodup) (hm : 0 < h.length) (hk : 0 < k) (hw : n * k ≤ h.length * w) (c : Int) : ((List.range n).filter fun j => decide (c ∈ (newT h lost tos k f d j).src)).length ≤ w := by
  by_cases hc : c ∈ h
  · obtain ⟨p, hp, rfl⟩ := mem_at hc
    have := nodup_le ((List.range n).filter fun j => decide (at' h p ∈ (newT h lost tos k f d j).src)) ((List.range w).map fun q => (h.length * q + p) / k) (List.nodup_range.filter _) (fun j hj => ?_)
    · simpa using this
    · rw [List.mem_filter, List.mem_range] at hj
      obtain ⟨hj, h2⟩ := hj
      obtain ⟨i, hi, e⟩ := newT_mem.1 (of_decide_eq_true h2)
      have hlt : (j * k + i) % h.length < h.length := Nat.mod_lt _ hm
      have e2 := nodup_at.1 hn _ _ hlt hp e
      have hx : j * k + i < n * k := by
        have : (j + 1) * k ≤ n * k := Nat.mul_le_mul_right k hj
        rw [Nat.add_mul] at this; omega
      have hdiv := Nat.div_add_mod (j * k + i) h.length
      rw [e2] at hdiv
      rw [List.mem_map]
      refine ⟨(j * k + i) / h.length, List.mem_range.2 ?_, ?_⟩
      · exact Nat.div_lt_of_lt_mul (by omega)
      · rw [hdiv, Nat.mul_comm j k, Nat.mul_add_div hk, Nat.div_eq_of_lt hi, Nat.add_zero]
  · have : ((List.range n).filter fun j => decide (c ∈ (newT h lost tos k f d j).src)) = [] := by
      rw [List.filter_eq_nil_iff]
      intro j _ h2
      obtain ⟨i, -, e⟩ := newT_mem.1 (of_decide_eq_true h2)
      exact hc (e ▸ at_mem (Nat.mod_lt _ hm))
    rw [this]; exact Nat.zero_le _
theorem newT_nodup {h lost tos : List Int} {k f d j : Nat} (hn : h.Nodup) (hk : k ≤ h.length) : (newT h lost tos k f d j).src.Nodup := by
  rw [newT_eq]
  dsimp only
  refine (srt_perm _).nodup_iff.2 ?_
  unfold fromI
  rw [List.nodup_iff_pairwise_ne, List.pairwise_map]
  have hr := List.nodup_range (n := k)
  rw [List.nodup_iff_pairwise_ne] at hr
  refine hr.imp_of_mem fun {a b} ha hb hne e => ?_
  rw [List.mem_range] at ha hb
  have hm : 0 < h.length := by omega
  have e2 := nodup_at.1 hn _ _ (Nat.mod_lt _ hm) (Nat.mod_lt _ hm) e
  have key : ∀ x y : Nat, x < y → y < h.length → (j * k + x) % h.length = (j * k + y) % h.length → False := fun x y hxy hy e3 => by
    have h1 := Nat.sub_mod_eq_zero_of_mod_eq e3.symm
    rw [show j * k + y - (j * k + x) = y - x by omega, Nat.mod_eq_of_lt (by omega)] at h1
    omega
  rcases Nat.lt_or_gt_of_ne hne with h1 | h1
  · exact key a b h1 (by omega) e2
  · exact key b a h1 (by omega) e2.symm
theorem srt_sortedI (l : List Int) : sortedI (srt l) := fun i h0 hi => by
  have h1 := List.pairwise_iff_getElem.1 (srt_pw l) (i - 1) i (by omega) hi (by omega)
  have e1 : at' (srt l) (i - 1) = (srt l)[i - 1] := by unfold at'; rw [List.getD_eq_getElem?_getD, List.getElem?_eq_getElem (by omega)]; rfl
  have e2 : at' (srt l) i = (srt l)[i] := by unfold at'; rw [List.getD_eq_getElem?_getD, List.getElem?_eq_getElem hi]; rfl
  rw [e1, e2]; exact h1
theorem asc_pw {n : Int} {l : List Int} (h : ascTo n l l.length) : l.Pairwise (· ≤ ·) := by
  rw [List.pairwise_iff_getElem]
  intro i j hi hj hij
  have := asc_lt h hij hj
  have e1 : at' l i = l[i] := by simp [at', hi]
  have e2 : at' l j = l[j] := by simp [at', hj]
  omega
theorem survS_nodup {holders : List Int} (lost : List Int) (h : holders.Nodup) : (survS holders lost).Nodup := by
  unfold survS
  rw [List.nodup_iff_pairwise_ne, List.pairwise_map]
  have hr := (List.nodup_range (n := holders.length)).filter fun i : Nat => decide ((i : Int) ∉ lost)
  refine hr.imp_of_mem fun {a b} ha hb hne e => ?_
  have ha2 := List.mem_range.1 (List.mem_filter.1 ha).1
  have hb2 := List.mem_range.1 (List.mem_filter.1 hb).1
  exact hne (nodup_at.1 h _ _ ha2 hb2 e)
/-- Custodians with a fragment are all different. -/
theorem plan_has_nodup {holders lost tos : List Int} {width k : Nat} (htl : tos.length = lost.length) (hh : holders.Nodup) (hto : tos.Nodup) (hoff : ∀ x ∈ tos, x ∉ survS holders lost) (d : Nat) : (hasL (survS holders lost) (planAt (survS holders lost) lost tos width k d) d).Nodup := by
  unfold hasL
  refine (srt_perm _).nodup_iff.2 ?_
  rw [plan_end (Nat.le_refl d), (plan_map htl d).1, List.nodup_append]
  refine ⟨survS_nodup lost hh, (List.take_sublist _ _).nodup hto, fun a ha b hb e => ?_⟩
  subst e
  exact hoff a (List.mem_of_mem_take hb) ha
theorem at_map {l : List Tr} {m : List Int} {f : Tr → Int} (h : l.map f = m) {i : Nat} (hi : i < l.length) : f (tr l i) = at' m i := by
  subst h
  unfold at' tr
  simp [hi]
end Go.Sx
/- Plain: what a plan that there is says; where a fragment is. -/
namespace Go.Sx
open Go Go.Proofs
end Go.Sx
/- Plain: a situation that is better; one fragment less that is lost. -/
namespace Go.Sx
open Go Go.Proofs
structure GoodD (c : CaseP) : Prop where
  right : Right c.holders c.lost c.width c.k c.deadline
  len : c.tos.length = c.lost.length
  cu : custs c.tos
  off : ∀ x ∈ c.tos, x ∉ survS c.holders c.lost
theorem GoodC.d {c : CaseP} (h : GoodC c) : GoodD c := ⟨h.right, h.len, h.cu, h.off⟩
theorem good_ofD (c : CaseP) (h : GoodD c) : goodB c.holders c.lost c.tos c.width c.k c.deadline = !(decide (0 < c.lost.length) && decide (((survS c.holders c.lost).length : Int) < c.k)) := by
  have h1 : (c.tos.any fun x => (survS c.holders c.lost).contains x) = false := by
    rw [List.any_eq_false]; intro x hx hc; exact h.off x hx (List.contains_iff_mem.1 hc)
  unfold goodB
  rw [rightB_yes h.right, decide_eq_true h.len, decide_eq_true h.cu, h1]
  rfl
theorem plan_yesD (c : CaseP) (h : GoodD c) {j : Nat} (hs : 0 < c.lost.length → c.k ≤ ((survS c.holders c.lost).length : Int)) (h1 : (planAt (survS c.holders c.lost) c.lost c.tos c.width.toNat c.k.toNat j).length = c.lost.length) (hj : (j : Int) ≤ c.deadline) :
    planB c.holders c.lost c.tos c.width c.k c.deadline = true ∧ planR c.holders c.lost c.tos c.width c.k c.deadline = planAt (survS c.holders c.lost) c.lost c.tos c.width.toNat c.k.toNat j := by
  have hD : planD c.holders c.lost c.tos c.width c.k c.deadline = planAt (survS c.holders c.lost) c.lost c.tos c.width.toNat c.k.toNat j := plan_full (by omega) _ (by omega)
  have hB : planB c.holders c.lost c.tos c.width c.k c.deadline = true := by
    unfold planB
    rw [good_ofD c h, hD, h1, decide_eq_true (Nat.le_refl _), Bool.and_true]
    by_cases h0 : 0 < c.lost.length
    · have := hs h0
      rw [decide_eq_false (show ¬ ((survS c.holders c.lost).length : Int) < c.k by omega), Bool.and_false]; rfl
    · rw [decide_eq_false h0]; rfl
  refine ⟨hB, ?_⟩
  unfold planR
  rw [if_pos hB, hD]
theorem least {p : Nat → Prop} : ∀ n : Nat, p n → ∃ j, j ≤ n ∧ p j ∧ ∀ i, i < j → ¬ p i := by
  intro n
  induction n using Nat.strongRecOn with
  | ind n ih =>
    intro h
    by_cases hx : ∃ i, i < n ∧ p i
    · obtain ⟨i, hi, hp⟩ := hx
      obtain ⟨j, h1, h2, h3⟩ := ih i hi hp
      exact ⟨j, by omega, h2, h3⟩
    · exact ⟨n, Nat.le_refl n, h, fun i hi hp => hx ⟨i, hi, hp⟩⟩
theorem asc_sub {n : Int} {l m : List Int} (h : ascTo n l l.length) (hs : m.Sublist l) : ascTo n m m.length := by
  have hp : l.Pairwise (· < ·) := by
    rw [List.pairwise_iff_getElem]
    intro i j hi hj hij
    have := asc_lt h hij hj
    have e1 : at' l i = l[i] := by simp [at', hi]
    have e2 : at' l j = l[j] := by simp [at', hj]
    omega
  have hp2 := hp.sublist hs
  intro j hj
  refine ⟨asc_in h _ (hs.subset (at_mem hj)), fun h0 => ?_⟩
  have := List.pairwise_iff_getElem.1 hp2 (j - 1) j (by omega) hj (by omega)
  have e1 : at' m (j - 1) = m[j - 1] := by unfold at'; rw [List.getD_eq_getElem?_getD, List.getElem?_eq_getElem (by omega)]; rfl
  have e2 : at' m j = m[j] := by simp [at', hj]
  rw [e1, e2]; exact this
end Go.Sx

