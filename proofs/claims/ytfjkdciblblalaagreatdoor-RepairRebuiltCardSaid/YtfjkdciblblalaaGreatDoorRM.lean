/- The laws' plan; plain: how many are rebuilt, and when. -/
import Derived.Test.YtfjkdciblblalaaGreatDoorRL
import Derived.Test.YtfjkdciblblalaaGreatDoorRI
namespace Go.Sx
open Go Go.Proofs
theorem filter_not_len {α : Type} (p : α → Bool) (l : List α) : (l.filter p).length + (l.filter fun x => !p x).length = l.length := by
  induction l with
  | nil => rfl
  | cons x l ih =>
    cases h : p x
    · rw [List.filter_cons_of_neg (by simp [h]), List.filter_cons_of_pos (by simp [h])]; simp only [List.length_cons]; omega
    · rw [List.filter_cons_of_pos (by simp [h]), List.filter_cons_of_neg (by simp [h])]; simp only [List.length_cons]; omega
theorem lost_count {n : Nat} {lost : List Int} (h : ascTo n lost lost.length) : ((List.range n).filter fun i : Nat => decide ((i : Int) ∈ lost)).length = lost.length := by
  have hnd := asc_nodup h
  have hp : ((List.range n).filter fun i : Nat => decide ((i : Int) ∈ lost)).Perm (lost.map Int.toNat) := by
    refine (List.perm_ext_iff_of_nodup (List.nodup_range.filter _) ?_).2 fun a => ?_
    · rw [List.nodup_iff_pairwise_ne, List.pairwise_map]
      rw [List.nodup_iff_pairwise_ne] at hnd
      refine hnd.imp_of_mem fun {a b} ha hb hne e => ?_
      have h3 := asc_in h a ha
      have h4 := asc_in h b hb
      omega
    · rw [List.mem_filter, List.mem_range, List.mem_map]
      constructor
      · rintro ⟨-, h2⟩
        exact ⟨(a : Int), by simpa using h2, by simp⟩
      · rintro ⟨x, hx, rfl⟩
        have h3 := asc_in h x hx
        refine ⟨by omega, ?_⟩
        rw [Int.toNat_of_nonneg h3.1]; exact decide_eq_true hx
  rw [hp.length_eq, List.length_map]
theorem surv_count {holders lost : List Int} (h : ascTo holders.length lost lost.length) : (survS holders lost).length + lost.length = holders.length := by
  have h1 := filter_not_len (fun i : Nat => decide ((i : Int) ∈ lost)) (List.range holders.length)
  rw [lost_count h, List.length_range] at h1
  unfold survS
  rw [List.length_map]
  have : (fun i : Nat => decide ((i : Int) ∉ lost)) = fun i : Nat => !decide ((i : Int) ∈ lost) := by
    funext i; rw [decide_not]
  rw [this]; omega
theorem plan_succ_len {surv lost tos : List Int} {width k : Nat} (d : Nat) : (planAt surv lost tos width k (d + 1)).length = (planAt surv lost tos width k d).length + dayN (surv.length + (planAt surv lost tos width k d).length) width k lost.length (planAt surv lost tos width k d).length := by
  simp only [planAt, stepP, List.length_append, List.length_map, List.length_range, plan_has_len]
theorem plan_mono {surv lost tos : List Int} {width k : Nat} {d d' : Nat} (h : d ≤ d') : (planAt surv lost tos width k d).length ≤ (planAt surv lost tos width k d').length := by
  induction d' with
  | zero => obtain rfl : d = 0 := by omega
            exact Nat.le_refl _
  | succ e ih =>
    by_cases he : d = e + 1
    · subst he; exact Nat.le_refl _
    · have := ih (by omega)
      rw [plan_succ_len]; omega
theorem lastD_append (l m : List Tr) : lastD (l ++ m) = m.foldl (fun n t => max n t.stop) (lastD l) := by unfold lastD; rw [List.foldl_append]
theorem lastD_le {l : List Tr} {d : Int} (h0 : 0 ≤ d) (h : ∀ t ∈ l, t.stop ≤ d) : lastD l ≤ d := by
  unfold lastD
  have : ∀ (l : List Tr) (n : Int), n ≤ d → (∀ t ∈ l, t.stop ≤ d) → l.foldl (fun n t => max n t.stop) n ≤ d := by
    intro l
    induction l with
    | nil => intro n hn _; exact hn
    | cons t l ih => intro n hn h; exact ih _ (Int.max_le.2 ⟨hn, h t (by simp)⟩) fun u hu => h u (by simp [hu])
  exact this l 0 h0 h
theorem le_lastD {l : List Tr} {t : Tr} (h : t ∈ l) : t.stop ≤ lastD l := by
  unfold lastD
  have key : ∀ (l : List Tr) (n : Int), n ≤ l.foldl (fun n t => max n t.stop) n := by
    intro l
    induction l with
    | nil => intro n; exact Int.le_refl _
    | cons u l ih => intro n; exact Int.le_trans (Int.le_max_left n u.stop) (ih _)
  have : ∀ (l : List Tr) (n : Int), t ∈ l → t.stop ≤ l.foldl (fun n t => max n t.stop) n := by
    intro l
    induction l with
    | nil => intro n h; cases h
    | cons u l ih =>
      intro n h
      rcases List.mem_cons.1 h with rfl | h
      · exact Int.le_trans (Int.le_max_right n t.stop) (key l _)
      · exact ih _ h
  exact this l 0 h
/-- The day on which a plan is through. -/
theorem plan_last {surv lost tos : List Int} {width k : Nat} {j : Nat} (h1 : (planAt surv lost tos width k j).length = lost.length) (h2 : ∀ i, i < j → (planAt surv lost tos width k i).length < lost.length) : lastD (planAt surv lost tos width k j) = j := by
  cases j with
  | zero => rfl
  | succ j =>
    refine Int.le_antisymm (lastD_le (by omega) fun t ht => (plan_stop (j + 1) t ht).1) ?_
    have h3 := h2 j (by omega)
    have h4 := plan_succ_len (surv := surv) (lost := lost) (tos := tos) (width := width) (k := k) j
    rw [h1] at h4
    have h5 : newT (hasL surv (planAt surv lost tos width k j) j) lost tos k (planAt surv lost tos width k j).length j 0 ∈ planAt surv lost tos width k (j + 1) := by
      simp only [planAt, stepP, List.mem_append, List.mem_map, List.mem_range]
      right
      refine ⟨0, ?_, rfl⟩
      rw [plan_has_len]; omega
    have := le_lastD h5
    have e : (newT (hasL surv (planAt surv lost tos width k j) j) lost tos k (planAt surv lost tos width k j).length j 0).stop = (j : Int) + 1 := rfl
    rw [e] at this
    push_cast; exact this
theorem good_of (c : CaseP) (h : GoodC c) : goodB c.holders c.lost c.tos c.width c.k c.deadline = !(decide (0 < c.lost.length) && decide (((survS c.holders c.lost).length : Int) < c.k)) := by
  have h1 : (c.tos.any fun x => (survS c.holders c.lost).contains x) = false := by
    rw [List.any_eq_false]; intro x hx hc; exact h.off x hx (List.contains_iff_mem.1 hc)
  unfold goodB
  rw [rightB_yes h.right, decide_eq_true h.len, decide_eq_true h.cu, h1]
  rfl
/-- A plan that there is. -/
theorem plan_yes (c : CaseP) (h : GoodC c) {j : Nat} (hs : 0 < c.lost.length → c.k ≤ ((survS c.holders c.lost).length : Int)) (h1 : (planAt (survS c.holders c.lost) c.lost c.tos c.width.toNat c.k.toNat j).length = c.lost.length) (hj : (j : Int) ≤ c.deadline) :
    planB c.holders c.lost c.tos c.width c.k c.deadline = true ∧ planR c.holders c.lost c.tos c.width c.k c.deadline = planAt (survS c.holders c.lost) c.lost c.tos c.width.toNat c.k.toNat j := by
  have hD : planD c.holders c.lost c.tos c.width c.k c.deadline = planAt (survS c.holders c.lost) c.lost c.tos c.width.toNat c.k.toNat j := plan_full (by omega) _ (by omega)
  have hB : planB c.holders c.lost c.tos c.width c.k c.deadline = true := by
    unfold planB
    rw [good_of c h, hD, h1, decide_eq_true (Nat.le_refl _), Bool.and_true]
    by_cases h0 : 0 < c.lost.length
    · have := hs h0
      rw [decide_eq_false (show ¬ ((survS c.holders c.lost).length : Int) < c.k by omega), Bool.and_false]; rfl
    · rw [decide_eq_false h0]; rfl
  refine ⟨hB, ?_⟩
  unfold planR
  rw [if_pos hB, hD]
theorem plan_no1 (c : CaseP) (h : GoodC c) (h0 : 0 < c.lost.length) (h1 : ((survS c.holders c.lost).length : Int) < c.k) : planB c.holders c.lost c.tos c.width c.k c.deadline = false := by
  unfold planB
  rw [good_of c h, decide_eq_true h0, decide_eq_true h1]; rfl
theorem plan_no2 (c : CaseP) (h : (planAt (survS c.holders c.lost) c.lost c.tos c.width.toNat c.k.toNat c.deadline.toNat).length < c.lost.length) : planB c.holders c.lost c.tos c.width c.k c.deadline = false := by
  unfold planB planD
  rw [decide_eq_false (by omega), Bool.and_false]
attribute [local irreducible] WC WL WX POp Then Again Fn NX W1 WA WO QL RP RA Yld LoopAt HC HL HX HN H1 HA HO HQ HB HP A.blk A.grow A.rd A.obj A.mp AgainH CutH
theorem planW_fn (c : CaseP) (zh zl zt : Option Addr × Nat) (hh : c.holders.length ≤ 1000000) (hl : c.lost.length ≤ 1000000) (ht : c.tos.length ≤ 1000000) (w : World) (hR : Rd w (.slice zh.1 c.holders.length zh.2) (ints c.holders)) (hS : Rd w (.slice zl.1 c.lost.length zl.2) (ints c.lost)) (hT : Rd w (.slice zt.1 c.tos.length zt.2) (ints c.tos)) :
    Fn Tryz.prog 8 #[.agg (caseV c zh zl zt).toArray] w fun x w' => ∃ z : List (Option Addr × Nat) × Option Addr × Nat, z.1.length = (planR c.holders c.lost c.tos c.width c.k c.deadline).length ∧
      x = .tuple #[.slice z.2.1 (planR c.holders c.lost c.tos c.width c.k c.deadline).length z.2.2, .int .i64 (if planB c.holders c.lost c.tos c.width c.k c.deadline = true then 0 else 190)] ∧
      Mm w [A.ts z.2.1 z.2.2 (planR c.holders c.lost c.tos c.width c.k c.deadline) z.1] w' := by
  refine enterH (l := [_]) rfl Tryz.ntmps8 rfl ?_
  repeat' (first | apply HL.fold | apply HA.fold | apply HL.nil | apply HX.n_then | apply HC.seq | apply HC.region | refine HL.pa ?_ | refine HL.ga rfl ?_ | refine HL.na rfl ?_ | refine HL.nu rfl rfl ?_ | apply HC.block | apply HC.skip | apply HC.exit | apply HC.ret | apply HX.e_block | refine HX.e_other rfl ?_ | apply HX.e_then | apply HX.e_again | apply HX.n_block | apply HX.r_then | apply HX.r_block | apply HX.r_again | refine HC.cond_yes rfl ?_ | refine HC.cond_no rfl ?_ | refine HL.one (H1.ldb rfl memA rfl rfl ?_) | refine HC.cond rfl (fun hc => ?_) (fun hc => ?_) | refine HC.cond_b rfl (fun hc => ?_) (fun hc => ?_))
  refine HL.one (H1.boxAgg (cs := caseV c zh zl zt) rfl rfl (fun b1 => ?_))
  unfold caseV
  repeat' (first | apply HL.fold | apply HA.fold | apply HL.nil | apply HX.n_then | apply HC.seq | apply HC.region | refine HL.pa ?_ | refine HL.ga rfl ?_ | refine HL.na rfl ?_ | refine HL.nu rfl rfl ?_ | apply HC.block | apply HC.skip | apply HC.exit | apply HC.ret | apply HX.e_block | refine HX.e_other rfl ?_ | apply HX.e_then | apply HX.e_again | apply HX.n_block | apply HX.r_then | apply HX.r_block | apply HX.r_again | refine HC.cond_yes rfl ?_ | refine HC.cond_no rfl ?_ | refine HL.one (H1.ldb rfl memA rfl rfl ?_) | refine HC.cond rfl (fun hc => ?_) (fun hc => ?_) | refine HC.cond_b rfl (fun hc => ?_) (fun hc => ?_))
  refine HL.one (H1.callz1 (An := fun z : List (Option Addr × Nat) × Option Addr × Nat => A.ts z.2.1 z.2.2 (planR c.holders c.lost c.tos c.width c.k c.deadline) z.1) (vs := [.slice zh.1 c.holders.length zh.2, .slice zl.1 c.lost.length zl.2, .slice zt.1 c.tos.length zt.2, .int .i64 c.width, .int .i64 c.k, .int .i64 c.deadline]) rfl rfl (fun w' hM => (plan_fn _ _ _ c.holders c.lost c.tos c.width c.k c.deadline hh hl ht w' (hM.rd0 hR) (hM.rd0 hS) (hM.rd0 hT)).mono fun x w'' ⟨z, h1, h2, h3⟩ => ⟨z, h1, h2, h3.pack1⟩) ?_)
  rintro ⟨z, a, cc⟩ hz
  dsimp only at hz ⊢
  repeat' (first | apply HL.fold | apply HA.fold | apply HL.nil | apply HX.n_then | apply HC.seq | apply HC.region | refine HL.pa ?_ | refine HL.ga rfl ?_ | refine HL.na rfl ?_ | refine HL.nu rfl rfl ?_ | apply HC.block | apply HC.skip | apply HC.exit | apply HC.ret | apply HX.e_block | refine HX.e_other rfl ?_ | apply HX.e_then | apply HX.e_again | apply HX.n_block | apply HX.r_then | apply HX.r_block | apply HX.r_again | refine HC.cond_yes rfl ?_ | refine HC.cond_no rfl ?_ | refine HL.one (H1.ldb rfl memA rfl rfl ?_) | refine HC.cond rfl (fun hc => ?_) (fun hc => ?_) | refine HC.cond_b rfl (fun hc => ?_) (fun hc => ?_))
  exact HX.ret2 rfl rfl rfl fun w' hM => ⟨(z, a, cc), hz, rfl, hM.sub (by repeat (first | exact Hs.nil _ | (refine Hs.cons pickA ?_)))⟩
end Go.Sx

