/- Plain: whichever transfers repair a situation, Plan's are not later. -/
import Derived.Test.YtcnjfccbfdoacaaRX
namespace Go.Sx
open Go Go.Proofs
theorem count_le (w : Nat) : ∀ (h T : List Int), (∀ x ∈ T, x ∈ h) → (∀ c, T.count c ≤ w) → T.length ≤ h.length * w
  | [], T, h1, _ => by
    have : T = [] := List.eq_nil_iff_forall_not_mem.2 fun x hx => by cases h1 x hx
    rw [this]; exact Nat.zero_le _
  | c :: h, T, h1, h2 => by
    have h3 := filter_not_len (fun x : Int => x == c) T
    have h4 : (T.filter fun x => x == c).length = T.count c := by rw [List.count_eq_length_filter]
    have h5 := count_le w h (T.filter fun x => !(x == c)) (fun x hx => by
      rw [List.mem_filter] at hx
      rcases List.mem_cons.1 (h1 x hx.1) with e | e
      · subst e; simp at hx
      · exact e) (fun c' => Nat.le_trans (List.Sublist.count_le c' List.filter_sublist) (h2 c'))
    have h6 := h2 c
    rw [List.length_cons, Nat.add_mul, Nat.one_mul]
    omega
theorem cntP_all {surv : List Int} {l : List Tr} {width : Int} (h : ∀ i, i < l.length → StepOK surv l width i) (hw : 0 ≤ width) (s c : Int) : ∀ i, i ≤ l.length → (cntP (l.take i) s c : Int) ≤ width
  | 0, _ => by simp [cntP]; exact hw
  | i + 1, hi => by
    have h1 := cntP_step (show i < l.length by omega) s c
    by_cases e : (tr l i).start = s ∧ c ∈ (tr l i).src
    · have := (h i (by omega) c e.2).1
      rw [e.1] at this; exact this
    · rw [if_neg e] at h1
      rw [h1]; exact cntP_all h hw s c i (by omega)
def dayT (l : List Tr) (d : Nat) : List Tr := l.filter fun t => decide (t.start = (d : Int))
theorem day_sum {k : Nat} : ∀ (m : List Tr), (∀ t ∈ m, t.src.length = k) → (m.flatMap Tr.src).length = m.length * k
  | [], _ => by simp
  | t :: m, h => by
    rw [List.flatMap_cons, List.length_append, day_sum m fun u hu => h u (by simp [hu]), h t (by simp), List.length_cons, Nat.add_mul, Nat.one_mul]; omega
theorem day_count (d : Nat) (c : Int) : ∀ (l : List Tr), (∀ t ∈ l, t.src.Nodup) → ((dayT l d).flatMap Tr.src).count c = cntP l d c
  | [], _ => rfl
  | t :: l, h => by
    have ih := day_count d c l fun u hu => h u (by simp [hu])
    have hn := h t (by simp)
    unfold dayT cntP at *
    by_cases e : t.start = (d : Int)
    · rw [List.filter_cons_of_pos (by simpa using e), List.flatMap_cons, List.count_append, ih]
      by_cases hc : c ∈ t.src
      · rw [List.filter_cons_of_pos (by simp [e, hc]), List.length_cons, hn.count, if_pos hc]; omega
      · rw [List.filter_cons_of_neg (by simp [hc]), List.count_eq_zero_of_not_mem hc]; omega
    · rw [List.filter_cons_of_neg (by simpa using e), List.filter_cons_of_neg (by simp [e]), ih]
theorem end_step {l : List Tr} (h : ∀ t ∈ l, t.stop = t.start + 1) (d : Nat) : (endTo l ((d : Int) + 1)).length = (endTo l d).length + (dayT l d).length := by
  induction l with
  | nil => rfl
  | cons t l ih =>
    have h1 := ih fun u hu => h u (by simp [hu])
    have h2 := h t (by simp)
    unfold endTo dayT at *
    rw [List.length_map] at h1 ⊢
    rw [List.length_map] at h1 ⊢
    by_cases e1 : t.stop ≤ (d : Int)
    · rw [List.filter_cons_of_pos (by simp; omega), List.filter_cons_of_pos (by simp; omega), List.filter_cons_of_neg (by simp; omega), List.length_cons, List.length_cons, h1]; omega
    · by_cases e2 : t.start = (d : Int)
      · rw [List.filter_cons_of_pos (by simp; omega), List.filter_cons_of_neg (by simp; omega), List.filter_cons_of_pos (by simp; omega), List.length_cons, List.length_cons, h1]; omega
      · rw [List.filter_cons_of_neg (by simp; omega), List.filter_cons_of_neg (by simp; omega), List.filter_cons_of_neg (by simp; omega), h1]
/-- No valid transfers are faster than Plan's. -/
theorem fewest {holders lost to : List Int} {width k : Nat} {dl : Int} {m : List Tr} (h : ValidP holders lost (width : Int) (k : Int) dl m) : ∀ d : Nat, (endTo m d).length ≤ (planAt (survS holders lost) lost to width k d).length
  | 0 => by
    unfold endTo
    rw [List.filter_eq_nil_iff.2 (fun t ht => by
      obtain ⟨i, hi, e⟩ := List.getElem_of_mem ht
      have h1 := (h.ok i hi).1
      have e2 : tr m i = t := by simp [tr, hi, e]
      rw [e2] at h1
      have := h1.s; have := h1.e
      simp; omega)]
    exact Nat.zero_le _
  | d + 1 => by
    have ih := fewest h d (to := to)
    have hpre : ∀ t ∈ m, PreOK (k : Int) dl t ∧ ∀ c ∈ t.src, c ∈ hasL (survS holders lost) m t.start := fun t ht => by
      obtain ⟨i, hi, e⟩ := List.getElem_of_mem ht
      have h1 := h.ok i hi
      have e2 : tr m i = t := by simp [tr, hi, e]
      rw [e2] at h1
      refine ⟨h1.1, fun c hc => ?_⟩
      have := (h1.2 c (by rw [e2]; exact hc)).2
      rwa [e2] at this
    have hk := h.r.k
    have hst := end_step (l := m) (fun t ht => (hpre t ht).1.e) d
    have hle : (endTo m ((d : Int) + 1)).length ≤ m.length := endTo_len m _
    have hml := h.len
    have hsum := day_sum (k := k) (dayT m d) (fun t ht => by
      have := (hpre t (List.mem_filter.1 ht).1).1.n; omega)
    have hcnt := count_le width (hasL (survS holders lost) m d) ((dayT m d).flatMap Tr.src) (fun x hx => by
      obtain ⟨t, ht, hx⟩ := List.mem_flatMap.1 hx
      have ht2 := List.mem_filter.1 ht
      have e := of_decide_eq_true ht2.2
      have := (hpre t ht2.1).2 x hx
      rwa [e] at this) (fun c => by
      rw [day_count d c m fun t ht => (hpre t ht).1.nd]
      have := cntP_all (fun i hi => (h.ok i hi).2) (by omega) (d : Int) c m.length (Nat.le_refl _)
      rw [List.take_length] at this
      omega)
    rw [hsum, hasL_len] at hcnt
    have hdiv : (dayT m d).length ≤ ((survS holders lost).length + (endTo m d).length) * width / k := (Nat.le_div_iff_mul_le (by omega)).2 hcnt
    have hmon : ((survS holders lost).length + (endTo m d).length) * width / k ≤ ((survS holders lost).length + (planAt (survS holders lost) lost to width k d).length) * width / k := Nat.div_le_div_right (Nat.mul_le_mul_right width (by omega))
    have hp := plan_len_le (surv := survS holders lost) (lost := lost) (to := to) (width := width) (k := k) d
    rw [plan_succ_len]
    have e : ((d + 1 : Nat) : Int) = (d : Int) + 1 := by push_cast; rfl
    rw [e]
    unfold dayN
    generalize ((survS holders lost).length + (planAt (survS holders lost) lost to width k d).length) * width / k = x at *
    generalize ((survS holders lost).length + (endTo m d).length) * width / k = y at *
    omega
theorem fewest_plan {holders lost to : List Int} {width k dl : Nat} {m : List Tr} (hg : GoodC ⟨holders, lost, to, (width : Int), (k : Int), (dl : Int)⟩) (h : ValidP holders lost (width : Int) (k : Int) (dl : Int) m) :
    planB holders lost to (width : Int) (k : Int) (dl : Int) = true ∧ lastD (planR holders lost to (width : Int) (k : Int) (dl : Int)) ≤ lastD m := by
  have hpre : ∀ t ∈ m, PreOK (k : Int) (dl : Int) t ∧ ∀ c ∈ t.src, c ∈ hasL (survS holders lost) m t.start := fun t ht => by
    obtain ⟨i, hi, e⟩ := List.getElem_of_mem ht
    have h1 := h.ok i hi
    have e2 : tr m i = t := by simp [tr, hi, e]
    rw [e2] at h1
    refine ⟨h1.1, fun c hc => ?_⟩
    have := (h1.2 c (by rw [e2]; exact hc)).2
    rwa [e2] at this
  have h0 : 0 ≤ lastD m := by
    unfold lastD
    have key : ∀ (l : List Tr) (n : Int), n ≤ l.foldl (fun n t => max n t.stop) n := by
      intro l
      induction l with
      | nil => intro n; exact Int.le_refl _
      | cons u l ih => intro n; exact Int.le_trans (Int.le_max_left n u.stop) (ih _)
    exact key m 0
  have hd := h.r.d
  have hdl : lastD m ≤ (dl : Int) := lastD_le (by omega) fun t ht => by have := (hpre t ht).1.s; have := (hpre t ht).1.e; omega
  obtain ⟨J, hJ⟩ : ∃ J : Nat, (J : Int) = lastD m := ⟨(lastD m).toNat, by omega⟩
  have hall : (endTo m J).length = lost.length := by
    rw [endTo_all fun t ht => by rw [hJ]; exact le_lastD ht, List.length_map, h.len]
  have hf := fewest h J (to := to)
  have hle := plan_len_le (surv := survS holders lost) (lost := lost) (to := to) (width := width) (k := k) J
  have hk := h.r.k
  have hks : 0 < lost.length → (k : Int) ≤ ((survS holders lost).length : Int) := fun hL => by
    obtain ⟨j, -, h1, h2⟩ := least (p := fun j => 0 < (endTo m (j : Nat)).length) J (by omega)
    cases j with
    | zero =>
      exfalso
      unfold endTo at h1
      rw [List.length_map] at h1
      obtain ⟨t, ht⟩ := List.exists_mem_of_length_pos h1
      have ht2 := List.mem_filter.1 ht
      have := of_decide_eq_true ht2.2
      have h3 := (hpre t ht2.1).1
      have := h3.s; have := h3.e
      omega
    | succ j =>
      have h3 := h2 j (by omega)
      have hst := end_step (l := m) (fun t ht => (hpre t ht).1.e) j
      have e : ((j + 1 : Nat) : Int) = (j : Int) + 1 := by push_cast; rfl
      rw [e, hst] at h1
      obtain ⟨t, ht⟩ := List.exists_mem_of_length_pos (show 0 < (dayT m j).length by omega)
      have ht2 := List.mem_filter.1 ht
      have es := of_decide_eq_true ht2.2
      have hp := hpre t ht2.1
      have := count_le 1 (hasL (survS holders lost) m t.start) t.src hp.2 (fun c => by rw [hp.1.nd.count]; split <;> omega)
      rw [es, hasL_len] at this
      have := hp.1.n
      omega
  obtain ⟨hB, hP⟩ := plan_yes _ hg (j := J) hks (by dsimp only [Int.toNat_natCast]; omega) (by dsimp only; omega)
  refine ⟨hB, ?_⟩
  rw [hP, ← hJ]
  exact lastD_le (by omega) fun t ht => (plan_stop J t ht).1
end Go.Sx

