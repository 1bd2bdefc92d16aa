/- Plain: what a plan's transfers rebuild. -/
import Derived.Test.YtfjkdciblblalaaGreatDoorRV
import Derived.Test.YtfjkdciblblalaaGreatDoorGE
namespace Go.Sx
open Go Go.Proofs
theorem planB_inv {holders lost tos : List Int} {width k dl : Nat} (h : planB holders lost tos (width : Int) (k : Int) (dl : Int) = true) :
    Right holders lost (width : Int) (k : Int) (dl : Int) ∧ tos.length = lost.length ∧ custs tos ∧ (∀ x ∈ tos, x ∉ survS holders lost) ∧ (0 < lost.length → k ≤ (survS holders lost).length) ∧
      planR holders lost tos (width : Int) (k : Int) (dl : Int) = planAt (survS holders lost) lost tos width k dl ∧ (planAt (survS holders lost) lost tos width k dl).length = lost.length := by
  have hR : planR holders lost tos (width : Int) (k : Int) (dl : Int) = planAt (survS holders lost) lost tos width k dl := by unfold planR; rw [if_pos h]; rfl
  have hD : planD holders lost tos (width : Int) (k : Int) (dl : Int) = planAt (survS holders lost) lost tos width k dl := rfl
  unfold planB goodB at h
  rw [hD] at h
  simp only [Bool.and_eq_true, Bool.not_eq_true', decide_eq_true_eq, Bool.and_eq_false_iff, decide_eq_false_iff_not] at h
  obtain ⟨⟨⟨h1, h2, h3, h4⟩, h5⟩, h6⟩ := h
  have hr : Right holders lost (width : Int) (k : Int) (dl : Int) := Classical.byContradiction fun hn => by rw [rightB_no hn] at h1; cases h1
  refine ⟨hr, h2, h3, fun x hx hs => ?_, fun h0 => ?_, hR, ?_⟩
  · rw [List.any_eq_false] at h4
    exact h4 x hx (by simpa using hs)
  · rcases h5 with h5 | h5
    · exact absurd h0 h5
    · omega
  · have := plan_len_le (surv := survS holders lost) (lost := lost) (tos := tos) (width := width) (k := k) dl
    omega
/-- A transfer's sources have a fragment ahead of it. -/
theorem plan_before {surv lost tos : List Int} {width k D : Nat} (htl : tos.length = lost.length) (hs : 0 < surv.length) {i : Nat} (hi : i < (planAt surv lost tos width k D).length) {c : Int} (hc : c ∈ (tr (planAt surv lost tos width k D) i).src) :
    c ∈ surv ∨ ∃ q, q < i ∧ at' tos q = c := by
  have hmem := tr_mem hi
  obtain ⟨d, q, hd, hq, he⟩ := plan_mem hmem
  have hst := (plan_stop D _ hmem).2.2.1
  have hsd : (tr (planAt surv lost tos width k D) i).start = (d : Int) := by rw [he]; rfl
  have hnot : ¬ i < (planAt surv lost tos width k d).length := fun h => by
    have := (plan_stop_iff (surv := surv) (lost := lost) (tos := tos) (width := width) (k := k) (show d ≤ D by omega) hi).2 h
    omega
  have hhl : (hasL surv (planAt surv lost tos width k d) d).length = surv.length + (planAt surv lost tos width k d).length := plan_has_len d
  rw [he] at hc
  obtain ⟨i2, -, e⟩ := newT_mem.1 hc
  have hm : c ∈ hasL surv (planAt surv lost tos width k d) d := by rw [← e]; exact at_mem (Nat.mod_lt _ (by omega))
  unfold hasL at hm
  rw [srt_mem, List.mem_append, plan_end (Nat.le_refl d), (plan_map htl d).1] at hm
  rcases hm with hm | hm
  · exact .inl hm
  · obtain ⟨p, hp, rfl⟩ := mem_at hm
    rw [List.length_take] at hp
    exact .inr ⟨p, by omega, (at_take (by omega)).symm⟩
theorem plan_srcs {holders lost tos : List Int} {width k D : Nat} (htl : tos.length = lost.length) (hh : holders.Nodup) (hto : tos.Nodup) (hoff : ∀ x ∈ tos, x ∉ survS holders lost) (hks : k ≤ (survS holders lost).length) {i : Nat} (hi : i < (planAt (survS holders lost) lost tos width k D).length) :
    (tr (planAt (survS holders lost) lost tos width k D) i).src.Nodup ∧ (tr (planAt (survS holders lost) lost tos width k D) i).src.length = k := by
  have hmem := tr_mem hi
  obtain ⟨d, q, hd, hq, he⟩ := plan_mem hmem
  have hhl : (hasL (survS holders lost) (planAt (survS holders lost) lost tos width k d) d).length = (survS holders lost).length + (planAt (survS holders lost) lost tos width k d).length := plan_has_len d
  refine ⟨?_, plan_src D _ hmem⟩
  rw [he]
  exact newT_nodup (plan_has_nodup (width := width) (k := k) htl hh hto hoff d) (by omega)
/- which fragment a custodian has -/
structure Held (n : Nat) (holders lost tos : List Int) (S : ByteArray) (k j : Nat) (o : Nat → Int) (kept : Nat → ByteArray) : Prop where
  a : ∀ h, h < 9 → o h = -1 ∨ (∃ f : Nat, f < n ∧ (f : Int) ∉ lost ∧ o h = f ∧ at' holders f = h) ∨ ∃ q, q < j ∧ o h = at' lost q ∧ at' tos q = h
  b : ∀ h, h < 9 → 0 ≤ o h → kept h = codeA S k (o h).toNat
  c : ∀ f : Nat, f < n → (f : Int) ∉ lost → o (at' holders f).toNat = f
  d : ∀ q, q < j → o (at' tos q).toNat = at' lost q
section
variable {n : Nat} {holders lost tos : List Int} {S : ByteArray} {k j : Nat} {o : Nat → Int} {kept : Nat → ByteArray}
theorem Held.lt (h : Held n holders lost tos S k j o kept) (hasc : ascTo n lost lost.length) (hj : j ≤ lost.length) {q : Nat} (hq : q < 9) (h0 : 0 ≤ o q) : o q < n := by
  rcases h.a q hq with e | ⟨f, hf, -, e, -⟩ | ⟨p, hp, e, -⟩
  · omega
  · omega
  · have := (hasc p (by omega)).1; omega
theorem Held.inj (h : Held n holders lost tos S k j o kept) (hasc : ascTo n lost lost.length) (hj : j ≤ lost.length) {p q : Nat} (hp : p < 9) (hq : q < 9) (h0 : 0 ≤ o p) (e : o p = o q) : p = q := by
  rcases h.a p hp with e1 | ⟨f, hf, hfl, e1, e2⟩ | ⟨r, hr, e1, e2⟩
  · omega
  · rcases h.a q hq with e3 | ⟨g, hg, hgl, e3, e4⟩ | ⟨s, hs, e3, e4⟩
    · omega
    · have : f = g := by omega
      subst this; omega
    · exfalso
      apply hfl
      rw [show (f : Int) = at' lost s by omega]
      exact at_mem (by omega)
  · rcases h.a q hq with e3 | ⟨g, hg, hgl, e3, e4⟩ | ⟨s, hs, e3, e4⟩
    · have := (hasc r (by omega)).1; omega
    · exfalso
      apply hgl
      rw [show (g : Int) = at' lost r by omega]
      exact at_mem (by omega)
    · have : r = s := by
        by_cases h1 : r < s
        · have := asc_lt hasc h1 (by omega); omega
        · by_cases h2 : s < r
          · have := asc_lt hasc h2 (by omega); omega
          · omega
      subst this; omega
theorem Held.step (h : Held n holders lost tos S k j o kept) (hto : custs tos) (hhn : ∀ f, f < n → (f : Int) ∉ lost → at' holders f ∈ survS holders lost) (hh9 : ∀ f, f < n → 0 ≤ at' holders f) (hoff : ∀ x ∈ tos, x ∉ survS holders lost) (hasc : ascTo n lost lost.length) (htl : tos.length = lost.length) (hj : j < lost.length) :
    Held n holders lost tos S k (j + 1) (fun q => if q = (at' tos j).toNat then at' lost j else o q) (fun q => if q = (at' tos j).toNat then codeA S k (at' lost j).toNat else kept q) := by
  have hc8 := hto.2 _ (at_mem (show j < tos.length by omega))
  refine ⟨fun q hq => ?_, fun q hq h0 => ?_, fun f hf hfl => ?_, fun q hq => ?_⟩
  · skip
    by_cases e : q = (at' tos j).toNat
    · rw [if_pos e]; exact .inr (.inr ⟨j, by omega, rfl, by omega⟩)
    · rw [if_neg e]
      rcases h.a q hq with e1 | e1 | ⟨p, hp, e1⟩
      · exact .inl e1
      · exact .inr (.inl e1)
      · exact .inr (.inr ⟨p, by omega, e1⟩)
  · skip
    by_cases e : q = (at' tos j).toNat
    · rw [if_pos e, if_pos e]
    · rw [if_neg e] at h0 ⊢
      rw [if_neg e]
      exact h.b q hq h0
  · skip
    have h1 := hhn f hf hfl
    have h2 := hh9 f hf
    rw [if_neg]
    · exact h.c f hf hfl
    · intro e
      refine hoff _ (at_mem (show j < tos.length by omega)) ?_
      rw [show at' tos j = at' holders f by omega]
      exact h1
  · skip
    by_cases e : q = j
    · subst e; rw [if_pos rfl]
    · have h1 := hto.2 _ (at_mem (show q < tos.length by omega))
      rw [if_neg]
      · exact h.d q (by omega)
      · intro e2
        exact e (nodup_at.1 hto.1 q j (by omega) (by omega) (by omega))
end
theorem enough_of {th : List Bool} {k : Nat} {l : List Nat} (hn : l.Nodup) (hl : ∀ i ∈ l, i < th.length ∧ tf th i = true) (hk : k ≤ l.length) : (cN th k).length = k := by
  unfold cN tnums
  rw [List.length_take]
  have := nodup_le l ((List.range th.length).filter (tf th)) hn fun i hi => List.mem_filter.2 ⟨List.mem_range.2 (hl i hi).1, (hl i hi).2⟩
  omega
end Go.Sx

