/- Plain: what the reference calls valid is what the program calls valid. -/
import Derived.Test.YtcnjfccbfdoacaaSE
import Derived.Test.YtcnjfccbfdoacaaRO
namespace Go.Sx
open Go Go.Proofs
theorem perm_nodup : ∀ (l m : List Int), l.Nodup → (∀ x ∈ l, x ∈ m) → m.length ≤ l.length → l.Perm m
  | [], m, _, _, h => by
    have : m = [] := List.eq_nil_of_length_eq_zero (by simpa using h)
    subst this; exact List.Perm.refl _
  | x :: l, m, h, hs, hl => by
    have hx := hs x (by simp)
    rw [List.nodup_cons] at h
    have h1 := perm_nodup l (m.erase x) h.2 (fun y hy => (List.mem_erase_of_ne (fun e => by subst e; exact h.1 hy)).2 (hs y (by simp [hy]))) (by rw [List.length_erase_of_mem hx]; simp only [List.length_cons] at hl; omega)
    exact (h1.cons x).trans (List.perm_cons_erase hx).symm
theorem wrap_in {x : Int} (h : -9223372036854775808 ≤ x ∧ x ≤ 9223372036854775807) : IntKind.i64.wrap x = x := IntWalk.i64_in _ h
theorem back_iff {s t d : Int} (ht : i64B t) (hs : 0 ≤ s ∧ s ≤ d - 1) (hd : d ≤ 1000) : IntKind.i64.wrap (t - 1) = s ↔ t = s + 1 := by
  by_cases h : t = -9223372036854775808
  · subst h
    rw [show IntKind.i64.wrap (-9223372036854775808 - 1) = 9223372036854775807 from by decide]
    omega
  · have h1 := ht.1
    have h2 := ht.2
    rw [wrap_in ⟨by omega, by omega⟩]
    omega
theorem hasR_mem {surv : List Int} {l : List Tr} {day c : Int} (h : c ∈ hasR surv l day) : c ∈ hasL surv l day := by
  unfold hasR at h
  obtain ⟨n, hn, rfl⟩ := List.mem_map.1 h
  have h2 := (List.mem_filter.1 hn).2
  unfold hasL
  rw [srt_mem, List.mem_append]
  unfold hasP at h2
  rw [Bool.or_eq_true] at h2
  rcases h2 with h2 | h2
  · exact .inl (of_decide_eq_true h2)
  · rw [List.any_eq_true] at h2
    obtain ⟨t, ht, h3⟩ := h2
    have h4 := of_decide_eq_true h3
    refine .inr ?_
    unfold endTo
    exact List.mem_map.2 ⟨t, List.mem_filter.2 ⟨ht, by simpa using h4.2⟩, h4.1⟩
theorem hasL_mem {surv : List Int} {l : List Tr} {day c : Int} (h : c ∈ hasL surv l day) (h0 : 0 ≤ c ∧ c ≤ 8) : c ∈ hasR surv l day := by
  unfold hasL at h
  rw [srt_mem, List.mem_append] at h
  obtain ⟨n, rfl⟩ : ∃ n : Nat, c = (n : Int) := ⟨c.toNat, by omega⟩
  unfold hasR
  refine List.mem_map.2 ⟨n, List.mem_filter.2 ⟨List.mem_range.2 (by omega), ?_⟩, rfl⟩
  unfold hasP
  rw [Bool.or_eq_true]
  rcases h with h | h
  · exact .inl (decide_eq_true h)
  · refine .inr (List.any_eq_true.2 ?_)
    unfold endTo at h
    obtain ⟨t, ht, h2⟩ := List.mem_map.1 h
    obtain ⟨h3, h4⟩ := List.mem_filter.1 ht
    exact ⟨t, h3, decide_eq_true ⟨h2, of_decide_eq_true h4⟩⟩
theorem cntP_mono (l : List Tr) (s c : Int) (n : Nat) : cntP (l.take n) s c ≤ cntP l s c := by
  unfold cntP
  exact ((List.take_sublist n l).filter _).length_le
theorem cntP_all {l : List Tr} {s c W : Int} (hW : 0 ≤ W) (h : ∀ i, i < l.length → (tr l i).start = s → c ∈ (tr l i).src → (cntP (l.take (i + 1)) s c : Int) ≤ W) : ∀ n, n ≤ l.length → (cntP (l.take n) s c : Int) ≤ W := by
  intro n
  induction n with
  | zero => intro _; simpa [cntP] using hW
  | succ n ih =>
    intro hn
    by_cases e : (tr l n).start = s ∧ c ∈ (tr l n).src
    · exact h n (by omega) e.1 e.2
    · rw [cntP_step (by omega), if_neg e]
      exact ih (by omega)
theorem strict_nodup {l : List Int} (h : ∀ q, q < l.length → 0 < q → at' l (q - 1) < at' l q) : l.Nodup ∧ sortedI l := by
  have hlt : ∀ d i, i + d + 1 < l.length → at' l i < at' l (i + d + 1) := by
    intro d
    induction d with
    | zero => intro i hi; have := h (i + 1) hi (by omega); rwa [Nat.add_sub_cancel] at this
    | succ d ih =>
      intro i hi
      have h1 := ih i (by omega)
      have h2 := h (i + (d + 1) + 1) hi (by omega)
      rw [Nat.add_sub_cancel] at h2
      rw [show i + (d + 1) = i + d + 1 from rfl] at h2
      rw [show i + (d + 1) + 1 = i + d + 1 + 1 from rfl]
      omega
  refine ⟨?_, fun i h0 hi => Int.le_of_lt (h i hi h0)⟩
  rw [List.nodup_iff_pairwise_ne, List.pairwise_iff_getElem]
  intro i j hi hj hij e
  have := hlt (j - i - 1) i (by omega)
  rw [show i + (j - i - 1) + 1 = j from by omega] at this
  have e1 : at' l i = l[i] := by simp [at', hi]
  have e2 : at' l j = l[j] := by simp [at', hj]
  omega
theorem sorted_strict {l : List Int} (hs : sortedI l) (hn : l.Nodup) {q : Nat} (hq : q < l.length) (h0 : 0 < q) : at' l (q - 1) < at' l q := by
  have h1 := hs q h0 hq
  have h2 : at' l (q - 1) ≠ at' l q := fun e => by
    have := nodup_at.1 hn (q - 1) q (by omega) hq e
    omega
  omega
theorem frags_nodup {l : List Tr} (h : ∀ i, i < l.length → (tr l i).frag ∉ (l.take i).map Tr.frag) : ∀ n, n ≤ l.length → ((l.take n).map Tr.frag).Nodup := by
  intro n
  induction n with
  | zero => intro _; simp
  | succ n ih =>
    intro hn
    rw [map_take Tr.frag (by omega), List.nodup_append]
    refine ⟨ih (by omega), by simp, fun a ha b hb e => ?_⟩
    rw [List.mem_singleton] at hb
    subst hb; subst e
    exact h n (by omega) ha
theorem rvalid_iff {holders lost : List Int} {width k deadline : Int} {l : List Tr} (hst : ∀ t ∈ l, i64B t.stop) : RValidP holders lost width k deadline l ↔ ValidP holders lost width k deadline l := by
  constructor
  · intro h
    have hd := h.r.d
    have hfn := frags_nodup (fun i hi => (h.pre i hi).new) l.length (Nat.le_refl _)
    rw [List.take_length] at hfn
    refine ⟨h.r, fun i hi => ⟨?_, fun c hc => ?_⟩, ?_, h.len, h.cu, fun c hc => ?_⟩
    · have hp := h.pre i hi
      have hs := strict_nodup (l := (tr l i).src) fun q hq h0 => (h.src i hi q hq).asc h0
      exact ⟨hp.st, (back_iff (hst _ (tr_mem hi)) hp.st hd.2).1 hp.en, hp.n, hs.2, hs.1⟩
    · obtain ⟨q, hq, rfl⟩ := mem_at hc
      have hs := h.src i hi q hq
      have := cntP_mono l (tr l i).start (at' (tr l i).src q) (i + 1)
      exact ⟨by have := hs.cnt; omega, hasR_mem hs.inH⟩
    · refine srt_eq (asc_pw h.r.asc) (perm_nodup _ _ hfn (fun x hx => ?_) (by rw [List.length_map, h.len]; exact Nat.le_refl _))
      obtain ⟨t, ht, rfl⟩ := List.mem_map.1 hx
      obtain ⟨i, hi, e⟩ := List.getElem_of_mem ht
      have h2 := (h.pre i hi).inL
      have e2 : tr l i = t := by simp [tr, hi, e]
      rwa [e2] at h2
    · obtain ⟨t, ht, rfl⟩ := List.mem_map.1 hc
      obtain ⟨i, hi, e⟩ := List.getElem_of_mem ht
      have h2 := (h.pre i hi).off
      have e2 : tr l i = t := by simp [tr, hi, e]
      rwa [e2] at h2
  · intro h
    have hd := h.r.d
    have hw := h.r.w
    have hfp : (l.map Tr.frag).Perm lost := by have := srt_perm (l.map Tr.frag); rw [h.fr] at this; exact this.symm
    have hfn : (l.map Tr.frag).Nodup := hfp.nodup_iff.2 (asc_nodup h.r.asc)
    refine ⟨h.r, h.len, fun i hi => ⟨?_, ?_, h.off _ (List.mem_map.2 ⟨_, tr_mem hi, rfl⟩), (h.ok i hi).1.s, ?_, (h.ok i hi).1.n⟩, h.cu, fun i hi q hq => ⟨?_, fun h0 => ?_, ?_⟩⟩
    · exact hfp.mem_iff.1 (List.mem_map.2 ⟨_, tr_mem hi, rfl⟩)
    · have h1 := hfn.sublist ((List.take_sublist (i + 1) l).map Tr.frag)
      rw [map_take Tr.frag hi, List.nodup_append] at h1
      intro hm
      exact h1.2.2 _ hm _ (by simp) rfl
    · exact (back_iff (hst _ (tr_mem hi)) (h.ok i hi).1.s hd.2).2 (h.ok i hi).1.e
    · have h1 := ((h.ok i hi).2 _ (at_mem hq)).2
      refine hasL_mem h1 ?_
      unfold hasL at h1
      rw [srt_mem, List.mem_append] at h1
      rcases h1 with h1 | h1
      · unfold survS at h1
        obtain ⟨j, hj, e⟩ := List.mem_map.1 h1
        rw [← e]
        exact h.r.cu.2 _ (at_mem (List.mem_range.1 (List.mem_filter.1 hj).1))
      · unfold endTo at h1
        obtain ⟨t, ht, e⟩ := List.mem_map.1 h1
        rw [← e]
        exact h.cu.2 _ (List.mem_map.2 ⟨t, (List.mem_filter.1 ht).1, rfl⟩)
    · exact sorted_strict (h.ok i hi).1.so (h.ok i hi).1.nd hq h0
    · have := cntP_all (l := l) (s := (tr l i).start) (c := at' (tr l i).src q) (W := width) (by omega) (fun j hj e hc => by rw [← e]; exact ((h.ok j hj).2 _ hc).1) l.length (Nat.le_refl _)
      rwa [List.take_length] at this
theorem rvalid_eq {holders lost : List Int} {width k deadline : Int} {l : List Tr} (hst : ∀ t ∈ l, i64B t.stop) : rvalidB holders lost width k deadline l = validB holders lost width k deadline l := by
  by_cases h : ValidP holders lost width k deadline l
  · rw [validB_yes h, rvalidB_yes ((rvalid_iff hst).2 h)]
  · rw [validB_no h, rvalidB_no fun h2 => h ((rvalid_iff hst).1 h2)]
end Go.Sx

