/- Plain: Plan of the reference: who has a fragment, and which sources are taken. -/
import Derived.Test.YtcnjfccbfdoacaaRO
namespace Go.Sx
open Go Go.Proofs
theorem hasR_asc (surv : List Int) (l : List Tr) (day : Int) : (hasR surv l day).Pairwise (· < ·) := by
  unfold hasR
  rw [List.pairwise_map]
  exact ((List.pairwise_lt_range (n := 9)).filter _).imp fun {a b} h => by simp only [Int.ofNat_eq_natCast]; omega
theorem hasR_in {surv : List Int} {l : List Tr} {day c : Int} : c ∈ hasR surv l day ↔ (c ∈ surv ++ endTo l day ∧ 0 ≤ c ∧ c ≤ 8) := by
  unfold hasR
  constructor
  · intro h
    obtain ⟨n, hn, rfl⟩ := List.mem_map.1 h
    obtain ⟨h1, h2⟩ := List.mem_filter.1 hn
    rw [List.mem_range] at h1
    refine ⟨?_, by simp only [Int.ofNat_eq_natCast]; omega⟩
    unfold hasP at h2
    rw [List.mem_append]
    rw [Bool.or_eq_true] at h2
    rcases h2 with h2 | h2
    · exact .inl (of_decide_eq_true h2)
    · rw [List.any_eq_true] at h2
      obtain ⟨t, ht, h3⟩ := h2
      have h4 := of_decide_eq_true h3
      refine .inr ?_
      unfold endTo
      exact List.mem_map.2 ⟨t, List.mem_filter.2 ⟨ht, by simpa using h4.2⟩, h4.1⟩
  · rintro ⟨h, h0, h8⟩
    obtain ⟨n, rfl⟩ : ∃ n : Nat, c = (n : Int) := ⟨c.toNat, by omega⟩
    refine List.mem_map.2 ⟨n, List.mem_filter.2 ⟨List.mem_range.2 (by omega), ?_⟩, rfl⟩
    unfold hasP
    rw [Bool.or_eq_true]
    rcases List.mem_append.1 h with h | h
    · exact .inl (decide_eq_true h)
    · refine .inr (List.any_eq_true.2 ?_)
      unfold endTo at h
      obtain ⟨t, ht, h2⟩ := List.mem_map.1 h
      obtain ⟨h3, h4⟩ := List.mem_filter.1 ht
      exact ⟨t, h3, decide_eq_true ⟨h2, of_decide_eq_true h4⟩⟩
/-- All different, and custodians: the reference's list is the program's. -/
theorem hasR_eq {surv : List Int} {l : List Tr} {day : Int} (hn : (hasL surv l day).Nodup) (h8 : ∀ c ∈ surv ++ endTo l day, 0 ≤ c ∧ c ≤ 8) : hasR surv l day = hasL surv l day := by
  have hp := hasR_asc surv l day
  have hn2 : (surv ++ endTo l day).Nodup := (srt_perm _).nodup_iff.1 hn
  have hnR : (hasR surv l day).Nodup := by rw [List.nodup_iff_pairwise_ne]; exact hp.imp fun {a b} h e => by omega
  unfold hasL
  exact (srt_eq (hp.imp fun {a b} h => by omega) ((List.perm_ext_iff_of_nodup hn2 hnR).2 fun c => ⟨fun h => hasR_in.2 ⟨h, h8 c h⟩, fun h => (hasR_in.1 h).1⟩)).symm
theorem plan_hasR {holders lost to : List Int} {width k : Nat} (htl : to.length = lost.length) (hh : custs holders) (hto : custs to) (hoff : ∀ x ∈ to, x ∉ survS holders lost) (d : Nat) :
    hasR (survS holders lost) (planAt (survS holders lost) lost to width k d) d = hasL (survS holders lost) (planAt (survS holders lost) lost to width k d) d := by
  refine hasR_eq (plan_has_nodup htl hh.1 hto.1 hoff d) fun c hc => ?_
  rcases List.mem_append.1 hc with h | h
  · unfold survS at h
    obtain ⟨j, hj, e⟩ := List.mem_map.1 h
    rw [← e]
    exact hh.2 _ (at_mem (List.mem_range.1 (List.mem_filter.1 hj).1))
  · rw [plan_end (Nat.le_refl d), (plan_map htl d).1] at h
    exact hto.2 _ (List.mem_of_mem_take h)
/- the sources -/
def segS (h : List Int) (kk j p i : Nat) : List Int := ((List.range i).filter fun i => decide ((j * kk + i) % h.length = p)).map fun _ => at' h p
def segT (h : List Int) (kk j p : Nat) : List Int := (List.range p).flatMap fun p => segS h kk j p kk
theorem segS_step (h : List Int) (kk j p i : Nat) : segS h kk j p (i + 1) = segS h kk j p i ++ (if (j * kk + i) % h.length = p then [at' h p] else []) := by
  unfold segS
  rw [List.range_succ, List.filter_append, List.map_append]
  congr 1
  by_cases e : (j * kk + i) % h.length = p
  · rw [if_pos e]; simp [e]
  · rw [if_neg e]; simp [e]
theorem segT_step (h : List Int) (kk j p : Nat) : segT h kk j (p + 1) = segT h kk j p ++ segS h kk j p kk := by
  unfold segT
  rw [List.range_succ, List.flatMap_append]
  simp
theorem segS_len (h : List Int) (kk j p i : Nat) : (segS h kk j p i).length ≤ i := by
  unfold segS
  rw [List.length_map]
  have := List.length_filter_le (fun i => decide ((j * kk + i) % h.length = p)) (List.range i)
  rwa [List.length_range] at this
theorem segT_len (h : List Int) (kk j p : Nat) : (segT h kk j p).length ≤ p * kk := by
  induction p with
  | zero => simp [segT]
  | succ p ih =>
    rw [segT_step, List.length_append, Nat.succ_mul]
    have := segS_len h kk j p kk
    omega
theorem flat_app {α β : Type} (A B : α → List β) : ∀ l : List α, (l.flatMap fun x => A x ++ B x).Perm (l.flatMap A ++ l.flatMap B)
  | [] => List.Perm.refl _
  | x :: l => by
    simp only [List.flatMap_cons]
    have ih := flat_app A B l
    refine ((ih.append_left (A x ++ B x)).trans ?_)
    rw [List.append_assoc, List.append_assoc]
    refine List.Perm.append_left (A x) ?_
    rw [← List.append_assoc, ← List.append_assoc]
    exact List.Perm.append_right _ List.perm_append_comm
theorem flat_one {β : Type} (f : Nat → β) (q : Nat) : ∀ n, (List.range n).flatMap (fun p => if q = p then [f p] else []) = if q < n then [f q] else []
  | 0 => by simp
  | n + 1 => by
    rw [List.range_succ, List.flatMap_append, flat_one f q n]
    simp only [List.flatMap_cons, List.flatMap_nil, List.append_nil]
    by_cases e : q = n
    · subst e; rw [if_neg (Nat.lt_irrefl q), if_pos rfl, if_pos (Nat.lt_succ_self q)]; rfl
    · rw [if_neg e, List.append_nil]
      by_cases h : q < n
      · rw [if_pos h, if_pos (by omega)]
      · rw [if_neg h, if_neg (by omega)]
theorem seg_perm (h : List Int) (kk j : Nat) (h0 : 0 < h.length) : ∀ i, ((List.range h.length).flatMap fun p => segS h kk j p i).Perm (fromI h kk j i)
  | 0 => by
    have : ((List.range h.length).flatMap fun p => segS h kk j p 0) = [] := by
      rw [List.flatMap_eq_nil_iff]; intro p _; rfl
    rw [this]; exact List.Perm.refl _
  | i + 1 => by
    have e : ((List.range h.length).flatMap fun p => segS h kk j p (i + 1)) = (List.range h.length).flatMap fun p => segS h kk j p i ++ (if (j * kk + i) % h.length = p then [at' h p] else []) := by
      congr 1; funext p; exact segS_step h kk j p i
    rw [e, fromI_step]
    refine (flat_app _ _ _).trans ?_
    rw [flat_one (at' h) _ h.length, if_pos (Nat.mod_lt _ h0)]
    exact (seg_perm h kk j h0 i).append_right _
theorem pw_all {α : Type} {R : α → α → Prop} (h : ∀ a b, R a b) : ∀ l : List α, l.Pairwise R
  | [] => List.Pairwise.nil
  | _ :: l => List.Pairwise.cons (fun _ _ => h _ _) (pw_all h l)
theorem segT_eq {h : List Int} {kk j : Nat} (h0 : 0 < h.length) (hs : h.Pairwise (· ≤ ·)) : segT h kk j h.length = srt (fromI h kk j kk) := by
  refine (srt_eq ?_ (seg_perm h kk j h0 kk).symm).symm
  rw [List.pairwise_flatMap]
  refine ⟨fun p _ => ?_, ?_⟩
  · unfold segS
    rw [List.pairwise_map]
    exact pw_all (fun _ _ => Int.le_refl _) _
  · refine (List.pairwise_lt_range (n := h.length)).imp_of_mem fun {p q} hp hq hpq x hx y hy => ?_
    unfold segS at hx hy
    obtain ⟨_, _, rfl⟩ := List.mem_map.1 hx
    obtain ⟨_, _, rfl⟩ := List.mem_map.1 hy
    have hp2 := List.mem_range.1 hp
    have hq2 := List.mem_range.1 hq
    have := List.pairwise_iff_getElem.1 hs p q hp2 hq2 hpq
    have e1 : at' h p = h[p] := by simp [at', hp2]
    have e2 : at' h q = h[q] := by simp [at', hq2]
    omega
end Go.Sx

