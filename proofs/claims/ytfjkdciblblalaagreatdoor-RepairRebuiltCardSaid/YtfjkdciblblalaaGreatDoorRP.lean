/- Plain: what Plan computes, and how transfers of the call's own lie. -/
import Derived.Test.YtfjkdciblblalaaGreatDoorRG
namespace Go.Sx
open Go Go.Proofs
/-- Transfer j of a day. -/
def newT (h lost tos : List Int) (k first day j : Nat) : Tr := ⟨at' lost (first + j), at' tos (first + j), srt ((List.range k).map fun i => at' h ((j * k + i) % h.length)), (day : Int), (day : Int) + 1⟩
def dayN (m w k L f : Nat) : Nat := min (m * w / k) (L - f)
def stepP (surv lost tos : List Int) (width k day : Nat) (out : List Tr) : List Tr :=
  out ++ (List.range (dayN (hasL surv out day).length width k lost.length out.length)).map (newT (hasL surv out day) lost tos k out.length day)
def planAt (surv lost tos : List Int) (width k : Nat) : Nat → List Tr
  | 0 => []
  | d + 1 => stepP surv lost tos width k d (planAt surv lost tos width k d)
def fromI (h : List Int) (kk j i : Nat) : List Int := (List.range i).map fun i => at' h ((j * kk + i) % h.length)
def dayO (O : List Tr) (h lost tos : List Int) (k d j : Nat) : List Tr := O ++ (List.range j).map (newT h lost tos k O.length d)
theorem fromI_step (h : List Int) (kk j i : Nat) : fromI h kk j (i + 1) = fromI h kk j i ++ [at' h ((j * kk + i) % h.length)] := by unfold fromI; rw [List.range_succ, List.map_append]; rfl
theorem fromI_len (h : List Int) (kk j i : Nat) : (fromI h kk j i).length = i := by simp [fromI]
theorem dayO_step (O : List Tr) (h lost tos : List Int) (k d j : Nat) : dayO O h lost tos k d (j + 1) = dayO O h lost tos k d j ++ [newT h lost tos k O.length d j] := by unfold dayO; rw [List.range_succ, List.map_append, List.append_assoc]; rfl
theorem dayO_zero (O : List Tr) (h lost tos : List Int) (k d : Nat) : dayO O h lost tos k d 0 = O := by simp [dayO]
theorem dayO_len (O : List Tr) (h lost tos : List Int) (k d j : Nat) : (dayO O h lost tos k d j).length = O.length + j := by simp [dayO]
theorem newT_eq (h lost tos : List Int) (k first day j : Nat) : newT h lost tos k first day j = ⟨at' lost (first + j), at' tos (first + j), srt (fromI h k j k), (day : Int), (day : Int) + 1⟩ := rfl
theorem srt_len (l : List Int) : (srt l).length = l.length := by unfold srt; exact List.length_mergeSort l
theorem srt_mem {l : List Int} {x : Int} : x ∈ srt l ↔ x ∈ l := by unfold srt; exact List.mem_mergeSort
theorem hasL_len (surv : List Int) (l : List Tr) (day : Int) : (hasL surv l day).length = surv.length + (endTo l day).length := by unfold hasL; rw [srt_len, List.length_append]
section
variable {surv lost tos : List Int} {width k : Nat}
theorem plan_len_le (d : Nat) : (planAt surv lost tos width k d).length ≤ lost.length := by
  induction d with
  | zero => exact Nat.zero_le _
  | succ d ih =>
    simp only [planAt, stepP, List.length_append, List.length_map, List.length_range]
    unfold dayN; omega
theorem plan_full {d : Nat} (h : lost.length ≤ (planAt surv lost tos width k d).length) : ∀ d', d ≤ d' → planAt surv lost tos width k d' = planAt surv lost tos width k d := by
  intro d' hd
  induction d' with
  | zero => obtain rfl : d = 0 := by omega
            rfl
  | succ e ih =>
    by_cases he : d = e + 1
    · subst he; rfl
    · have h2 := ih (by omega)
      simp only [planAt, stepP]
      rw [h2]
      have : dayN (hasL surv (planAt surv lost tos width k d) e).length width k lost.length (planAt surv lost tos width k d).length = 0 := by unfold dayN; rw [Nat.sub_eq_zero_of_le h]; exact Nat.min_zero _
      rw [this]; simp
theorem plan_stop (d : Nat) : ∀ t ∈ planAt surv lost tos width k d, t.stop ≤ d ∧ 1 ≤ t.stop ∧ t.stop = t.start + 1 ∧ 0 ≤ t.start := by
  induction d with
  | zero => intro t ht; simp [planAt] at ht
  | succ d ih =>
    intro t ht
    simp only [planAt, stepP, List.mem_append, List.mem_map, List.mem_range] at ht
    rcases ht with ht | ⟨j, -, rfl⟩
    · have := ih t ht; omega
    · show (d : Int) + 1 ≤ ((d + 1 : Nat) : Int) ∧ (1 : Int) ≤ (d : Int) + 1 ∧ (d : Int) + 1 = (d : Int) + 1 ∧ (0 : Int) ≤ (d : Int)
      omega
theorem endTo_all {l : List Tr} {day : Int} (h : ∀ t ∈ l, t.stop ≤ day) : endTo l day = l.map Tr.tos := by
  unfold endTo
  rw [List.filter_eq_self.2]
  intro t ht
  exact decide_eq_true (h t ht)
theorem plan_has_len (d : Nat) : (hasL surv (planAt surv lost tos width k d) d).length = surv.length + (planAt surv lost tos width k d).length := by
  rw [hasL_len, endTo_all fun t ht => (plan_stop d t ht).1, List.length_map]
theorem plan_src (d : Nat) : ∀ t ∈ planAt surv lost tos width k d, t.src.length = k := by
  induction d with
  | zero => intro t ht; simp [planAt] at ht
  | succ d ih =>
    intro t ht
    simp only [planAt, stepP, List.mem_append, List.mem_map, List.mem_range] at ht
    rcases ht with ht | ⟨j, -, rfl⟩
    · exact ih t ht
    · simp [newT, srt_len]
end
theorem asc_len {n : Nat} {l : List Int} (h : ascTo n l l.length) : l.length ≤ n := by
  have h1 : ∀ i, i < l.length → (i : Int) ≤ at' l i := by
    intro i
    induction i with
    | zero => intro hi; exact (h 0 hi).1.1
    | succ i ih =>
      intro hi
      have := asc_lt h (show i < i + 1 by omega) hi
      have := ih (by omega)
      omega
  by_cases h0 : l.length = 0
  · omega
  · have h2 := h1 (l.length - 1) (by omega)
    have h3 := (h (l.length - 1) (by omega)).1.2
    omega
theorem survS_len (holders lost : List Int) : (survS holders lost).length ≤ holders.length := by rw [← survTo_end]; exact survTo_len _
/- transfers of the call's own -/
def hval (t : Tr) (z : Option Addr × Nat) : Value := .slice z.1 t.src.length z.2
def tcells (l : List Tr) (zs : List (Option Addr × Nat)) : List Value := (l.zip zs).flatMap fun p => tcell p.1 (hval p.1 p.2)
def srcA (p : Tr × (Option Addr × Nat)) : Atom := A.grow 3 1 p.2.1 p.2.2 p.1.src.length (ints p.1.src)
def srcAts (l : List Tr) (zs : List (Option Addr × Nat)) : List Atom := (l.zip zs).map srcA
theorem tcells_snoc {l : List Tr} {zs : List (Option Addr × Nat)} (h : zs.length = l.length) (t : Tr) (z : Option Addr × Nat) : tcells (l ++ [t]) (zs ++ [z]) = tcells l zs ++ tcell t (hval t z) := by
  unfold tcells
  rw [List.zip_append h.symm, List.flatMap_append]
  simp
theorem srcAts_snoc {l : List Tr} {zs : List (Option Addr × Nat)} (h : zs.length = l.length) (t : Tr) (z : Option Addr × Nat) : srcAts (l ++ [t]) (zs ++ [z]) = srcAts l zs ++ [srcA (t, z)] := by
  unfold srcAts
  rw [List.zip_append h.symm, List.map_append]
  rfl
theorem tcells_len {l : List Tr} {zs : List (Option Addr × Nat)} (h : zs.length = l.length) : (tcells l zs).length = l.length * 5 := by
  induction l generalizing zs with
  | nil => simp [tcells]
  | cons t l ih =>
    cases zs with
    | nil => simp at h
    | cons z zs =>
      have := ih (zs := zs) (by simpa using h)
      unfold tcells at this ⊢
      simp only [List.zip_cons_cons, List.flatMap_cons, List.length_append, this]
      simp [tcell]; omega
theorem tcells_get {l : List Tr} {zs : List (Option Addr × Nat)} (h : zs.length = l.length) {i j : Nat} {u : Value} (hi : i < l.length) (hu : (tcell (tr l i) (hval (tr l i) (zs.getD i (none, 0))))[j]? = some u) : (tcells l zs)[i * 5 + j]? = some u := by
  induction l generalizing zs i with
  | nil => cases hi
  | cons t l ih =>
    cases zs with
    | nil => simp at h
    | cons z zs =>
      have hj : j < 5 := by
        have := (List.getElem?_eq_some_iff.1 hu).1
        simpa [tcell] using this
      have hc : tcells (t :: l) (z :: zs) = tcell t (hval t z) ++ tcells l zs := by simp [tcells]
      rw [hc]
      have h5 : (tcell t (hval t z)).length = 5 := rfl
      cases i with
      | zero =>
        rw [List.getElem?_append_left (by rw [h5]; omega), Nat.zero_mul, Nat.zero_add]
        simpa [tr] using hu
      | succ i =>
        rw [List.getElem?_append_right (by rw [h5]; omega), h5]
        have e : (i + 1) * 5 + j - 5 = i * 5 + j := by omega
        rw [e]
        refine ih (zs := zs) (by simpa using h) (by simpa using hi) ?_
        simpa [tr] using hu
theorem srcAts_mem {l : List Tr} {zs : List (Option Addr × Nat)} (h : zs.length = l.length) {i : Nat} (hi : i < l.length) : srcA (tr l i, zs.getD i (none, 0)) ∈ srcAts l zs := by
  unfold srcAts
  have h2 : i < (l.zip zs).length := by simp [h]; exact hi
  have h3 : i < zs.length := by omega
  refine List.mem_map.2 ⟨(l.zip zs)[i], List.getElem_mem h2, ?_⟩
  simp [tr, hi, h3]
theorem Hs.skip {x : Atom} {S : List Atom} : Hs (x :: S) S := ⟨[x], List.perm_append_comm (l₁ := [x])⟩
theorem Hs.end2 {x y g : Atom} {S : List Atom} : Hs (x :: y :: g :: S) (S ++ [g]) :=
  ⟨[x, y], (List.perm_append_comm (l₁ := [x, y]) (l₂ := g :: S)).trans (List.Perm.append_right _ (List.perm_append_comm (l₁ := [g]) (l₂ := S)))⟩
/-- Transfers of the call's own read as transfers. -/
theorem Mm.tl {w0 w : World} {H : List Atom} {a : Option Addr} {c : Nat} {l : List Tr} {zs : List (Option Addr × Nat)} (hM : Mm w0 H w) (hz : zs.length = l.length) (h1 : A.grow 37 5 a c l.length (tcells l zs) ∈ H)
    (h2 : ∀ x ∈ srcAts l zs, x ∈ H) : RdT w (.slice a l.length c) l := by
  have hown := hM.own h1
  refine ⟨a, c, fun i => hval (tr l i) (zs.getD i (none, 0)), rfl, ?_, ?_, fun i hi => ?_⟩
  · rcases hown.2 with ⟨hv, h0⟩ | ⟨g, cap, cur, hv, -, -, hnc, -⟩
    · omega
    · cases hv; exact hnc
  · by_cases h0 : l = []
    · exact .inl h0
    · right
      have hne : l.length ≠ 0 := fun e => h0 (List.eq_nil_of_length_eq_zero e)
      rcases hown.2 with ⟨hv, h3⟩ | ⟨g, cap, cur, hv, hbg, hg, rest⟩
      · exact absurd h3 hne
      · cases hv
        refine ⟨g, 0, rfl, (Array.getElem?_eq_some_iff.1 hg).1, fun i j u hi hu => ?_⟩
        have := tcells_get hz hi hu
        rw [Nat.zero_add]
        exact ownsRow_cell hown this
  · exact hM.gr (h2 _ (srcAts_mem hz hi))
end Go.Sx

