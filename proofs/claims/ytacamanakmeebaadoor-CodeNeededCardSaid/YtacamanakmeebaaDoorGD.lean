/- Plain: whichever k fragments are there, all are got back. -/
import Derived.Test.YtacamanakmeebaaDoorGC
namespace Go.Sx
open F
theorem sb_ext {a b : ByteArray} (hs : a.size = b.size) (h : ∀ q, q < a.size → sb a q = sb b q) : a = b := by
  cases a with
  | mk a =>
  cases b with
  | mk b =>
  congr 1
  apply Array.ext
  · exact hs
  · intro i h1 h2
    have h3 := h i h1
    unfold sb at h3
    have e1 : a.toList.getD i 0 = a[i] := by simp [h1]
    have e2 : b.toList.getD i 0 = b[i] := by simp [h2]
    simp only at h3
    rw [e1, e2] at h3
    exact UInt8.toNat_inj.1 h3
theorem tnums_nodup (th : List Bool) (i k : Nat) : (tnums th i k).Nodup := by
  unfold tnums
  exact (List.nodup_range.sublist List.filter_sublist).sublist (List.take_sublist _ _)
theorem cOut_sb (frs : List ByteArray) (th : List Bool) (k j q : Nat) (hth : th.length ≤ 256) (hj : j < 256) (hq : q < cM frs th k) :
    toF (sb (cOut frs th k j) q) = interp ((cN th k).map toF) (fun i => toF (sb (fr frs i.n) q)) (toF j) := by
  unfold cOut
  rw [cmpStr_sb _ _ _ _ _ hq, cmpS_interp _ _ (fun i hi => by have := (tnums_mem hi).1; omega) _ _ hj]
theorem toF_sb_inj {a b : ByteArray} {q : Nat} (h : toF (sb a q) = toF (sb b q)) : sb a q = sb b q := toF_inj (sb_lt _ _) (sb_lt _ _) h
/-- What is there agrees with the fragments of s, and is enough: everything is got back. -/
structure Agree (frs : List ByteArray) (th : List Bool) (s : ByteArray) (k : Nat) : Prop where
  pos : 0 < k
  th9 : th.length ≤ 9
  eq : ∀ i, i < th.length → tf th i = true → fr frs i = codeA s k i
  enough : (cN th k).length = k
theorem Agree.k9 {frs : List ByteArray} {th : List Bool} {s : ByteArray} {k : Nat} (h : Agree frs th s k) : k ≤ 9 := by
  have h1 := h.enough
  have h2 : (cN th k).length ≤ th.length := tnums_len2 _ _ _
  have := h.th9
  omega
theorem Agree.cM {frs : List ByteArray} {th : List Bool} {s : ByteArray} {k : Nat} (h : Agree frs th s k) : cM frs th k = mOf s.size k := by
  unfold Go.Sx.cM
  have hp : 0 < (cN th k).length := by rw [h.enough]; exact h.pos
  have hm := tnums_mem (nu_mem hp)
  rw [show fr frs (nu (cN th k) 0) = codeA s k (nu (cN th k) 0) from h.eq _ hm.1 hm.2, codeA_size]
theorem Agree.out {frs : List ByteArray} {th : List Bool} {s : ByteArray} {k : Nat} (h : Agree frs th s k) (j : Nat) (hj : j < 256) : cOut frs th k j = codeA s k j := by
  have hk := h.k9
  have h9 := h.th9
  refine sb_ext (by rw [cOut_size, codeA_size, h.cM]) fun q hq => toF_sb_inj ?_
  rw [cOut_size] at hq
  rw [cOut_sb frs th k j q (by omega) hj hq]
  rw [h.cM] at hq
  rw [codeA_poly s k j q (by omega) hj hq]
  refine interp_poly (map_toF_nodup (tnums_nodup _ _ _) fun i hi => by have := (tnums_mem hi).1; omega) ((List.length_map _).trans h.enough) (polyOf_isP s k q (by omega)) ?_ _
  intro i hi
  obtain ⟨a, ha, rfl⟩ := List.mem_map.1 hi
  have hm := tnums_mem ha
  rw [toF_n (by omega), h.eq a hm.1 hm.2, codeA_poly s k a q (by omega) (by omega) hq]
theorem Agree.ok {frs : List ByteArray} {th : List Bool} {s : ByteArray} {k : Nat} (h : Agree frs th s k) (hl : frs.length = th.length) (hs : s.size ≤ 4096 * k) : CompOK frs th k := by
  have h1 := h.enough
  have h2 : (cN th k).length ≤ th.length := tnums_len2 _ _ _
  have h3 := h.th9
  have h4 := h.pos
  refine ⟨⟨by omega, by omega, by omega⟩, hl.symm, by rw [Int.toNat_natCast]; exact h1, fun i hi ht => ?_, fun i hi ht => ?_⟩
  · rw [Int.toNat_natCast, h.cM, h.eq i (by omega) ht, codeA_size]
    exact ⟨rfl, mOf_le h.pos hs⟩
  · rw [Int.toNat_natCast, h.out i (by omega), h.eq i (by omega) ht]
/-- The string is the beginning of its first k fragments; behind it there is nothing but zeros. -/
theorem catS_sb : ∀ (l : List ByteArray) (m : Nat), (∀ x ∈ l, x.size = m) → ∀ i q, i < l.length → q < m → sb (catS l) (i * m + q) = sb (fr l i) q
  | [], _, _, _, _, h, _ => by cases h
  | x :: l, m, hm, i, q, hi, hq => by
    have hx := hm x (by simp)
    have hc : (catS (x :: l)).data.toList = x.data.toList ++ (catS l).data.toList := by
      unfold catS
      simp
    have hxl : x.data.toList.length = m := by rw [ba_len, hx]
    unfold sb
    rw [hc]
    cases i with
    | zero =>
      have : 0 * m + q < x.data.toList.length := by omega
      rw [List.getD_eq_getElem?_getD, List.getElem?_append_left this, ← List.getD_eq_getElem?_getD]
      simp [fr]
    | succ i =>
      have h2 := catS_sb l m (fun y hy => hm y (by simp [hy])) i q (by simpa using hi) hq
      have h3 : (i + 1) * m + q = m + (i * m + q) := by rw [Nat.succ_mul]; omega
      rw [List.getD_eq_getElem?_getD, List.getElem?_append_right (by omega), ← List.getD_eq_getElem?_getD]
      unfold sb at h2
      rw [show (i + 1) * m + q - x.data.toList.length = i * m + q by omega, h2]
      rfl
theorem sb_append_left {a b : ByteArray} {i : Nat} (h : i < a.size) : sb (a ++ b) i = sb a i := by
  unfold sb
  have e : (a ++ b).data.toList = a.data.toList ++ b.data.toList := by simp
  rw [e, List.getD_eq_getElem?_getD, List.getElem?_append_left (by rw [ba_len]; exact h), ← List.getD_eq_getElem?_getD]
theorem sb_append_right {a b : ByteArray} {i : Nat} (h : a.size ≤ i) : sb (a ++ b) i = sb b (i - a.size) := by
  unfold sb
  have e : (a ++ b).data.toList = a.data.toList ++ b.data.toList := by simp
  rw [e, List.getD_eq_getElem?_getD, List.getElem?_append_right (by rw [ba_len]; exact h), ← List.getD_eq_getElem?_getD, ba_len]
theorem sb_zeros (n i : Nat) : sb (zeros n) i = 0 := by
  unfold sb zeros
  simp only [List.getD_eq_getElem?_getD, List.getElem?_replicate]
  split <;> rfl
theorem sb_extract {a : ByteArray} {i j q : Nat} (hj : j ≤ a.size) (hq : i + q < j) : sb (a.extract i j) q = sb a (i + q) := by
  unfold sb
  rw [ByteArray.data_extract, Array.toList_extract, List.extract_eq_take_drop, List.getD_eq_getElem?_getD, List.getElem?_take_of_lt (by omega), List.getElem?_drop, ← List.getD_eq_getElem?_getD]
theorem padS_sb_in (s : ByteArray) (k : Nat) {i : Nat} (h : i < s.size) : sb (padS s k) i = sb s i := sb_append_left h
theorem padS_sb_out (s : ByteArray) (k : Nat) {i : Nat} (h : s.size ≤ i) : sb (padS s k) i = 0 := by
  unfold padS
  rw [sb_append_right h, sb_zeros]
theorem partOf_sb (s : ByteArray) {k i q : Nat} (hi : i < k) (hq : q < mOf s.size k) : sb (partOf s k i) q = sb (padS s k) (i * mOf s.size k + q) := by
  have h2 : (i + 1) * mOf s.size k ≤ k * mOf s.size k := Nat.mul_le_mul_right _ (by omega)
  have h3 : (i + 1) * mOf s.size k = i * mOf s.size k + mOf s.size k := Nat.succ_mul _ _
  unfold partOf
  rw [sb_extract (by rw [padS_size s (by omega)]; exact h2) (by omega)]
theorem cat_parts (s : ByteArray) {k : Nat} (hk : 0 < k) : catS (parts s k) = padS s k := by
  have hsz : (catS (parts s k)).size = k * mOf s.size k := by
    rw [catS_size _ (mOf s.size k)]
    · simp [parts]
    · intro x hx
      obtain ⟨i, hi, rfl⟩ := List.mem_map.1 hx
      exact partOf_size s (List.mem_range.1 hi)
  refine sb_ext (by rw [hsz, padS_size s hk]) fun q hq => ?_
  rw [hsz] at hq
  have hm : 0 < mOf s.size k := by
    rcases Nat.eq_zero_or_pos (mOf s.size k) with e | e
    · rw [e, Nat.mul_zero] at hq; cases hq
    · exact e
  have hd := Nat.div_add_mod q (mOf s.size k)
  have hr := Nat.mod_lt q hm
  have hi : q / mOf s.size k < k := Nat.div_lt_of_lt_mul (by rw [Nat.mul_comm]; exact hq)
  have e : q = q / mOf s.size k * mOf s.size k + q % mOf s.size k := by rw [Nat.mul_comm]; exact hd.symm
  rw [e, catS_sb (parts s k) (mOf s.size k) (fun x hx => by
    obtain ⟨i, hi, rfl⟩ := List.mem_map.1 hx
    exact partOf_size s (List.mem_range.1 hi)) _ _ (by simpa [parts] using hi) hr]
  have hf : fr (parts s k) (q / mOf s.size k) = partOf s k (q / mOf s.size k) := by rw [parts_fr s hi]; simp [codeA, hi]
  rw [hf, partOf_sb s hi hr]
theorem Agree.cat {frs : List ByteArray} {th : List Bool} {s : ByteArray} {k : Nat} (h : Agree frs th s k) : catO frs th k = padS s k := by
  rw [← cat_parts s h.pos]
  unfold catO parts
  congr 1
  apply List.map_congr_left
  intro i hi
  have := List.mem_range.1 hi
  have hk := h.k9
  rw [h.out i (by omega)]
  simp [codeA, this]
theorem padS_take (s : ByteArray) (k : Nat) : (padS s k).extract 0 s.size = s := by
  refine sb_ext ?_ fun q hq => ?_
  · rw [ByteArray.size_extract]
    unfold padS
    rw [ByteArray.size_append]
    omega
  · rw [ByteArray.size_extract] at hq
    have h1 : s.size ≤ (padS s k).size := by unfold padS; rw [ByteArray.size_append]; omega
    rw [sb_extract h1 (by omega), Nat.zero_add, padS_sb_in s k (by omega)]
theorem Agree.join {frs : List ByteArray} {th : List Bool} {s : ByteArray} {k : Nat} (h : Agree frs th s k) (hl : frs.length = th.length) (hs : s.size ≤ 4096 * k) : JoinOK frs th k s.size := by
  refine ⟨h.ok hl hs, by omega, by omega, ?_, ?_⟩
  · rw [Int.toNat_natCast, h.cM]
    unfold mOf
    have hp := h.pos
    rw [Int.natCast_ediv]
    congr 1
    omega
  · intro j h1 h2
    rw [Int.toNat_natCast] at h1 h2 ⊢
    rw [h.cat]
    exact padS_sb_out s k h1
end Go.Sx

