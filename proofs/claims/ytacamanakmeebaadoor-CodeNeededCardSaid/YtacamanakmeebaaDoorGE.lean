/- Plain: what the laws ask of the fragments. -/
import Derived.Test.YtacamanakmeebaaDoorGD
import Derived.Test.YtacamanakmeebaaDoorHx4
namespace Go.Sx
theorem cN_len {th : List Bool} {k : Nat} (h : k ≤ ((List.range th.length).filter (tf th)).length) : (cN th k).length = k := by
  unfold cN tnums
  rw [List.length_take]
  omega
theorem cN_few {th : List Bool} {k : Nat} (h : ((List.range th.length).filter (tf th)).length < k) : (cN th k).length < k := by
  unfold cN tnums
  rw [List.length_take]
  omega
theorem few_no {frs : List ByteArray} {th : List Bool} {k : Nat} (h : ((List.range th.length).filter (tf th)).length < k) : ¬ CompOK frs th k := fun hc => by
  have h1 := hc.2.2.1
  rw [Int.toNat_natCast] at h1
  have := cN_few h
  omega
theorem agree_code {s : ByteArray} {k n : Nat} {th : List Bool} (hk : 1 ≤ k) (hn : n ≤ 9) (hl : th.length = n) (h : k ≤ ((List.range th.length).filter (tf th)).length) : Agree (codeL s k n) th s k :=
  ⟨hk, by omega, fun i hi _ => codeL_fr s k (by omega), cN_len h⟩
/-- Lengths that are refused. -/
theorem Agree.far {frs : List ByteArray} {th : List Bool} {s : ByteArray} {k : Nat} (h : Agree frs th s k) {len : Int} (hf : len < 0 ∨ (k : Int) * (mOf s.size k : Int) < len ∨ len ≤ (k : Int) * ((mOf s.size k : Int) - 1)) : ¬ JoinOK frs th k len := fun hj => by
  have h1 := hj.2.2.2.1
  have h0 := hj.2.1
  rw [Int.toNat_natCast, h.cM] at h1
  have hp := h.pos
  generalize mOf s.size k = m at *
  have hd := Int.mul_ediv_add_emod (len + k - 1) k
  have hr0 := Int.emod_nonneg (len + k - 1) (show (k : Int) ≠ 0 by omega)
  have hr1 := Int.emod_lt_of_pos (len + k - 1) (show (0 : Int) < k by omega)
  rw [← h1] at hd
  rw [Int.mul_sub, Int.mul_one] at hf
  omega
end Go.Sx
namespace Go.Sx
open F
/-- The string with bytes XORed. -/
def xorS (s t : ByteArray) : ByteArray := mkS (min s.size t.size) fun q => sb s q ^^^ sb t q
theorem xorS_size (s t : ByteArray) : (xorS s t).size = min s.size t.size := mkS_size _ _
theorem xorS_sb (s t : ByteArray) {q : Nat} (h : q < min s.size t.size) : sb (xorS s t) q = sb s q ^^^ sb t q :=
  mkS_sb h (Nat.xor_lt_two_pow (n := 8) (sb_lt _ _) (sb_lt _ _))
theorem sum_add (S : List F) (f g : F → F) : F.sum S (fun i => f i + g i) = F.sum S f + F.sum S g := by
  unfold F.sum
  induction S with
  | nil => exact (F.add_zero _).symm
  | cons a S ih =>
    simp only [List.foldr_cons]
    rw [ih]
    simp only [F.add_assoc, F.add_left_comm]
theorem sum_congr {S : List F} {f g : F → F} (h : ∀ i ∈ S, f i = g i) : F.sum S f = F.sum S g := by
  unfold F.sum
  induction S with
  | nil => rfl
  | cons a S ih =>
    simp only [List.foldr_cons]
    rw [h a (by simp), ih fun i hi => h i (by simp [hi])]
theorem interp_add (S : List F) (f g : F → F) (x : F) : interp S (fun i => f i + g i) x = interp S f x + interp S g x := by
  unfold interp
  rw [← sum_add]
  exact sum_congr fun i _ => F.add_mul _ _ _
theorem interp_congr {S : List F} {f g : F → F} (h : ∀ i ∈ S, f i = g i) (x : F) : interp S f x = interp S g x := by
  unfold interp
  exact sum_congr fun i hi => by rw [h i hi]
theorem sb_out {s : ByteArray} {q : Nat} (h : s.size ≤ q) : sb s q = 0 := by
  unfold sb
  rw [List.getD_eq_getElem?_getD, List.getElem?_eq_none (by rw [ba_len]; exact h)]
  rfl
theorem padS_sb (s : ByteArray) (k q : Nat) : sb (padS s k) q = sb s q := by
  by_cases h : q < s.size
  · exact padS_sb_in s k h
  · rw [padS_sb_out s k (by omega), sb_out (by omega)]
/-- Byte q of part i of a string. -/
theorem part_byte (s : ByteArray) {k i q : Nat} (hi : i < k) (hq : q < mOf s.size k) : sb (partOf s k i) q = sb s (i * mOf s.size k + q) := by
  rw [partOf_sb s hi hq, padS_sb]
theorem poly_bytes (s : ByteArray) (k q : Nat) (hk : k ≤ 256) (hq : q < mOf s.size k) (x : F) : polyOf s k q x = interp ((List.range k).map toF) (fun i => toF (sb s (i.n * mOf s.size k + q))) x := by
  unfold polyOf
  refine interp_congr (fun i hi => ?_) x
  obtain ⟨a, ha, rfl⟩ := List.mem_map.1 hi
  have := List.mem_range.1 ha
  rw [toF_n (by omega), part_byte s this hq]
theorem xorS_sb_all {s t : ByteArray} (h : s.size = t.size) (q : Nat) : sb (xorS s t) q = sb s q ^^^ sb t q := by
  by_cases hq : q < s.size
  · exact xorS_sb s t (by omega)
  · rw [sb_out (s := xorS s t) (by rw [xorS_size]; omega), sb_out (s := s) (by omega), sb_out (s := t) (by omega)]; rfl
theorem code_xor {s t : ByteArray} (h : s.size = t.size) {k j : Nat} (hk : k ≤ 256) (hj : j < 256) : codeA (xorS s t) k j = xorS (codeA s k j) (codeA t k j) := by
  have hx : (xorS s t).size = s.size := by rw [xorS_size]; omega
  refine sb_ext ?_ fun q hq => toF_sb_inj ?_
  · rw [codeA_size, xorS_size (codeA s k j), codeA_size, codeA_size, hx, h]; omega
  · rw [codeA_size, hx] at hq
    have hqt : q < mOf t.size k := by rw [← h]; exact hq
    rw [xorS_sb _ _ (by rw [codeA_size, codeA_size, h]; rw [h] at hq; omega), toF_xor (sb_lt _ _) (sb_lt _ _), codeA_poly _ _ _ _ hk hj (by rw [hx]; exact hq), codeA_poly s _ _ _ hk hj hq, codeA_poly t _ _ _ hk hj hqt,
      poly_bytes _ _ _ hk (by rw [hx]; exact hq), poly_bytes s _ _ hk hq, poly_bytes t _ _ hk hqt, ← interp_add]
    refine interp_congr (fun i _ => ?_) _
    rw [hx, xorS_sb_all h, toF_xor (sb_lt _ _) (sb_lt _ _), h]
/-- Fragments that belong together, of which k are those of a string, are all those of this string. -/
theorem comp_same {frs : List ByteArray} {th : List Bool} {S : ByteArray} {k : Nat} (hc : CompOK frs th k) (A : List Nat) (hA : k ≤ A.length) (hn : A.Nodup) (hin : ∀ a ∈ A, a < frs.length ∧ tf th a = true ∧ fr frs a = codeA S k a)
    {w : Nat} (hw : w < frs.length) (htw : tf th w = true) : fr frs w = codeA S k w := by
  obtain ⟨⟨h1, h2, h3⟩, h4, h5, h6, h7⟩ := hc
  rw [Int.toNat_natCast] at h5 h6 h7
  have hk1 : 1 ≤ k := by omega
  have hk9 : k ≤ 9 := by omega
  have hth9 : th.length ≤ 9 := by omega
  obtain ⟨a0, ha0⟩ : ∃ a, a ∈ A := by
    cases A with
    | nil => simp at hA; omega
    | cons a A => exact ⟨a, by simp⟩
  obtain ⟨g1, g2, g3⟩ := hin a0 ha0
  have hcm : cM frs th k = mOf S.size k := by rw [← (h6 a0 g1 g2).1, g3, codeA_size]
  refine sb_ext (by rw [(h6 w hw htw).1, codeA_size, hcm]) fun q hq => toF_sb_inj ?_
  rw [(h6 w hw htw).1] at hq
  have hP : IsP k fun x => interp ((cN th k).map toF) (fun i => toF (sb (fr frs i.n) q)) x := by
    have := interp_isP (map_toF_nodup (tnums_nodup th th.length k) fun i hi => by have := (tnums_mem hi).1; omega) (fun i => toF (sb (fr frs i.n) q))
    rwa [List.length_map, show (tnums th th.length k).length = k from h5] at this
  have hat : ∀ i, i < frs.length → tf th i = true → toF (sb (fr frs i) q) = interp ((cN th k).map toF) (fun i => toF (sb (fr frs i.n) q)) (toF i) := fun i hi ht => by
    rw [← cOut_sb frs th k i q (by omega) (by omega) hq, h7 i hi ht]
  rw [hat w hw htw, codeA_poly S k w q (by omega) (by omega) (by rw [← hcm]; exact hq)]
  refine IsP.unique hP (polyOf_isP S k q (by omega)) (A.map toF) (by rw [List.length_map]; exact hA) (map_toF_nodup hn fun i hi => by have := (hin i hi).1; omega) (fun r hr => ?_) _
  obtain ⟨a, ha, rfl⟩ := List.mem_map.1 hr
  obtain ⟨e1, e2, e3⟩ := hin a ha
  rw [← hat a e1 e2, e3, codeA_poly S k a q (by omega) (by omega) (by rw [← hcm]; exact hq)]
/-- A changed fragment is another one. -/
def chgS (s : ByteArray) (i c : Nat) : ByteArray := s.extract 0 i ++ mkS 1 (fun _ => sb s i ^^^ c) ++ s.extract (i + 1) s.size
theorem chgS_ne {s : ByteArray} {i c : Nat} (hi : i < s.size) (hc : c < 256) (h0 : 0 < c) : chgS s i c ≠ s := fun h => by
  have h1 : sb (chgS s i c) i = sb s i := by rw [h]
  have e1 : (s.extract 0 i).size = i := by rw [ByteArray.size_extract]; omega
  have hx := Nat.xor_lt_two_pow (n := 8) (sb_lt s i) hc
  unfold chgS at h1
  rw [sb_append_left (by rw [ByteArray.size_append, e1, mkS_size]; omega), sb_append_right (by omega), e1, Nat.sub_self, mkS_sb (f := fun _ => sb s i ^^^ c) (by decide) hx] at h1
  have h2 : sb s i ^^^ (sb s i ^^^ c) = 0 := by rw [h1, Nat.xor_self]
  rw [← Nat.xor_assoc, Nat.xor_self, Nat.zero_xor] at h2
  omega
end Go.Sx
namespace Go.Sx
theorem catS_snoc (l : List ByteArray) (x : ByteArray) : catS (l ++ [x]) = catS l ++ x := by
  apply ByteArray.ext
  apply Array.toList_inj.1
  simp [catS]
def textS (s : ByteArray) (k i : Nat) : ByteArray := catS ((List.range i).map (codeA s k))
theorem textS_succ (s : ByteArray) (k i : Nat) : textS s k (i + 1) = textS s k i ++ codeA s k i := by
  unfold textS
  rw [List.range_succ, List.map_append, List.map_cons, List.map_nil, catS_snoc]
theorem textS_size (s : ByteArray) (k i : Nat) : (textS s k i).size = i * mOf s.size k := by
  unfold textS
  rw [catS_size _ (mOf s.size k)]
  · simp
  · intro x hx
    obtain ⟨j, -, rfl⟩ := List.mem_map.1 hx
    exact codeA_size _ _ _
theorem textS_all (s : ByteArray) {k : Nat} (hk : 0 < k) : textS s k k = padS s k := by
  rw [← cat_parts s hk]
  unfold textS parts
  congr 1
  apply List.map_congr_left
  intro i hi
  have := List.mem_range.1 hi
  simp [codeA, this]
theorem strs_code (s : ByteArray) (k n : Nat) : strs (codeL s k n) = row n fun q => .string (codeA s k q) := by simp [strs, codeL, row]
theorem strs_row (n : Nat) (f : Nat → ByteArray) : strs ((List.range n).map f) = row n fun q => .string (f q) := by simp [strs, row]
theorem fr_range {n i : Nat} (f : Nat → ByteArray) (h : i < n) : fr ((List.range n).map f) i = f i := by simp [fr, h]
end Go.Sx

