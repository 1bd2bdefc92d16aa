/- Plain: the numbers of chapter 17 as natural numbers. No program in sight. -/
import Derived.Test.YtionfblneloaiaaGreatDoorSx
import Derived.Test.YtionfblneloaiaaGreatDoorSxAuto
import Derived.Lib.Join
import Derived.Lib.TrimByte
import Derived.KernelRfl
namespace Go.Sx
def redL : List Nat := [0, 29, 58, 39, 116, 105, 78, 83, 232, 245, 210, 207, 156, 129, 166, 187]
def fewP (a b : Nat) : Nat → Nat
  | 0 => 0
  | i + 1 => if (b >>> i) &&& 1 = 1 then fewP a b i ^^^ (a <<< i) else fewP a b i
def fewN (a b : Nat) : Nat := (fewP a b 4 &&& 255) ^^^ redL.getD (fewP a b 4 >>> 8) 0
def sixteenN (a : Nat) : Nat := ((a <<< 4) &&& 255) ^^^ redL.getD (a >>> 4) 0
def mulN (a b : Nat) : Nat := fewN a (b &&& 15) ^^^ sixteenN (fewN a (b >>> 4))
def invP (a : Nat) : Nat → Nat × Nat
  | 0 => (1, a)
  | i + 1 => let q := mulN (invP a i).2 (invP a i).2; (mulN (invP a i).1 q, q)
def invN (a : Nat) : Nat := (invP a 7).1

theorem redL_lt : ∀ i, redL.getD i 0 < 256 := by
  intro i
  rcases Nat.lt_or_ge i 16 with h | h
  · have : ∀ j : Fin 16, redL.getD j.1 0 < 256 := by decide
    exact this ⟨i, h⟩
  · simp [redL, List.getD_eq_getElem?_getD, List.getElem?_eq_none (show [0, 29, 58, 39, 116, 105, 78, 83, 232, 245, 210, 207, 156, 129, 166, 187].length ≤ i from h)]
theorem shl_lt {a i k n : Nat} (h : a < 2 ^ k) (hk : k + i ≤ n) : a <<< i < 2 ^ n := by
  rw [Nat.shiftLeft_eq]
  calc a * 2 ^ i < 2 ^ k * 2 ^ i := Nat.mul_lt_mul_of_pos_right h (Nat.two_pow_pos i)
    _ = 2 ^ (k + i) := (Nat.pow_add 2 k i).symm
    _ ≤ 2 ^ n := Nat.pow_le_pow_right (by decide) hk
theorem fewP_lt {a b : Nat} (ha : a < 256) : ∀ i, i ≤ 4 → fewP a b i < 4096
  | 0, _ => by simp [fewP]
  | i + 1, h => by
    have h1 := fewP_lt (b := b) ha i (by omega)
    have h2 : a <<< i < 2 ^ 12 := shl_lt (k := 8) ha (by omega)
    unfold fewP
    split
    · exact Nat.xor_lt_two_pow (n := 12) h1 h2
    · exact h1
theorem fewN_lt {a b : Nat} : fewN a b < 256 :=
  Nat.xor_lt_two_pow (n := 8) (Nat.lt_of_le_of_lt Nat.and_le_right (by decide)) (redL_lt _)
theorem sixteenN_lt {a : Nat} : sixteenN a < 256 :=
  Nat.xor_lt_two_pow (n := 8) (Nat.lt_of_le_of_lt Nat.and_le_right (by decide)) (redL_lt _)
theorem mulN_lt {a b : Nat} : mulN a b < 256 := Nat.xor_lt_two_pow (n := 8) fewN_lt sixteenN_lt
theorem invP_lt {a : Nat} (ha : a < 256) (i : Nat) : (invP a i).1 < 256 ∧ (invP a i).2 < 256 := by
  induction i with
  | zero => exact ⟨(by decide : 1 < 256), ha⟩
  | succ i ih => exact ⟨mulN_lt, mulN_lt⟩
theorem invN_lt {a : Nat} (ha : a < 256) : invN a < 256 := (invP_lt ha 7).1
end Go.Sx
namespace Go.Sx
/-- One step of a weight's denominator; of its numerator. -/
def belS (i acc h : Nat) : Nat := if h = i then acc else mulN acc (invN (i ^^^ h))
def outS (i x acc h : Nat) : Nat := if h = i then acc else mulN acc (x ^^^ h)
def bel (nums : List Nat) (i : Nat) : Nat := nums.foldl (belS i) 1
def belA (nums : List Nat) (j : Nat) : Nat := if j ∈ nums then bel nums j else 0
def wgt (nums : List Nat) (x i : Nat) : Nat := nums.foldl (outS i x) (bel nums i)
def wgtA (nums : List Nat) (x j : Nat) : Nat := if j ∈ nums then wgt nums x j else 0
theorem take_succ_foldl {α : Type} (f : α → Nat → α) (a : α) (l : List Nat) (k : Nat) (h : k < l.length) : (l.take (k + 1)).foldl f a = f ((l.take k).foldl f a) l[k] := by
  rw [List.take_succ_eq_append_getElem h, List.foldl_append]; rfl
theorem belF_lt (i : Nat) : ∀ (l : List Nat) (a : Nat), a < 256 → l.foldl (belS i) a < 256
  | [], a, h => h
  | x :: l, a, h => by
    refine belF_lt i l _ ?_
    unfold belS; split
    · exact h
    · exact mulN_lt
theorem outF_lt (i x : Nat) : ∀ (l : List Nat) (a : Nat), a < 256 → l.foldl (outS i x) a < 256
  | [], a, h => h
  | y :: l, a, h => by
    refine outF_lt i x l _ ?_
    unfold outS; split
    · exact h
    · exact mulN_lt
theorem bel_lt (nums : List Nat) (i : Nat) : bel nums i < 256 := belF_lt i nums 1 (by decide)
theorem wgt_lt (nums : List Nat) (x i : Nat) : wgt nums x i < 256 := outF_lt i x nums _ (bel_lt nums i)
/-- The k-th number. -/
def nu (nums : List Nat) (k : Nat) : Nat := nums.getD k 0
theorem nu_get {nums : List Nat} {k : Nat} (h : k < nums.length) : nums[k]? = some (nu nums k) := by simp [nu, h]
theorem nu_mem {nums : List Nat} {k : Nat} (h : k < nums.length) : nu nums k ∈ nums := List.mem_of_getElem? (nu_get h)
theorem len_pos {α : Type} {l : List α} (h : l ≠ []) : 0 < l.length := List.length_pos_iff.2 h
end Go.Sx
namespace Go.Sx
def fr (frs : List ByteArray) (i : Nat) : ByteArray := frs.getD i ByteArray.empty
def strs (l : List ByteArray) : List Value := l.map .string
theorem strs_get {l : List ByteArray} {i : Nat} (h : i < l.length) : (strs l)[i]? = some (.string (fr l i)) := by
  simp [strs, fr, h]
def cmpF (frs : List ByteArray) (W : Nat → Nat) (at' acc i : Nat) : Nat := acc ^^^ mulN (W i) (sb (fr frs i) at')
def cmpS (frs : List ByteArray) (nums : List Nat) (W : Nat → Nat) (at' : Nat) : Nat := nums.foldl (cmpF frs W at') 0
def cmpStr (frs : List ByteArray) (nums : List Nat) (W : Nat → Nat) (m : Nat) : ByteArray := ⟨((List.range m).map fun q => UInt8.ofNat (cmpS frs nums W q)).toArray⟩
theorem cmpFold_lt (frs : List ByteArray) (W : Nat → Nat) (q : Nat) : ∀ (l : List Nat) (a : Nat), a < 256 → l.foldl (cmpF frs W q) a < 256
  | [], _, h => h
  | _ :: l, _, h => cmpFold_lt frs W q l _ (Nat.xor_lt_two_pow (n := 8) h mulN_lt)
theorem cmpS_lt (frs : List ByteArray) (nums : List Nat) (W : Nat → Nat) (q : Nat) : cmpS frs nums W q < 256 := cmpFold_lt frs W q nums 0 (by decide)
theorem cmpStr_size (frs : List ByteArray) (nums : List Nat) (W : Nat → Nat) (m : Nat) : (cmpStr frs nums W m).size = m := by
  simp [cmpStr, ByteArray.size]
theorem cmpStr_sb (frs : List ByteArray) (nums : List Nat) (W : Nat → Nat) (m q : Nat) (h : q < m) : sb (cmpStr frs nums W m) q = cmpS frs nums W q := by
  have := cmpS_lt frs nums W q
  simp [sb, cmpStr, h]
  omega
end Go.Sx
namespace Go.Sx
def mOf (l k : Nat) : Nat := (l + k - 1) / k
def zeros (n : Nat) : ByteArray := ⟨(List.replicate n (0 : UInt8)).toArray⟩
def padS (s : ByteArray) (k : Nat) : ByteArray := s ++ zeros (k * mOf s.size k - s.size)
def partOf (s : ByteArray) (k i : Nat) : ByteArray := (padS s k).extract (i * mOf s.size k) ((i + 1) * mOf s.size k)
def parts (s : ByteArray) (k : Nat) : List ByteArray := (List.range k).map (partOf s k)
/-- Fragment j of the string s. -/
def codeA (s : ByteArray) (k j : Nat) : ByteArray := if j < k then partOf s k j else cmpStr (parts s k) (List.range k) (wgtA (List.range k) j) (mOf s.size k)
def codeL (s : ByteArray) (k n : Nat) : List ByteArray := (List.range n).map (codeA s k)

theorem mOf_ge (l : Nat) {k : Nat} (h : 0 < k) : l ≤ k * mOf l k := by
  unfold mOf
  have h1 := Nat.div_add_mod (l + k - 1) k
  have h2 := Nat.mod_lt (l + k - 1) h
  omega
theorem mOf_lt (l : Nat) {k : Nat} (h : 0 < k) : k * mOf l k < l + k := by
  unfold mOf
  have h1 := Nat.div_add_mod (l + k - 1) k
  omega
theorem mOf_le {l k : Nat} (h : 0 < k) (hl : l ≤ 4096 * k) : mOf l k ≤ 4096 := by
  have h1 := mOf_lt l h
  have : k * mOf l k < k * 4097 := by omega
  have := Nat.lt_of_mul_lt_mul_left this
  omega
theorem zeros_size (n : Nat) : (zeros n).size = n := by simp [zeros, ByteArray.size]
theorem padS_size (s : ByteArray) {k : Nat} (h : 0 < k) : (padS s k).size = k * mOf s.size k := by
  have := mOf_ge s.size h
  unfold padS
  rw [ByteArray.size_append, zeros_size]
  omega
theorem partOf_size (s : ByteArray) {k i : Nat} (h : i < k) : (partOf s k i).size = mOf s.size k := by
  have h1 := padS_size s (show 0 < k by omega)
  have h2 : (i + 1) * mOf s.size k ≤ k * mOf s.size k := Nat.mul_le_mul_right _ (by omega)
  have h3 : (i + 1) * mOf s.size k = i * mOf s.size k + mOf s.size k := Nat.succ_mul _ _
  unfold partOf
  rw [ByteArray.size_extract, h1, Nat.min_eq_left h2]
  omega
theorem codeA_size (s : ByteArray) (k j : Nat) : (codeA s k j).size = mOf s.size k := by
  unfold codeA
  split
  · rename_i h; exact partOf_size s h
  · exact cmpStr_size _ _ _ _
theorem codeL_len (s : ByteArray) (k n : Nat) : (codeL s k n).length = n := by simp [codeL]
theorem codeL_fr (s : ByteArray) (k : Nat) {n i : Nat} (h : i < n) : fr (codeL s k n) i = codeA s k i := by simp [fr, codeL, h]
theorem parts_fr (s : ByteArray) {k i : Nat} (h : i < k) : fr (parts s k) i = codeA s k i := by simp [fr, parts, codeA, h]
theorem cmpS_congr {frs frs' : List ByteArray} {W W' : Nat → Nat} {q : Nat} : ∀ (nums : List Nat) (a : Nat), (∀ i ∈ nums, fr frs i = fr frs' i ∧ W i = W' i) → nums.foldl (cmpF frs W q) a = nums.foldl (cmpF frs' W' q) a
  | [], _, _ => rfl
  | i :: l, a, h => by
    have h1 := h i (by simp)
    simp only [List.foldl_cons]
    have : cmpF frs W q a i = cmpF frs' W' q a i := by unfold cmpF; rw [h1.1, h1.2]
    rw [this]
    exact cmpS_congr l _ fun j hj => h j (by simp [hj])
theorem cmpStr_congr {frs frs' : List ByteArray} {W W' : Nat → Nat} (nums : List Nat) (m : Nat) (h : ∀ i ∈ nums, fr frs i = fr frs' i ∧ W i = W' i) : cmpStr frs nums W m = cmpStr frs' nums W' m := by
  unfold cmpStr
  congr 2
  apply List.map_congr_left
  intro q _
  unfold cmpS
  rw [cmpS_congr nums 0 h]
end Go.Sx
namespace Go.Sx
def isC (k n : Int) : Prop := 1 ≤ k ∧ k ≤ n ∧ n ≤ 9
instance (k n : Int) : Decidable (isC k n) := by unfold isC; infer_instance
def tf (th : List Bool) (i : Nat) : Bool := th.getD i false
def bools (l : List Bool) : List Value := l.map .bool
theorem bools_get {th : List Bool} {i : Nat} (h : i < th.length) : (bools th)[i]? = some (.bool (tf th i)) := by simp [bools, tf, h]
def tnums (th : List Bool) (i k : Nat) : List Nat := ((List.range i).filter (tf th)).take k
def cN (th : List Bool) (k : Nat) : List Nat := tnums th th.length k
def cM (frs : List ByteArray) (th : List Bool) (k : Nat) : Nat := (fr frs (nu (cN th k) 0)).size
def cOut (frs : List ByteArray) (th : List Bool) (k j : Nat) : ByteArray := cmpStr frs (cN th k) (wgtA (cN th k) j) (cM frs th k)
def CompOK (frs : List ByteArray) (th : List Bool) (k : Int) : Prop :=
  isC k frs.length ∧ th.length = frs.length ∧ (cN th k.toNat).length = k.toNat ∧ (∀ i, i < frs.length → tf th i = true → (fr frs i).size = cM frs th k.toNat ∧ cM frs th k.toNat ≤ 4096) ∧
    ∀ i, i < frs.length → tf th i = true → cOut frs th k.toNat i = fr frs i
theorem tnums_mem {th : List Bool} {i k j : Nat} (h : j ∈ tnums th i k) : j < i ∧ tf th j = true := by
  have := List.mem_of_mem_take h
  rw [List.mem_filter, List.mem_range] at this
  exact this
theorem tnums_len (th : List Bool) (i k : Nat) : (tnums th i k).length ≤ k := by unfold tnums; exact List.length_take_le _ _
theorem tnums_len2 (th : List Bool) (i k : Nat) : (tnums th i k).length ≤ i := by
  unfold tnums
  refine Nat.le_trans (List.length_take_le' _ _) ?_
  refine Nat.le_trans (List.length_filter_le _ _) ?_
  simp
theorem tnums_skip {th : List Bool} {i k : Nat} (h : tf th i = false) : tnums th (i + 1) k = tnums th i k := by
  unfold tnums; rw [List.range_succ, List.filter_append]; simp [h]
theorem tnums_full {th : List Bool} {i k : Nat} (h : ¬ (tnums th i k).length < k) : tnums th (i + 1) k = tnums th i k := by
  unfold tnums at h ⊢
  rw [List.length_take] at h
  rw [List.range_succ, List.filter_append, List.take_append_of_le_length (by omega)]
theorem tnums_add {th : List Bool} {i k : Nat} (h : tf th i = true) (h2 : (tnums th i k).length < k) : tnums th (i + 1) k = tnums th i k ++ [i] := by
  unfold tnums at h2 ⊢
  rw [List.length_take] at h2
  have h3 : ((List.range i).filter (tf th)).length < k := by omega
  rw [List.range_succ, List.filter_append, List.take_of_length_le (by simp [h]; omega), List.take_of_length_le (by omega)]
  simp [h]
end Go.Sx
namespace Go.Sx
open Go
theorem ba_len (s : ByteArray) : s.data.toList.length = s.size := rfl
def catS (l : List ByteArray) : ByteArray := ⟨(l.map (·.data.toList)).flatten.toArray⟩
theorem join_empty (l : List ByteArray) : (⟨(Lib.join (l.map (·.data.toList)) (ByteArray.mk #[]).data.toList).toArray⟩ : ByteArray) = catS l := by
  unfold catS
  congr 1
  cases l with
  | nil => rfl
  | cons x r =>
    rw [List.map_cons, Lib.join_cons]
    simp only [Lib.joinTail, List.flatten_cons, List.map_map]
    rfl
theorem catS_size (l : List ByteArray) (m : Nat) (h : ∀ x ∈ l, x.size = m) : (catS l).size = l.length * m := by
  unfold catS
  simp only [ByteArray.size, List.size_toArray]
  induction l with
  | nil => simp
  | cons x r ih =>
    have h1 := h x (by simp)
    have h2 := ih fun y hy => h y (by simp [hy])
    rw [List.map_cons, List.flatten_cons, List.length_append, h2, List.length_cons, Nat.succ_mul]
    have : x.data.toList.length = m := by rw [← h1, ba_len]
    omega
theorem dropWhile_nil (c : UInt8) : ∀ l : List UInt8, l.dropWhile (· == c) = [] ↔ ∀ b ∈ l, b = c
  | [] => by simp
  | b :: l => by
    by_cases e : b = c
    · subst e; simp [dropWhile_nil b l]
    · simp [e]
theorem trim_nil (l : List UInt8) (c : UInt8) : Lib.trimB l c = [] ↔ ∀ b ∈ l, b = c := by
  unfold Lib.trimB Lib.trimLeftB
  rw [dropWhile_nil]
  unfold Lib.trimRightB
  constructor
  · intro h
    have h2 : ∀ b ∈ l.reverse.dropWhile (· == c), b = c := fun b hb => h b (by simpa using hb)
    have h3 : l.reverse.dropWhile (· == c) = [] := by
      cases hd : l.reverse.dropWhile (· == c) with
      | nil => rfl
      | cons x r =>
        have hx : x = c := h2 x (by rw [hd]; simp)
        have := List.head_dropWhile_not (p := (· == c)) (l := l.reverse) (by rw [hd]; simp)
        simp only [hd, List.head_cons] at this
        simp [hx] at this
    intro b hb
    exact (dropWhile_nil c _).1 h3 b (by simpa using hb)
  · intro h b hb
    have : b ∈ l.reverse.dropWhile (· == c) := by simpa using hb
    exact h b (by simpa using (List.dropWhile_sublist _).subset this)
theorem ba_empty (l : List UInt8) : ((⟨l.toArray⟩ : ByteArray) = ByteArray.mk #[]) ↔ l = [] := by
  constructor
  · intro h
    have := congrArg (fun b : ByteArray => b.data.toList) h
    simpa using this
  · rintro rfl; rfl
def allOut (frs : List ByteArray) (th : List Bool) (k : Nat) : List ByteArray := (List.range frs.length).map (cOut frs th k)
def catO (frs : List ByteArray) (th : List Bool) (k : Nat) : ByteArray := catS ((List.range k).map (cOut frs th k))
def FragOK (frs : List ByteArray) (th : List Bool) (k which : Int) : Prop := CompOK frs th k ∧ 0 ≤ which ∧ which < frs.length
/-- The string may be got back. -/
def JoinOK (frs : List ByteArray) (th : List Bool) (k len : Int) : Prop :=
  CompOK frs th k ∧ 0 ≤ len ∧ len ≤ 4096 * k ∧ (cM frs th k.toNat : Int) = (len + k - 1) / k ∧ ∀ j, len.toNat ≤ j → j < (catO frs th k.toNat).size → sb (catO frs th k.toNat) j = 0
theorem cOut_size (frs : List ByteArray) (th : List Bool) (k j : Nat) : (cOut frs th k j).size = cM frs th k := cmpStr_size _ _ _ _
theorem catO_size (frs : List ByteArray) (th : List Bool) (k : Nat) : (catO frs th k).size = k * cM frs th k := by
  unfold catO
  rw [catS_size _ (cM frs th k)]
  · simp
  · intro x hx
    obtain ⟨j, -, rfl⟩ := List.mem_map.1 hx
    exact cOut_size _ _ _ _
theorem tail_zero (s : ByteArray) (n : Nat) (h : n ≤ s.size) : (∀ b ∈ (s.extract n s.size).data.toList, b = 0) ↔ ∀ j, n ≤ j → j < s.size → sb s j = 0 := by
  have hd : (s.extract n s.size).data.toList = s.data.toList.drop n := by
    rw [ByteArray.data_extract, Array.toList_extract, List.extract_eq_take_drop, List.take_of_length_le]
    rw [List.length_drop, ba_len]
    exact Nat.le_refl _
  rw [hd]
  constructor
  · intro h2 j h3 h4
    unfold sb
    have h5 : j < s.data.toList.length := h4
    rw [List.getD_eq_getElem?_getD, List.getElem?_eq_getElem h5]
    have := h2 s.data.toList[j] (by
      rw [List.mem_iff_getElem]
      exact ⟨j - n, by simp only [List.length_drop]; omega, by rw [List.getElem_drop]; congr 1; omega⟩)
    simp [this]
  · intro h2 b hb
    rw [List.mem_iff_getElem] at hb
    obtain ⟨i, hi, rfl⟩ := hb
    rw [List.getElem_drop]
    simp only [List.length_drop] at hi
    have h5 : n + i < s.size := by have := ba_len s; omega
    have := h2 (n + i) (by omega) h5
    unfold sb at this
    rw [List.getD_eq_getElem?_getD, List.getElem?_eq_getElem (by omega)] at this
    simp only [Option.getD_some] at this
    exact UInt8.toNat_inj.1 (by simpa using this)
theorem CompOK.cM_le {frs : List ByteArray} {th : List Bool} {k : Int} (h : CompOK frs th k) : cM frs th k.toNat ≤ 4096 := by
  obtain ⟨⟨h1, h2, h3⟩, h4, h5, h6, -⟩ := h
  have hp : 0 < (cN th k.toNat).length := by omega
  have hm := nu_mem hp
  have := tnums_mem hm
  exact (h6 _ (by omega) this.2).2
end Go.Sx
namespace Go.Sx
open Go
instance (frs : List ByteArray) (th : List Bool) (k : Int) : Decidable (CompOK frs th k) := by unfold CompOK; infer_instance
instance (frs : List ByteArray) (th : List Bool) (k w : Int) : Decidable (FragOK frs th k w) := by unfold FragOK; infer_instance
def exAb : ByteArray := ByteArray.mk #[97, 98]
def exL : List ByteArray := [ByteArray.mk #[97], ByteArray.mk #[98], ByteArray.mk #[103]]
theorem exL_eq : codeL exAb 2 3 = exL := by kernel_rfl
theorem exComp : CompOK exL [false, true, true] 2 := by decide +kernel
theorem exComp2 : CompOK exL [true, true, false] 2 := by decide +kernel
theorem exOut : cOut exL [true, true, false] 2 2 = ByteArray.mk #[103] := by kernel_rfl
theorem exCat : catO exL [false, true, true] 2 = exAb := by kernel_rfl
theorem exCM : cM exL [false, true, true] 2 = 1 := by kernel_rfl
theorem exNo : ¬ CompOK [ByteArray.mk #[120], ByteArray.mk #[98], ByteArray.mk #[103]] [true, true, true] 2 := by decide +kernel
theorem exMul1 : mulN 2 128 = 29 := by decide +kernel
theorem exMul2 : mulN 3 7 = 9 := by decide +kernel
theorem exInv1 : invN 2 = 142 := by decide +kernel
theorem exInv2 : invN 0 = 0 := by decide +kernel
theorem exJoin : JoinOK exL [false, true, true] 2 2 := by
  refine ⟨exComp, by decide, by decide, ?_, ?_⟩
  · show ((cM exL [false, true, true] 2 : Nat) : Int) = _
    rw [exCM]; rfl
  · intro j h1 h2
    rw [show (2 : Int).toNat = 2 from rfl, exCat] at h2
    have : exAb.size = 2 := rfl
    have : (2 : Int).toNat = 2 := rfl
    omega
theorem exJoinNo : ¬ JoinOK exL [false, true, true] 2 1 := by
  intro h
  have h5 := h.2.2.2.2 1 (by decide)
  rw [show (2 : Int).toNat = 2 from rfl, exCat] at h5
  have := h5 (by decide)
  revert this
  decide
end Go.Sx

