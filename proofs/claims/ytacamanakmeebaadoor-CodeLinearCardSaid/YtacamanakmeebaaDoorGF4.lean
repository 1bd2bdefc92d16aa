/- Plain: the fragments of a string. -/
import Derived.Test.YtacamanakmeebaaDoorGF3
namespace Go.Sx
def mOf (l k : Nat) : Nat := (l + k - 1) / k
def zeros (n : Nat) : ByteArray := ⟨(List.replicate n (0 : UInt8)).toArray⟩
def padS (s : ByteArray) (k : Nat) : ByteArray := s ++ zeros (k * mOf s.size k - s.size)
def partOf (s : ByteArray) (k i : Nat) : ByteArray := (padS s k).extract (i * mOf s.size k) ((i + 1) * mOf s.size k)
def parts (s : ByteArray) (k : Nat) : List ByteArray := (List.range k).map (partOf s k)
/-- Fragment j of the string s. -/
def codeA (s : ByteArray) (k j : Nat) : ByteArray := if j < k then partOf s k j else cmpStr (parts s k) (List.range k) (wgtA (List.range k) j) (mOf s.size k)
def codeL (s : ByteArray) (k n : Nat) : List ByteArray := (List.range n).map (codeA s k)

theorem mOf_ge (l : Nat) {k : Nat} (h : 0 < k) : l ≤ k * mOf l k := by
  unfold mOf
  have h1 := Nat.div_add_mod (l + k - 1) k
  have h2 := Nat.mod_lt (l + k - 1) h
  omega
theorem mOf_lt (l : Nat) {k : Nat} (h : 0 < k) : k * mOf l k < l + k := by
  unfold mOf
  have h1 := Nat.div_add_mod (l + k - 1) k
  omega
theorem mOf_le {l k : Nat} (h : 0 < k) (hl : l ≤ 4096 * k) : mOf l k ≤ 4096 := by
  have h1 := mOf_lt l h
  have : k * mOf l k < k * 4097 := by omega
  have := Nat.lt_of_mul_lt_mul_left this
  omega
theorem zeros_size (n : Nat) : (zeros n).size = n := by simp [zeros, ByteArray.size]
theorem padS_size (s : ByteArray) {k : Nat} (h : 0 < k) : (padS s k).size = k * mOf s.size k := by
  have := mOf_ge s.size h
  unfold padS
  rw [ByteArray.size_append, zeros_size]
  omega
theorem partOf_size (s : ByteArray) {k i : Nat} (h : i < k) : (partOf s k i).size = mOf s.size k := by
  have h1 := padS_size s (show 0 < k by omega)
  have h2 : (i + 1) * mOf s.size k ≤ k * mOf s.size k := Nat.mul_le_mul_right _ (by omega)
  have h3 : (i + 1) * mOf s.size k = i * mOf s.size k + mOf s.size k := Nat.succ_mul _ _
  unfold partOf
  rw [ByteArray.size_extract, h1, Nat.min_eq_left h2]
  omega
theorem codeA_size (s : ByteArray) (k j : Nat) : (codeA s k j).size = mOf s.size k := by
  unfold codeA
  split
  · rename_i h; exact partOf_size s h
  · exact cmpStr_size _ _ _ _
theorem codeL_len (s : ByteArray) (k n : Nat) : (codeL s k n).length = n := by simp [codeL]
theorem codeL_fr (s : ByteArray) (k : Nat) {n i : Nat} (h : i < n) : fr (codeL s k n) i = codeA s k i := by simp [fr, codeL, h]
theorem parts_fr (s : ByteArray) {k i : Nat} (h : i < k) : fr (parts s k) i = codeA s k i := by simp [fr, parts, codeA, h]
theorem cmpS_congr {frs frs' : List ByteArray} {W W' : Nat → Nat} {q : Nat} : ∀ (nums : List Nat) (a : Nat), (∀ i ∈ nums, fr frs i = fr frs' i ∧ W i = W' i) → nums.foldl (cmpF frs W q) a = nums.foldl (cmpF frs' W' q) a
  | [], _, _ => rfl
  | i :: l, a, h => by
    have h1 := h i (by simp)
    simp only [List.foldl_cons]
    have : cmpF frs W q a i = cmpF frs' W' q a i := by unfold cmpF; rw [h1.1, h1.2]
    rw [this]
    exact cmpS_congr l _ fun j hj => h j (by simp [hj])
theorem cmpStr_congr {frs frs' : List ByteArray} {W W' : Nat → Nat} (nums : List Nat) (m : Nat) (h : ∀ i ∈ nums, fr frs i = fr frs' i ∧ W i = W' i) : cmpStr frs nums W m = cmpStr frs' nums W' m := by
  unfold cmpStr
  congr 2
  apply List.map_congr_left
  intro q _
  unfold cmpS
  rw [cmpS_congr nums 0 h]
end Go.Sx

