/- Plain: the string is its first fragments; rows of strings. -/
import Derived.Test.YtacamanakmeebaaDoorGL
namespace Go.Sx
theorem catS_snoc (l : List ByteArray) (x : ByteArray) : catS (l ++ [x]) = catS l ++ x := by
  apply ByteArray.ext
  apply Array.toList_inj.1
  simp [catS]
def textS (s : ByteArray) (k i : Nat) : ByteArray := catS ((List.range i).map (codeA s k))
theorem textS_succ (s : ByteArray) (k i : Nat) : textS s k (i + 1) = textS s k i ++ codeA s k i := by
  unfold textS
  rw [List.range_succ, List.map_append, List.map_cons, List.map_nil, catS_snoc]
theorem textS_size (s : ByteArray) (k i : Nat) : (textS s k i).size = i * mOf s.size k := by
  unfold textS
  rw [catS_size _ (mOf s.size k)]
  · simp
  · intro x hx
    obtain ⟨j, -, rfl⟩ := List.mem_map.1 hx
    exact codeA_size _ _ _
theorem textS_all (s : ByteArray) {k : Nat} (hk : 0 < k) : textS s k k = padS s k := by
  rw [← cat_parts s hk]
  unfold textS parts
  congr 1
  apply List.map_congr_left
  intro i hi
  have := List.mem_range.1 hi
  simp [codeA, this]
theorem strs_code (s : ByteArray) (k n : Nat) : strs (codeL s k n) = row n fun q => .string (codeA s k q) := by simp [strs, codeL, row]
theorem strs_row (n : Nat) (f : Nat → ByteArray) : strs ((List.range n).map f) = row n fun q => .string (f q) := by simp [strs, row]
theorem fr_range {n i : Nat} (f : Nat → ByteArray) (h : i < n) : fr ((List.range n).map f) i = f i := by simp [fr, h]
end Go.Sx

