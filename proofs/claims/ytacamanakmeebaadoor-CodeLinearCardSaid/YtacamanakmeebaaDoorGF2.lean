/- Plain: weights as natural numbers. -/
import Derived.Test.YtacamanakmeebaaDoorGF
namespace Go.Sx
/-- One step of a weight's denominator; of its numerator. -/
def belS (i acc h : Nat) : Nat := if h = i then acc else mulN acc (invN (i ^^^ h))
def outS (i x acc h : Nat) : Nat := if h = i then acc else mulN acc (x ^^^ h)
def bel (nums : List Nat) (i : Nat) : Nat := nums.foldl (belS i) 1
def belA (nums : List Nat) (j : Nat) : Nat := if j ∈ nums then bel nums j else 0
def wgt (nums : List Nat) (x i : Nat) : Nat := nums.foldl (outS i x) (bel nums i)
def wgtA (nums : List Nat) (x j : Nat) : Nat := if j ∈ nums then wgt nums x j else 0
theorem take_succ_foldl {α : Type} (f : α → Nat → α) (a : α) (l : List Nat) (k : Nat) (h : k < l.length) : (l.take (k + 1)).foldl f a = f ((l.take k).foldl f a) l[k] := by
  rw [List.take_succ_eq_append_getElem h, List.foldl_append]; rfl
theorem belF_lt (i : Nat) : ∀ (l : List Nat) (a : Nat), a < 256 → l.foldl (belS i) a < 256
  | [], a, h => h
  | x :: l, a, h => by
    refine belF_lt i l _ ?_
    unfold belS; split
    · exact h
    · exact mulN_lt
theorem outF_lt (i x : Nat) : ∀ (l : List Nat) (a : Nat), a < 256 → l.foldl (outS i x) a < 256
  | [], a, h => h
  | y :: l, a, h => by
    refine outF_lt i x l _ ?_
    unfold outS; split
    · exact h
    · exact mulN_lt
theorem bel_lt (nums : List Nat) (i : Nat) : bel nums i < 256 := belF_lt i nums 1 (by decide)
theorem wgt_lt (nums : List Nat) (x i : Nat) : wgt nums x i < 256 := outF_lt i x nums _ (bel_lt nums i)
/-- The k-th number. -/
def nu (nums : List Nat) (k : Nat) : Nat := nums.getD k 0
theorem nu_get {nums : List Nat} {k : Nat} (h : k < nums.length) : nums[k]? = some (nu nums k) := by simp [nu, h]
theorem nu_mem {nums : List Nat} {k : Nat} (h : k < nums.length) : nu nums k ∈ nums := List.mem_of_getElem? (nu_get h)
theorem len_pos {α : Type} {l : List α} (h : l ≠ []) : 0 < l.length := List.length_pos_iff.2 h
end Go.Sx

