/- Plain: all fragments from some. -/
import Derived.Test.YtacamanakmeebaaDoorGF4
namespace Go.Sx
def isC (k n : Int) : Prop := 1 ≤ k ∧ k ≤ n ∧ n ≤ 9
instance (k n : Int) : Decidable (isC k n) := by unfold isC; infer_instance
def tf (th : List Bool) (i : Nat) : Bool := th.getD i false
def bools (l : List Bool) : List Value := l.map .bool
theorem bools_get {th : List Bool} {i : Nat} (h : i < th.length) : (bools th)[i]? = some (.bool (tf th i)) := by simp [bools, tf, h]
def tnums (th : List Bool) (i k : Nat) : List Nat := ((List.range i).filter (tf th)).take k
def cN (th : List Bool) (k : Nat) : List Nat := tnums th th.length k
def cM (frs : List ByteArray) (th : List Bool) (k : Nat) : Nat := (fr frs (nu (cN th k) 0)).size
def cOut (frs : List ByteArray) (th : List Bool) (k j : Nat) : ByteArray := cmpStr frs (cN th k) (wgtA (cN th k) j) (cM frs th k)
def CompOK (frs : List ByteArray) (th : List Bool) (k : Int) : Prop :=
  isC k frs.length ∧ th.length = frs.length ∧ (cN th k.toNat).length = k.toNat ∧ (∀ i, i < frs.length → tf th i = true → (fr frs i).size = cM frs th k.toNat ∧ cM frs th k.toNat ≤ 4096) ∧
    ∀ i, i < frs.length → tf th i = true → cOut frs th k.toNat i = fr frs i
theorem tnums_mem {th : List Bool} {i k j : Nat} (h : j ∈ tnums th i k) : j < i ∧ tf th j = true := by
  have := List.mem_of_mem_take h
  rw [List.mem_filter, List.mem_range] at this
  exact this
theorem tnums_len (th : List Bool) (i k : Nat) : (tnums th i k).length ≤ k := by unfold tnums; exact List.length_take_le _ _
theorem tnums_len2 (th : List Bool) (i k : Nat) : (tnums th i k).length ≤ i := by
  unfold tnums
  refine Nat.le_trans (List.length_take_le' _ _) ?_
  refine Nat.le_trans (List.length_filter_le _ _) ?_
  simp
theorem tnums_skip {th : List Bool} {i k : Nat} (h : tf th i = false) : tnums th (i + 1) k = tnums th i k := by
  unfold tnums; rw [List.range_succ, List.filter_append]; simp [h]
theorem tnums_full {th : List Bool} {i k : Nat} (h : ¬ (tnums th i k).length < k) : tnums th (i + 1) k = tnums th i k := by
  unfold tnums at h ⊢
  rw [List.length_take] at h
  rw [List.range_succ, List.filter_append, List.take_append_of_le_length (by omega)]
theorem tnums_add {th : List Bool} {i k : Nat} (h : tf th i = true) (h2 : (tnums th i k).length < k) : tnums th (i + 1) k = tnums th i k ++ [i] := by
  unfold tnums at h2 ⊢
  rw [List.length_take] at h2
  have h3 : ((List.range i).filter (tf th)).length < k := by omega
  rw [List.range_succ, List.filter_append, List.take_of_length_le (by simp [h]; omega), List.take_of_length_le (by omega)]
  simp [h]
end Go.Sx

