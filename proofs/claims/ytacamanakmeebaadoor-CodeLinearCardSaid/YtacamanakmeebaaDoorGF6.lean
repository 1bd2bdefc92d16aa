/- Plain: the string of some fragments. -/
import Derived.Test.YtacamanakmeebaaDoorGF5
import Derived.Lib.Join
import Derived.Lib.TrimByte
namespace Go.Sx
open Go
theorem ba_len (s : ByteArray) : s.data.toList.length = s.size := rfl
def catS (l : List ByteArray) : ByteArray := ⟨(l.map (·.data.toList)).flatten.toArray⟩
theorem join_empty (l : List ByteArray) : (⟨(Lib.join (l.map (·.data.toList)) (ByteArray.mk #[]).data.toList).toArray⟩ : ByteArray) = catS l := by
  unfold catS
  congr 1
  cases l with
  | nil => rfl
  | cons x r =>
    rw [List.map_cons, Lib.join_cons]
    simp only [Lib.joinTail, List.flatten_cons, List.map_map]
    rfl
theorem catS_size (l : List ByteArray) (m : Nat) (h : ∀ x ∈ l, x.size = m) : (catS l).size = l.length * m := by
  unfold catS
  simp only [ByteArray.size, List.size_toArray]
  induction l with
  | nil => simp
  | cons x r ih =>
    have h1 := h x (by simp)
    have h2 := ih fun y hy => h y (by simp [hy])
    rw [List.map_cons, List.flatten_cons, List.length_append, h2, List.length_cons, Nat.succ_mul]
    have : x.data.toList.length = m := by rw [← h1, ba_len]
    omega
theorem dropWhile_nil (c : UInt8) : ∀ l : List UInt8, l.dropWhile (· == c) = [] ↔ ∀ b ∈ l, b = c
  | [] => by simp
  | b :: l => by
    by_cases e : b = c
    · subst e; simp [dropWhile_nil b l]
    · simp [e]
theorem trim_nil (l : List UInt8) (c : UInt8) : Lib.trimB l c = [] ↔ ∀ b ∈ l, b = c := by
  unfold Lib.trimB Lib.trimLeftB
  rw [dropWhile_nil]
  unfold Lib.trimRightB
  constructor
  · intro h
    have h2 : ∀ b ∈ l.reverse.dropWhile (· == c), b = c := fun b hb => h b (by simpa using hb)
    have h3 : l.reverse.dropWhile (· == c) = [] := by
      cases hd : l.reverse.dropWhile (· == c) with
      | nil => rfl
      | cons x r =>
        have hx : x = c := h2 x (by rw [hd]; simp)
        have := List.head_dropWhile_not (p := (· == c)) (l := l.reverse) (by rw [hd]; simp)
        simp only [hd, List.head_cons] at this
        simp [hx] at this
    intro b hb
    exact (dropWhile_nil c _).1 h3 b (by simpa using hb)
  · intro h b hb
    have : b ∈ l.reverse.dropWhile (· == c) := by simpa using hb
    exact h b (by simpa using (List.dropWhile_sublist _).subset this)
theorem ba_empty (l : List UInt8) : ((⟨l.toArray⟩ : ByteArray) = ByteArray.mk #[]) ↔ l = [] := by
  constructor
  · intro h
    have := congrArg (fun b : ByteArray => b.data.toList) h
    simpa using this
  · rintro rfl; rfl
def allOut (frs : List ByteArray) (th : List Bool) (k : Nat) : List ByteArray := (List.range frs.length).map (cOut frs th k)
def catO (frs : List ByteArray) (th : List Bool) (k : Nat) : ByteArray := catS ((List.range k).map (cOut frs th k))
def FragOK (frs : List ByteArray) (th : List Bool) (k which : Int) : Prop := CompOK frs th k ∧ 0 ≤ which ∧ which < frs.length
/-- The string may be got back. -/
def JoinOK (frs : List ByteArray) (th : List Bool) (k len : Int) : Prop :=
  CompOK frs th k ∧ 0 ≤ len ∧ len ≤ 4096 * k ∧ (cM frs th k.toNat : Int) = (len + k - 1) / k ∧ ∀ j, len.toNat ≤ j → j < (catO frs th k.toNat).size → sb (catO frs th k.toNat) j = 0
theorem cOut_size (frs : List ByteArray) (th : List Bool) (k j : Nat) : (cOut frs th k j).size = cM frs th k := cmpStr_size _ _ _ _
theorem catO_size (frs : List ByteArray) (th : List Bool) (k : Nat) : (catO frs th k).size = k * cM frs th k := by
  unfold catO
  rw [catS_size _ (cM frs th k)]
  · simp
  · intro x hx
    obtain ⟨j, -, rfl⟩ := List.mem_map.1 hx
    exact cOut_size _ _ _ _
theorem tail_zero (s : ByteArray) (n : Nat) (h : n ≤ s.size) : (∀ b ∈ (s.extract n s.size).data.toList, b = 0) ↔ ∀ j, n ≤ j → j < s.size → sb s j = 0 := by
  have hd : (s.extract n s.size).data.toList = s.data.toList.drop n := by
    rw [ByteArray.data_extract, Array.toList_extract, List.extract_eq_take_drop, List.take_of_length_le]
    rw [List.length_drop, ba_len]
    exact Nat.le_refl _
  rw [hd]
  constructor
  · intro h2 j h3 h4
    unfold sb
    have h5 : j < s.data.toList.length := h4
    rw [List.getD_eq_getElem?_getD, List.getElem?_eq_getElem h5]
    have := h2 s.data.toList[j] (by
      rw [List.mem_iff_getElem]
      exact ⟨j - n, by simp only [List.length_drop]; omega, by rw [List.getElem_drop]; congr 1; omega⟩)
    simp [this]
  · intro h2 b hb
    rw [List.mem_iff_getElem] at hb
    obtain ⟨i, hi, rfl⟩ := hb
    rw [List.getElem_drop]
    simp only [List.length_drop] at hi
    have h5 : n + i < s.size := by have := ba_len s; omega
    have := h2 (n + i) (by omega) h5
    unfold sb at this
    rw [List.getD_eq_getElem?_getD, List.getElem?_eq_getElem (by omega)] at this
    simp only [Option.getD_some] at this
    exact UInt8.toNat_inj.1 (by simpa using this)
theorem CompOK.cM_le {frs : List ByteArray} {th : List Bool} {k : Int} (h : CompOK frs th k) : cM frs th k.toNat ≤ 4096 := by
  obtain ⟨⟨h1, h2, h3⟩, h4, h5, h6, -⟩ := h
  have hp : 0 < (cN th k.toNat).length := by omega
  have hm := nu_mem hp
  have := tnums_mem hm
  exact (h6 _ (by omega) this.2).2
end Go.Sx

