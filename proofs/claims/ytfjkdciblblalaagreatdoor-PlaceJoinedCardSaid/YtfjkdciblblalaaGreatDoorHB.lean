/-
  Slices of numbers: as lists; the library's small functions on them; range loops.
-/
import Derived.Test.YtfjkdciblblalaaGreatDoorHx4
namespace Go.Sx
open Go Go.RowKit
abbrev zv (x : Int) : Value := .int .i64 x
def ints (l : List Int) : List Value := l.map zv
def at' (l : List Int) (i : Nat) : Int := l.getD i 0
theorem ints_len (l : List Int) : (ints l).length = l.length := by simp [ints]
theorem ints_get {l : List Int} {i : Nat} (h : i < l.length) : (ints l)[i]? = some (zv (at' l i)) := by simp [ints, at', h]
theorem ints_app (l m : List Int) : ints (l ++ m) = ints l ++ ints m := by simp [ints]
theorem ints_set (l : List Int) (i : Nat) (x : Int) : (ints l).set i (zv x) = ints (l.set i x) := by simp [ints, List.map_set]
theorem ints_one : ∀ (l : List Int), ∀ u ∈ ints l, u.oneCell' = true := fun l u hu => by
  obtain ⟨x, -, rfl⟩ := List.mem_map.1 hu; rfl
theorem at_mem {l : List Int} {i : Nat} (h : i < l.length) : at' l i ∈ l := by
  unfold at'; rw [List.getD_eq_getElem?_getD, List.getElem?_eq_getElem h]; exact List.getElem_mem h
theorem at_take {l : List Int} {i n : Nat} (h : i < n) : at' (l.take n) i = at' l i := by
  unfold at'; simp [List.getD_eq_getElem?_getD, h]
theorem take_at {l : List Int} {i : Nat} (h : i < l.length) : l.take (i + 1) = l.take i ++ [at' l i] := by
  rw [List.take_succ_eq_append_getElem h]; simp [at', h]
/-- A slice of numbers that reads as l: its parts. -/
theorem Rd.isInts {w : World} {v : Value} {l : List Int} (h : Rd w v (ints l)) : ∃ a c, v = .slice a l.length c ∧ l.length ≤ c := by
  obtain ⟨a, c, h1, h2, -⟩ := h
  rw [ints_len] at h1 h2
  exact ⟨a, c, h1, h2⟩
/-- Where element i lies. -/
theorem Rd.iat {w : World} {a : Option Addr} {n c : Nat} {l : List Int} (h : Rd w (.slice a n c) (ints l)) (hne : l ≠ []) : ∃ b off, a = some ⟨b, off, none⟩ ∧ b < w.heap.size := by
  obtain ⟨b, off, c', h1, -, h3, -⟩ := h.at (by intro e; apply hne; have := congrArg List.length e; simpa [ints] using this)
  cases h1
  exact ⟨b, off, rfl, h3⟩
end Go.Sx

