/- Plain, chapter 25: a power failure. -/
import Derived.Test.YtlihcenahjgnmaaGreatDoorJR
namespace Go.Sx
open Go
/-- Which pending writes are kept. -/
def crashL (keep : List Int) (n : Nat) : List Nat := (List.range n).filter fun (i : Nat) => keep.contains (i : Int)
def tornS (torn : Int) (last : Bool) (s : ByteArray) : ByteArray := if last = true ∧ 0 ≤ torn then s.extract 0 (min torn (s.size : Int)).toNat else s
theorem tornS_size (torn : Int) (last : Bool) (s : ByteArray) : (tornS torn last s).size ≤ s.size := by
  unfold tornS
  split
  · rw [ByteArray.size_extract]; omega
  · exact Nat.le_refl _
def pendAt (pend : List (Nat × ByteArray)) (i : Nat) : Nat × ByteArray := pend.getD i (0, ByteArray.mk #[])
def applyL (pend : List (Nat × ByteArray)) (torn : Int) : List Nat → List UInt8 → List UInt8
  | [], d => d
  | i :: l, d => applyL pend torn l (splice d (pendAt pend i).1 (tornS torn l.isEmpty (pendAt pend i).2).data.toList)
def Dk.crash (k : Dk) (keep : List Int) (torn : Int) : Dk := ⟨false, 0, applyL k.pend torn (crashL keep k.pend.length) k.dur, applyL k.pend torn (crashL keep k.pend.length) k.dur, []⟩
/-- Pending writes lie on the disk. -/
def Dk.Fit (k : Dk) : Prop := ∀ x ∈ k.pend, x.1 + x.2.size ≤ k.dur.length
theorem pendAt_mem {pend : List (Nat × ByteArray)} {i : Nat} (h : i < pend.length) : pendAt pend i ∈ pend := by unfold pendAt; simp [h]
theorem crashL_lt {keep : List Int} {n i : Nat} (h : i ∈ crashL keep n) : i < n := List.mem_range.1 (List.mem_filter.1 h).1
theorem applyL_len (pend : List (Nat × ByteArray)) (torn : Int) (n : Nat) (hp : ∀ x ∈ pend, x.1 + x.2.size ≤ n) : ∀ (l : List Nat) (d : List UInt8), (∀ i ∈ l, i < pend.length) → d.length = n → (applyL pend torn l d).length = n
  | [], d, _, hd => hd
  | i :: l, d, hl, hd => by
    have h1 := hp _ (pendAt_mem (hl i (List.mem_cons_self ..)))
    have h2 := tornS_size torn l.isEmpty (pendAt pend i).2
    have h3 : (tornS torn l.isEmpty (pendAt pend i).2).data.toList.length = (tornS torn l.isEmpty (pendAt pend i).2).size := by rw [Array.length_toList]; rfl
    exact applyL_len pend torn n hp l _ (fun j hj => hl j (List.mem_cons_of_mem _ hj)) (by rw [splice_len (by omega), hd])
theorem crash_len {k : Dk} (hf : k.Fit) (keep : List Int) (torn : Int) : (k.crash keep torn).dur.length = k.dur.length :=
  applyL_len k.pend torn k.dur.length hf _ _ (fun _ h => crashL_lt h) rfl
theorem crash_ok {k : Dk} (hk : k.Ok) (hf : k.Fit) (keep : List Int) (torn : Int) : (k.crash keep torn).Ok :=
  ⟨rfl, by rw [crash_len hf]; exact hk.lo, by rw [crash_len hf]; exact hk.hi, Nat.zero_le _, Nat.zero_le _⟩
/-- Strictly ascending. -/
def Asc (l : List Int) : Prop := l.Pairwise (· < ·)
theorem asc_eq : ∀ {l m : List Int}, Asc l → Asc m → (∀ x, x ∈ l ↔ x ∈ m) → l = m
  | [], [], _, _, _ => rfl
  | [], b :: m, _, _, h => by have := (h b).2 (List.mem_cons_self ..); cases this
  | a :: l, [], _, _, h => by have := (h a).1 (List.mem_cons_self ..); cases this
  | a :: l, b :: m, hl, hm, h => by
    have hl' := List.pairwise_cons.1 hl
    have hm' := List.pairwise_cons.1 hm
    have hab : a = b := by
      rcases List.mem_cons.1 ((h a).1 (List.mem_cons_self ..)) with e | h1
      · exact e
      · rcases List.mem_cons.1 ((h b).2 (List.mem_cons_self ..)) with e | h2
        · exact e.symm
        · have h3 := hm'.1 a h1
          have h4 := hl'.1 b h2
          omega
    subst hab
    congr 1
    refine asc_eq hl'.2 hm'.2 fun x => ⟨fun hx => ?_, fun hx => ?_⟩
    · rcases List.mem_cons.1 ((h x).1 (List.mem_cons_of_mem _ hx)) with e | h1
      · have := hl'.1 x hx; omega
      · exact h1
    · rcases List.mem_cons.1 ((h x).2 (List.mem_cons_of_mem _ hx)) with e | h1
      · have := hm'.1 x hx; omega
      · exact h1
theorem crashL_asc (keep : List Int) (n : Nat) : Asc ((crashL keep n).map fun i : Nat => (i : Int)) := by
  unfold Asc crashL
  rw [List.pairwise_map]
  refine List.Pairwise.filter _ ?_
  exact List.pairwise_lt_range.imp fun h => by omega
/-- What is sorted, without repetitions, and within bounds, is what is kept. -/
theorem order_eq {keep l : List Int} {n : Nat} (ha : Asc l) (hm : ∀ x, x ∈ l ↔ x ∈ keep) : (l.filter fun i => !(decide (i < 0) || decide ((n : Int) ≤ i))) = (crashL keep n).map fun i : Nat => (i : Int) := by
  refine asc_eq (List.Pairwise.filter _ ha) (crashL_asc keep n) fun x => ?_
  rw [List.mem_filter, List.mem_map]
  constructor
  · rintro ⟨h1, h2⟩
    have h3 : 0 ≤ x ∧ x < n := by
      simp only [Bool.not_or, Bool.and_eq_true, Bool.not_eq_true', decide_eq_false_iff_not] at h2
      omega
    refine ⟨x.toNat, List.mem_filter.2 ⟨List.mem_range.2 (by omega), ?_⟩, by omega⟩
    rw [Int.toNat_of_nonneg h3.1]
    exact List.contains_iff_mem.2 ((hm x).1 h1)
  · rintro ⟨i, h1, rfl⟩
    obtain ⟨h2, h3⟩ := List.mem_filter.1 h1
    have h4 := List.mem_range.1 h2
    refine ⟨(hm _).2 (List.contains_iff_mem.1 h3), ?_⟩
    simp only [Bool.not_or, Bool.and_eq_true, Bool.not_eq_true', decide_eq_false_iff_not]
    omega
end Go.Sx

