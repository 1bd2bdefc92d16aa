/- Plain: what the laws ask of the fragments. -/
import Derived.Test.YtacamanakmeebaaDoorGD
namespace Go.Sx
theorem cN_len {th : List Bool} {k : Nat} (h : k ≤ ((List.range th.length).filter (tf th)).length) : (cN th k).length = k := by
  unfold cN tnums
  rw [List.length_take]
  omega
theorem cN_few {th : List Bool} {k : Nat} (h : ((List.range th.length).filter (tf th)).length < k) : (cN th k).length < k := by
  unfold cN tnums
  rw [List.length_take]
  omega
theorem few_no {frs : List ByteArray} {th : List Bool} {k : Nat} (h : ((List.range th.length).filter (tf th)).length < k) : ¬ CompOK frs th k := fun hc => by
  have h1 := hc.2.2.1
  rw [Int.toNat_natCast] at h1
  have := cN_few h
  omega
theorem agree_code {s : ByteArray} {k n : Nat} {th : List Bool} (hk : 1 ≤ k) (hn : n ≤ 9) (hl : th.length = n) (h : k ≤ ((List.range th.length).filter (tf th)).length) : Agree (codeL s k n) th s k :=
  ⟨hk, by omega, fun i hi _ => codeL_fr s k (by omega), cN_len h⟩
/-- Lengths that are refused. -/
theorem Agree.far {frs : List ByteArray} {th : List Bool} {s : ByteArray} {k : Nat} (h : Agree frs th s k) {len : Int} (hf : len < 0 ∨ (k : Int) * (mOf s.size k : Int) < len ∨ len ≤ (k : Int) * ((mOf s.size k : Int) - 1)) : ¬ JoinOK frs th k len := fun hj => by
  have h1 := hj.2.2.2.1
  have h0 := hj.2.1
  rw [Int.toNat_natCast, h.cM] at h1
  have hp := h.pos
  generalize mOf s.size k = m at *
  have hd := Int.mul_ediv_add_emod (len + k - 1) k
  have hr0 := Int.emod_nonneg (len + k - 1) (show (k : Int) ≠ 0 by omega)
  have hr1 := Int.emod_lt_of_pos (len + k - 1) (show (0 : Int) < k by omega)
  rw [← h1] at hd
  rw [Int.mul_sub, Int.mul_one] at hf
  omega
end Go.Sx

