/- Plain: the reference's product and inverse are those of the code. -/
import Derived.Test.YtfjkdciblblalaaDoorGP
namespace Go.Sx
def dbl (x : Nat) : Nat := if 256 ≤ 2 * x then (2 * x) ^^^ 285 else 2 * x
def dblP (a : Nat) : Nat → Nat
  | 0 => a
  | i + 1 => dbl (dblP a i)
def bsum (f : Nat → Nat) (b : Nat) : Nat → Nat
  | 0 => 0
  | i + 1 => if (b >>> i) &&& 1 = 1 then bsum f b i ^^^ f i else bsum f b i
def refN (a b : Nat) : Nat := bsum (dblP a) b 8
theorem bsum_lin (f : Nat → Nat) (b c : Nat) : ∀ i, bsum f (b ^^^ c) i = bsum f b i ^^^ bsum f c i
  | 0 => by simp [bsum]
  | i + 1 => by
    unfold bsum
    rw [bit_xor, bsum_lin f b c i]
    generalize bsum f b i = X
    generalize bsum f c i = Y
    generalize f i = Z
    rcases bit_01 b i with h1 | h1 <;> rcases bit_01 c i with h2 | h2 <;> rw [h1, h2]
    · simp
    · simp [Nat.xor_assoc]
    · simp only [Nat.xor_zero, if_true]
      have : (0 : Nat) = 1 ↔ False := by decide
      simp only [this, if_false]
      rw [Nat.xor_assoc, Nat.xor_assoc, Nat.xor_comm Y Z]
    · simp only [Nat.xor_self, if_true]
      have : (0 : Nat) = 1 ↔ False := by decide
      simp only [this, if_false]
      rw [Nat.xor_assoc X Z, ← Nat.xor_assoc Z Y Z, Nat.xor_comm Z Y, Nat.xor_assoc Y Z Z, Nat.xor_self, Nat.xor_zero]
theorem ref_base : ∀ a, a < 256 → ∀ i, i < 8 → refN a (2 ^ i) = mulN a (2 ^ i) := by decide +kernel
theorem dbl_lt : ∀ x, x < 256 → dbl x < 256 := by decide +kernel
theorem dblP_lt {a : Nat} (ha : a < 256) : ∀ i, dblP a i < 256
  | 0 => ha
  | i + 1 => dbl_lt _ (dblP_lt ha i)
theorem bsum_lt {f : Nat → Nat} (hf : ∀ i, f i < 256) (b : Nat) : ∀ i, bsum f b i < 256
  | 0 => (by decide : 0 < 256)
  | i + 1 => by
    unfold bsum
    split
    · exact Nat.xor_lt_two_pow (n := 8) (bsum_lt hf b i) (hf i)
    · exact bsum_lt hf b i
theorem ref_eq {a b : Nat} (ha : a < 256) (hb : b < 256) : refN a b = mulN a b :=
  lin_ext (f := fun x => refN a x) (g := fun x => mulN a x) (fun x y _ _ => bsum_lin _ x y 8) (fun _ _ _ _ => mul_add ha) (fun i hi => ref_base a ha i hi) b hb
end Go.Sx

