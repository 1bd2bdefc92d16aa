/- Plain: the numbers of chapter 17 as natural numbers. No program in sight. -/
import Derived.Test.YtacamanakmeebaaDoorSx
namespace Go.Sx
def redL : List Nat := [0, 29, 58, 39, 116, 105, 78, 83, 232, 245, 210, 207, 156, 129, 166, 187]
def fewP (a b : Nat) : Nat → Nat
  | 0 => 0
  | i + 1 => if (b >>> i) &&& 1 = 1 then fewP a b i ^^^ (a <<< i) else fewP a b i
def fewN (a b : Nat) : Nat := (fewP a b 4 &&& 255) ^^^ redL.getD (fewP a b 4 >>> 8) 0
def sixteenN (a : Nat) : Nat := ((a <<< 4) &&& 255) ^^^ redL.getD (a >>> 4) 0
def mulN (a b : Nat) : Nat := fewN a (b &&& 15) ^^^ sixteenN (fewN a (b >>> 4))
def invP (a : Nat) : Nat → Nat × Nat
  | 0 => (1, a)
  | i + 1 => let q := mulN (invP a i).2 (invP a i).2; (mulN (invP a i).1 q, q)
def invN (a : Nat) : Nat := (invP a 7).1

theorem redL_lt : ∀ i, redL.getD i 0 < 256 := by
  intro i
  rcases Nat.lt_or_ge i 16 with h | h
  · have : ∀ j : Fin 16, redL.getD j.1 0 < 256 := by decide
    exact this ⟨i, h⟩
  · simp [redL, List.getD_eq_getElem?_getD, List.getElem?_eq_none (show [0, 29, 58, 39, 116, 105, 78, 83, 232, 245, 210, 207, 156, 129, 166, 187].length ≤ i from h)]
theorem shl_lt {a i k n : Nat} (h : a < 2 ^ k) (hk : k + i ≤ n) : a <<< i < 2 ^ n := by
  rw [Nat.shiftLeft_eq]
  calc a * 2 ^ i < 2 ^ k * 2 ^ i := Nat.mul_lt_mul_of_pos_right h (Nat.two_pow_pos i)
    _ = 2 ^ (k + i) := (Nat.pow_add 2 k i).symm
    _ ≤ 2 ^ n := Nat.pow_le_pow_right (by decide) hk
theorem fewP_lt {a b : Nat} (ha : a < 256) : ∀ i, i ≤ 4 → fewP a b i < 4096
  | 0, _ => by simp [fewP]
  | i + 1, h => by
    have h1 := fewP_lt (b := b) ha i (by omega)
    have h2 : a <<< i < 2 ^ 12 := shl_lt (k := 8) ha (by omega)
    unfold fewP
    split
    · exact Nat.xor_lt_two_pow (n := 12) h1 h2
    · exact h1
theorem fewN_lt {a b : Nat} : fewN a b < 256 :=
  Nat.xor_lt_two_pow (n := 8) (Nat.lt_of_le_of_lt Nat.and_le_right (by decide)) (redL_lt _)
theorem sixteenN_lt {a : Nat} : sixteenN a < 256 :=
  Nat.xor_lt_two_pow (n := 8) (Nat.lt_of_le_of_lt Nat.and_le_right (by decide)) (redL_lt _)
theorem mulN_lt {a b : Nat} : mulN a b < 256 := Nat.xor_lt_two_pow (n := 8) fewN_lt sixteenN_lt
theorem invP_lt {a : Nat} (ha : a < 256) (i : Nat) : (invP a i).1 < 256 ∧ (invP a i).2 < 256 := by
  induction i with
  | zero => exact ⟨(by decide : 1 < 256), ha⟩
  | succ i ih => exact ⟨mulN_lt, mulN_lt⟩
theorem invN_lt {a : Nat} (ha : a < 256) : invN a < 256 := (invP_lt ha 7).1
end Go.Sx

