/- Plain: the numbers of chapter 17 are a field. -/
import Derived.Test.YtfjkdciblblalaaGreatDoorGF
namespace Go.Sx
theorem red_lin : ∀ i, i < 16 → ∀ j, j < 16 → redL.getD (i ^^^ j) 0 = redL.getD i 0 ^^^ redL.getD j 0 := by decide +kernel
theorem bit_xor (b c i : Nat) : ((b ^^^ c) >>> i) &&& 1 = ((b >>> i) &&& 1) ^^^ ((c >>> i) &&& 1) := by
  rw [Nat.shiftRight_xor_distrib, Nat.and_xor_distrib_right]
theorem bit_01 (b i : Nat) : (b >>> i) &&& 1 = 0 ∨ (b >>> i) &&& 1 = 1 := by
  have := Nat.and_one_is_mod (b >>> i)
  omega
theorem fewP_lin_b (a b c : Nat) : ∀ i, fewP a (b ^^^ c) i = fewP a b i ^^^ fewP a c i
  | 0 => by simp [fewP]
  | i + 1 => by
    unfold fewP
    rw [bit_xor, fewP_lin_b a b c i]
    generalize fewP a b i = X
    generalize fewP a c i = Y
    generalize a <<< i = Z
    rcases bit_01 b i with h1 | h1 <;> rcases bit_01 c i with h2 | h2 <;> rw [h1, h2]
    · simp
    · simp [Nat.xor_assoc]
    · simp only [Nat.xor_zero, if_true]
      have : (0 : Nat) = 1 ↔ False := by decide
      simp only [this, if_false]
      rw [Nat.xor_assoc, Nat.xor_assoc, Nat.xor_comm Y Z]
    · simp only [Nat.xor_self, if_true]
      have : (0 : Nat) = 1 ↔ False := by decide
      simp only [this, if_false]
      rw [Nat.xor_assoc X Z, ← Nat.xor_assoc Z Y Z, Nat.xor_comm Z Y, Nat.xor_assoc Y Z Z, Nat.xor_self, Nat.xor_zero]
theorem fewP_lin_a (a d b : Nat) : ∀ i, fewP (a ^^^ d) b i = fewP a b i ^^^ fewP d b i
  | 0 => by simp [fewP]
  | i + 1 => by
    unfold fewP
    rw [fewP_lin_a a d b i, Nat.shiftLeft_xor_distrib]
    split
    · generalize fewP a b i = X
      generalize fewP d b i = Y
      rw [Nat.xor_assoc, Nat.xor_assoc, ← Nat.xor_assoc Y, Nat.xor_comm Y, Nat.xor_assoc (a <<< i)]
    · rfl
theorem low_lin (p q : Nat) (hp : p < 4096) (hq : q < 4096) : ((p ^^^ q) &&& 255) ^^^ redL.getD ((p ^^^ q) >>> 8) 0 = ((p &&& 255) ^^^ redL.getD (p >>> 8) 0) ^^^ ((q &&& 255) ^^^ redL.getD (q >>> 8) 0) := by
  rw [Nat.shiftRight_xor_distrib, Nat.and_xor_distrib_right, red_lin _ (by rw [Nat.shiftRight_eq_div_pow]; omega) _ (by rw [Nat.shiftRight_eq_div_pow]; omega)]
  generalize p &&& 255 = A
  generalize q &&& 255 = B
  generalize redL.getD (p >>> 8) 0 = C
  generalize redL.getD (q >>> 8) 0 = D
  rw [Nat.xor_assoc, Nat.xor_assoc, ← Nat.xor_assoc B, Nat.xor_comm B, Nat.xor_assoc C]
theorem fewN_lin_b {a b c : Nat} (ha : a < 256) : fewN a (b ^^^ c) = fewN a b ^^^ fewN a c := by
  unfold fewN
  rw [fewP_lin_b, low_lin _ _ (fewP_lt ha 4 (Nat.le_refl _)) (fewP_lt ha 4 (Nat.le_refl _))]
theorem fewN_lin_a {a d b : Nat} (ha : a < 256) (hd : d < 256) : fewN (a ^^^ d) b = fewN a b ^^^ fewN d b := by
  unfold fewN
  rw [fewP_lin_a, low_lin _ _ (fewP_lt ha 4 (Nat.le_refl _)) (fewP_lt hd 4 (Nat.le_refl _))]
theorem sixteenN_lin {a b : Nat} (ha : a < 256) (hb : b < 256) : sixteenN (a ^^^ b) = sixteenN a ^^^ sixteenN b := by
  unfold sixteenN
  rw [Nat.shiftLeft_xor_distrib, Nat.shiftRight_xor_distrib, Nat.and_xor_distrib_right, red_lin _ (by rw [Nat.shiftRight_eq_div_pow]; omega) _ (by rw [Nat.shiftRight_eq_div_pow]; omega)]
  generalize (a <<< 4) &&& 255 = A
  generalize (b <<< 4) &&& 255 = B
  generalize redL.getD (a >>> 4) 0 = C
  generalize redL.getD (b >>> 4) 0 = D
  rw [Nat.xor_assoc, Nat.xor_assoc, ← Nat.xor_assoc B, Nat.xor_comm B, Nat.xor_assoc C]
theorem xor4 (A B C D : Nat) : (A ^^^ B) ^^^ (C ^^^ D) = (A ^^^ C) ^^^ (B ^^^ D) := by
  rw [Nat.xor_assoc, Nat.xor_assoc, ← Nat.xor_assoc B, Nat.xor_comm B, Nat.xor_assoc C]
theorem mul_add {a b c : Nat} (ha : a < 256) : mulN a (b ^^^ c) = mulN a b ^^^ mulN a c := by
  unfold mulN
  rw [Nat.and_xor_distrib_right, Nat.shiftRight_xor_distrib, fewN_lin_b ha, fewN_lin_b ha, sixteenN_lin fewN_lt fewN_lt, xor4]
theorem add_mul {a d b : Nat} (ha : a < 256) (hd : d < 256) : mulN (a ^^^ d) b = mulN a b ^^^ mulN d b := by
  unfold mulN
  rw [fewN_lin_a ha hd, fewN_lin_a ha hd, sixteenN_lin fewN_lt fewN_lt, xor4]
theorem mul_zero {a : Nat} (ha : a < 256) : mulN a 0 = 0 := by
  have := mul_add (b := 0) (c := 0) ha
  rw [Nat.xor_self, Nat.xor_self] at this
  exact this
theorem zero_mul (b : Nat) : mulN 0 b = 0 := by
  have := add_mul (a := 0) (d := 0) (b := b) (by decide) (by decide)
  rw [Nat.xor_self, Nat.xor_self] at this
  exact this
/-- A number by its bits. -/
theorem bits8 : ∀ x, x < 256 → x = (x &&& 1) ^^^ ((x &&& 2) ^^^ ((x &&& 4) ^^^ ((x &&& 8) ^^^ ((x &&& 16) ^^^ ((x &&& 32) ^^^ ((x &&& 64) ^^^ (x &&& 128))))))) := by decide +kernel
theorem bit8 : ∀ x, x < 256 → ∀ i, i < 8 → x &&& 2 ^ i = 0 ∨ x &&& 2 ^ i = 2 ^ i := by decide +kernel
/-- Two maps that keep sums are one if they agree at eight numbers. -/
theorem lin_ext {f g : Nat → Nat} (hf : ∀ x y, x < 256 → y < 256 → f (x ^^^ y) = f x ^^^ f y) (hg : ∀ x y, x < 256 → y < 256 → g (x ^^^ y) = g x ^^^ g y)
    (h : ∀ i, i < 8 → f (2 ^ i) = g (2 ^ i)) (x : Nat) (hx : x < 256) : f x = g x := by
  have f0 : f 0 = 0 := by have := hf 0 0 (by decide) (by decide); rwa [Nat.xor_self, Nat.xor_self] at this
  have g0 : g 0 = 0 := by have := hg 0 0 (by decide) (by decide); rwa [Nat.xor_self, Nat.xor_self] at this
  have hb : ∀ i, i < 8 → f (x &&& 2 ^ i) = g (x &&& 2 ^ i) := fun i hi => by
    rcases bit8 x hx i hi with e | e <;> rw [e]
    · rw [f0, g0]
    · exact h i hi
  have hlt : ∀ n, x &&& n < 256 := fun n => Nat.lt_of_le_of_lt Nat.and_le_left hx
  have hxl : ∀ a b, a < 256 → b < 256 → a ^^^ b < 256 := fun a b ha hb => Nat.xor_lt_two_pow (n := 8) ha hb
  have e := bits8 x hx
  have l7 := hlt 128
  have l6 := hxl _ _ (hlt 64) l7
  have l5 := hxl _ _ (hlt 32) l6
  have l4 := hxl _ _ (hlt 16) l5
  have l3 := hxl _ _ (hlt 8) l4
  have l2 := hxl _ _ (hlt 4) l3
  have l1 := hxl _ _ (hlt 2) l2
  rw [e, hf _ _ (hlt 1) l1, hf _ _ (hlt 2) l2, hf _ _ (hlt 4) l3, hf _ _ (hlt 8) l4, hf _ _ (hlt 16) l5, hf _ _ (hlt 32) l6, hf _ _ (hlt 64) l7,
    hg _ _ (hlt 1) l1, hg _ _ (hlt 2) l2, hg _ _ (hlt 4) l3, hg _ _ (hlt 8) l4, hg _ _ (hlt 16) l5, hg _ _ (hlt 32) l6, hg _ _ (hlt 64) l7]
  rw [show f (x &&& 1) = g (x &&& 1) from hb 0 (by decide), show f (x &&& 2) = g (x &&& 2) from hb 1 (by decide), show f (x &&& 4) = g (x &&& 4) from hb 2 (by decide), show f (x &&& 8) = g (x &&& 8) from hb 3 (by decide),
    show f (x &&& 16) = g (x &&& 16) from hb 4 (by decide), show f (x &&& 32) = g (x &&& 32) from hb 5 (by decide), show f (x &&& 64) = g (x &&& 64) from hb 6 (by decide), show f (x &&& 128) = g (x &&& 128) from hb 7 (by decide)]
theorem pow8 : ∀ i, i < 8 → 2 ^ i < 256 := by decide
theorem comm_base : ∀ i, i < 8 → ∀ j, j < 8 → mulN (2 ^ i) (2 ^ j) = mulN (2 ^ j) (2 ^ i) := by decide +kernel
theorem assoc_base : ∀ i, i < 8 → ∀ j, j < 8 → ∀ k, k < 8 → mulN (mulN (2 ^ i) (2 ^ j)) (2 ^ k) = mulN (2 ^ i) (mulN (2 ^ j) (2 ^ k)) := by decide +kernel
theorem one_base : ∀ i, i < 8 → mulN (2 ^ i) 1 = 2 ^ i := by decide +kernel
theorem mul_comm {a b : Nat} (ha : a < 256) (hb : b < 256) : mulN a b = mulN b a :=
  lin_ext (f := fun x => mulN x b) (g := fun x => mulN b x) (fun _ _ hx hy => add_mul hx hy) (fun _ _ _ _ => mul_add hb)
    (fun i hi => lin_ext (f := fun y => mulN (2 ^ i) y) (g := fun y => mulN y (2 ^ i)) (fun _ _ _ _ => mul_add (pow8 i hi)) (fun _ _ hx hy => add_mul hx hy) (fun j hj => comm_base i hi j hj) b hb) a ha
theorem mul_assoc {a b c : Nat} (ha : a < 256) (hb : b < 256) (hc : c < 256) : mulN (mulN a b) c = mulN a (mulN b c) := by
  refine lin_ext (f := fun x => mulN (mulN x b) c) (g := fun x => mulN x (mulN b c)) (fun x y hx hy => ?_) (fun _ _ hx hy => add_mul hx hy) (fun i hi => ?_) a ha
  · show mulN (mulN (x ^^^ y) b) c = _
    rw [add_mul hx hy, add_mul mulN_lt mulN_lt]
  refine lin_ext (f := fun x => mulN (mulN (2 ^ i) x) c) (g := fun x => mulN (2 ^ i) (mulN x c)) (fun x y _ _ => ?_) (fun x y hx hy => ?_) (fun j hj => ?_) b hb
  · show mulN (mulN _ (x ^^^ y)) c = _
    rw [mul_add (pow8 i hi), add_mul mulN_lt mulN_lt]
  · show mulN _ (mulN (x ^^^ y) c) = _
    rw [add_mul hx hy, mul_add (pow8 i hi)]
  refine lin_ext (f := fun x => mulN (mulN (2 ^ i) (2 ^ j)) x) (g := fun x => mulN (2 ^ i) (mulN (2 ^ j) x)) (fun _ _ _ _ => mul_add mulN_lt) (fun x y _ _ => ?_) (fun k hk => assoc_base i hi j hj k hk) c hc
  show mulN _ (mulN _ (x ^^^ y)) = _
  rw [mul_add (pow8 j hj), mul_add (pow8 i hi)]
theorem mul_one {a : Nat} (ha : a < 256) : mulN a 1 = a :=
  lin_ext (f := fun x => mulN x 1) (g := fun x => x) (fun _ _ hx hy => add_mul hx hy) (fun _ _ _ _ => rfl) one_base a ha
theorem one_mul {a : Nat} (ha : a < 256) : mulN 1 a = a := by rw [mul_comm (by decide) ha, mul_one ha]
theorem mul_inv : ∀ a, a < 256 → 0 < a → mulN a (invN a) = 1 := by decide +kernel
theorem mul_eq_one {a b : Nat} (ha : a < 256) (hb : b < 256) (h : mulN a b = 1) : b = invN a := by
  have ha0 : 0 < a := by
    rcases Nat.eq_zero_or_pos a with e | e
    · subst e; rw [zero_mul] at h; cases h
    · exact e
  have h1 := mul_inv a ha ha0
  have hi := invN_lt ha
  calc b = mulN 1 b := (one_mul hb).symm
    _ = mulN (mulN a (invN a)) b := by rw [h1]
    _ = mulN (mulN (invN a) a) b := by rw [mul_comm ha hi]
    _ = mulN (invN a) (mulN a b) := mul_assoc hi ha hb
    _ = invN a := by rw [h, mul_one hi]
theorem mul_left_cancel {a b c : Nat} (ha : a < 256) (h0 : 0 < a) (hb : b < 256) (hc : c < 256) (h : mulN a b = mulN a c) : b = c := by
  have h1 := mul_inv a ha h0
  have hi := invN_lt ha
  have key : ∀ x, x < 256 → mulN (invN a) (mulN a x) = x := fun x hx => by
    rw [← mul_assoc hi ha hx, mul_comm hi ha, h1, one_mul hx]
  rw [← key b hb, h, key c hc]
theorem mul_eq_zero {a b : Nat} (ha : a < 256) (hb : b < 256) (h : mulN a b = 0) : a = 0 ∨ b = 0 := by
  rcases Nat.eq_zero_or_pos a with e | e
  · exact .inl e
  · exact .inr (mul_left_cancel ha e hb (by decide) (by rw [h, mul_zero ha]))
theorem inv_pos : ∀ a, a < 256 → 0 < a → 0 < invN a := by decide +kernel
end Go.Sx

