/- Plain: the numbers of chapter 17 are a field. -/
import Derived.Test.YtfjkdciblblalaaDoorGF
namespace Go.Sx
theorem red_lin : ∀ i, i < 16 → ∀ j, j < 16 → redL.getD (i ^^^ j) 0 = redL.getD i 0 ^^^ redL.getD j 0 := by decide +kernel
theorem bit_xor (b c i : Nat) : ((b ^^^ c) >>> i) &&& 1 = ((b >>> i) &&& 1) ^^^ ((c >>> i) &&& 1) := by
  rw [Nat.shiftRight_xor_distrib, Nat.and_xor_distrib_right]
theorem bit_01 (b i : Nat) : (b >>> i) &&& 1 = 0 ∨ (b >>> i) &&& 1 = 1 := by
  have := Nat.and_one_is_mod (b >>> i)
  omega
theorem fewP_lin_b (a b c : Nat) : ∀ i, fewP a (b ^^^ c) i = fewP a b i ^^^ fewP a c i
  | 0 => by simp [fewP]
  | i + 1 => by
    unfold fewP
    rw [bit_xor, fewP_lin_b a b c i]
    generalize fewP a b i = X
    generalize fewP a c i = Y
    generalize a <<< i = Z
    rcases bit_01 b i with h1 | h1 <;> rcases bit_01 c i with h2 | h2 <;> rw [h1, h2]
    · simp
    · simp [Nat.xor_assoc]
    · simp only [Nat.xor_zero, if_true]
      have : (0 : Nat) = 1 ↔ False := by decide
      simp only [this, if_false]
      rw [Nat.xor_assoc, Nat.xor_assoc, Nat.xor_comm Y Z]
    · simp only [Nat.xor_self, if_true]
      have : (0 : Nat) = 1 ↔ False := by decide
      simp only [this, if_false]
      rw [Nat.xor_assoc X Z, ← Nat.xor_assoc Z Y Z, Nat.xor_comm Z Y, Nat.xor_assoc Y Z Z, Nat.xor_self, Nat.xor_zero]
theorem fewP_lin_a (a d b : Nat) : ∀ i, fewP (a ^^^ d) b i = fewP a b i ^^^ fewP d b i
  | 0 => by simp [fewP]
  | i + 1 => by
    unfold fewP
    rw [fewP_lin_a a d b i, Nat.shiftLeft_xor_distrib]
    split
    · generalize fewP a b i = X
      generalize fewP d b i = Y
      rw [Nat.xor_assoc, Nat.xor_assoc, ← Nat.xor_assoc Y, Nat.xor_comm Y, Nat.xor_assoc (a <<< i)]
    · rfl
theorem low_lin (p q : Nat) (hp : p < 4096) (hq : q < 4096) : ((p ^^^ q) &&& 255) ^^^ redL.getD ((p ^^^ q) >>> 8) 0 = ((p &&& 255) ^^^ redL.getD (p >>> 8) 0) ^^^ ((q &&& 255) ^^^ redL.getD (q >>> 8) 0) := by
  rw [Nat.shiftRight_xor_distrib, Nat.and_xor_distrib_right, red_lin _ (by rw [Nat.shiftRight_eq_div_pow]; omega) _ (by rw [Nat.shiftRight_eq_div_pow]; omega)]
  generalize p &&& 255 = A
  generalize q &&& 255 = B
  generalize redL.getD (p >>> 8) 0 = C
  generalize redL.getD (q >>> 8) 0 = D
  rw [Nat.xor_assoc, Nat.xor_assoc, ← Nat.xor_assoc B, Nat.xor_comm B, Nat.xor_assoc C]
theorem fewN_lin_b {a b c : Nat} (ha : a < 256) : fewN a (b ^^^ c) = fewN a b ^^^ fewN a c := by
  unfold fewN
  rw [fewP_lin_b, low_lin _ _ (fewP_lt ha 4 (Nat.le_refl _)) (fewP_lt ha 4 (Nat.le_refl _))]
theorem fewN_lin_a {a d b : Nat} (ha : a < 256) (hd : d < 256) : fewN (a ^^^ d) b = fewN a b ^^^ fewN d b := by
  unfold fewN
  rw [fewP_lin_a, low_lin _ _ (fewP_lt ha 4 (Nat.le_refl _)) (fewP_lt hd 4 (Nat.le_refl _))]
theorem sixteenN_lin {a b : Nat} (ha : a < 256) (hb : b < 256) : sixteenN (a ^^^ b) = sixteenN a ^^^ sixteenN b := by
  unfold sixteenN
  rw [Nat.shiftLeft_xor_distrib, Nat.shiftRight_xor_distrib, Nat.and_xor_distrib_right, red_lin _ (by rw [Nat.shiftRight_eq_div_pow]; omega) _ (by rw [Nat.shiftRight_eq_div_pow]; omega)]
  generalize (a <<< 4) &&& 255 = A
  generalize (b <<< 4) &&& 255 = B
  generalize redL.getD (a >>> 4) 0 = C
  generalize redL.getD (b >>> 4) 0 = D
  rw [Nat.xor_assoc, Nat.xor_assoc, ← Nat.xor_assoc B, Nat.xor_comm B, Nat.xor_assoc C]
theorem xor4 (A B C D : Nat) : (A ^^^ B) ^^^ (C ^^^ D) = (A ^^^ C) ^^^ (B ^^^ D) := by
  rw [Nat.xor_assoc, Nat.xor_assoc, ← Nat.xor_assoc B, Nat.xor_comm B, Nat.xor_assoc C]
theorem mul_add {a b c : Nat} (ha : a < 256) : mulN a (b ^^^ c) = mulN a b ^^^ mulN a c := by
  unfold mulN
  rw [Nat.and_xor_distrib_right, Nat.shiftRight_xor_distrib, fewN_lin_b ha, fewN_lin_b ha, sixteenN_lin fewN_lt fewN_lt, xor4]
theorem add_mul {a d b : Nat} (ha : a < 256) (hd : d < 256) : mulN (a ^^^ d) b = mulN a b ^^^ mulN d b := by
  unfold mulN
  rw [fewN_lin_a ha hd, fewN_lin_a ha hd, sixteenN_lin fewN_lt fewN_lt, xor4]
theorem mul_zero {a : Nat} (ha : a < 256) : mulN a 0 = 0 := by
  have := mul_add (b := 0) (c := 0) ha
  rw [Nat.xor_self, Nat.xor_self] at this
  exact this
theorem zero_mul (b : Nat) : mulN 0 b = 0 := by
  have := add_mul (a := 0) (d := 0) (b := b) (by decide) (by decide)
  rw [Nat.xor_self, Nat.xor_self] at this
  exact this
/-- A number by its bits. -/
theorem bits8 : ∀ x, x < 256 → x = (x &&& 1) ^^^ ((x &&& 2) ^^^ ((x &&& 4) ^^^ ((x &&& 8) ^^^ ((x &&& 16) ^^^ ((x &&& 32) ^^^ ((x &&& 64) ^^^ (x &&& 128))))))) := by decide +kernel
theorem bit8 : ∀ x, x < 256 → ∀ i, i < 8 → x &&& 2 ^ i = 0 ∨ x &&& 2 ^ i = 2 ^ i := by decide +kernel
/-- Two maps that keep sums are one if they agree at eight numbers. -/
theorem lin_ext {f g : Nat → Nat} (hf : ∀ x y, x < 256 → y < 256 → f (x ^^^ y) = f x ^^^ f y) (hg : ∀ x y, x < 256 → y < 256 → g (x ^^^ y) = g x ^^^ g y)
    (h : ∀ i, i < 8 → f (2 ^ i) = g (2 ^ i)) (x : Nat) (hx : x < 256) : f x = g x := by
  have f0 : f 0 = 0 := by have := hf 0 0 (by decide) (by decide); rwa [Nat.xor_self, Nat.xor_self] at this
  have g0 : g 0 = 0 := by have := hg 0 0 (by decide) (by decide); rwa [Nat.xor_self, Nat.xor_self] at this
  have hb : ∀ i, i < 8 → f (x &&& 2 ^ i) = g (x &&& 2 ^ i) := fun i hi => by
    rcases bit8 x hx i hi with e | e <;> rw [e]
    · rw [f0, g0]
    · exact h i hi
  have hlt : ∀ n, x &&& n < 256 := fun n => Nat.lt_of_le_of_lt Nat.and_le_left hx
  have hxl : ∀ a b, a < 256 → b < 256 → a ^^^ b < 256 := fun a b ha hb => Nat.xor_lt_two_pow (n := 8) ha hb
  have e := bits8 x hx
  have l7 := hlt 128
  have l6 := hxl _ _ (hlt 64) l7
  have l5 := hxl _ _ (hlt 32) l6
  have l4 := hxl _ _ (hlt 16) l5
  have l3 := hxl _ _ (hlt 8) l4
  have l2 := hxl _ _ (hlt 4) l3
  have l1 := hxl _ _ (hlt 2) l2
  rw [e, hf _ _ (hlt 1) l1, hf _ _ (hlt 2) l2, hf _ _ (hlt 4) l3, hf _ _ (hlt 8) l4, hf _ _ (hlt 16) l5, hf _ _ (hlt 32) l6, hf _ _ (hlt 64) l7,
    hg _ _ (hlt 1) l1, hg _ _ (hlt 2) l2, hg _ _ (hlt 4) l3, hg _ _ (hlt 8) l4, hg _ _ (hlt 16) l5, hg _ _ (hlt 32) l6, hg _ _ (hlt 64) l7]
  rw [show f (x &&& 1) = g (x &&& 1) from hb 0 (by decide), show f (x &&& 2) = g (x &&& 2) from hb 1 (by decide), show f (x &&& 4) = g (x &&& 4) from hb 2 (by decide), show f (x &&& 8) = g (x &&& 8) from hb 3 (by decide),
    show f (x &&& 16) = g (x &&& 16) from hb 4 (by decide), show f (x &&& 32) = g (x &&& 32) from hb 5 (by decide), show f (x &&& 64) = g (x &&& 64) from hb 6 (by decide), show f (x &&& 128) = g (x &&& 128) from hb 7 (by decide)]
theorem pow8 : ∀ i, i < 8 → 2 ^ i < 256 := by decide
theorem comm_base : ∀ i, i < 8 → ∀ j, j < 8 → mulN (2 ^ i) (2 ^ j) = mulN (2 ^ j) (2 ^ i) := by decide +kernel
theorem assoc_base : ∀ i, i < 8 → ∀ j, j < 8 → ∀ k, k < 8 → mulN (mulN (2 ^ i) (2 ^ j)) (2 ^ k) = mulN (2 ^ i) (mulN (2 ^ j) (2 ^ k)) := by decide +kernel
theorem one_base : ∀ i, i < 8 → mulN (2 ^ i) 1 = 2 ^ i := by decide +kernel
theorem mul_comm {a b : Nat} (ha : a < 256) (hb : b < 256) : mulN a b = mulN b a :=
  lin_ext (f := fun x => mulN x b) (g := fun x => mulN b x) (fun _ _ hx hy => add_mul hx hy) (fun _ _ _ _ => mul_add hb)
    (fun i hi => lin_ext (f := fun y => mulN (2 ^ i) y) (g := fun y => mulN y (2 ^ i)) (fun _ _ _ _ => mul_add (pow8 i hi)) (fun _ _ hx hy => add_mul hx hy) (fun j hj => comm_base i hi j hj) b hb) a ha
theorem mul_assoc {a b c : Nat} (ha : a < 256) (hb : b < 256) (hc : c < 256) : mulN (mulN a b) c = mulN a (mulN b c) := by
  refine lin_ext (f := fun x => mulN (mulN x b) c) (g := fun x => mulN x (mulN b c)) (fun x y hx hy => ?_) (fun _ _ hx hy => add_mul hx hy) (fun i hi => ?_) a ha
  · show mulN (mulN (x ^^^ y) b) c = _
    rw [add_mul hx hy, add_mul mulN_lt mulN_lt]
  refine lin_ext (f := fun x => mulN (mulN (2 ^ i) x) c) (g := fun x => mulN (2 ^ i) (mulN x c)) (fun x y _ _ => ?_) (fun x y hx hy => ?_) (fun j hj => ?_) b hb
  · show mulN (mulN _ (x ^^^ y)) c = _
    rw [mul_add (pow8 i hi), add_mul mulN_lt mulN_lt]
  · show mulN _ (mulN (x ^^^ y) c) = _
    rw [add_mul hx hy, mul_add (pow8 i hi)]
  refine lin_ext (f := fun x => mulN (mulN (2 ^ i) (2 ^ j)) x) (g := fun x => mulN (2 ^ i) (mulN (2 ^ j) x)) (fun _ _ _ _ => mul_add mulN_lt) (fun x y _ _ => ?_) (fun k hk => assoc_base i hi j hj k hk) c hc
  show mulN _ (mulN _ (x ^^^ y)) = _
  rw [mul_add (pow8 j hj), mul_add (pow8 i hi)]
theorem mul_one {a : Nat} (ha : a < 256) : mulN a 1 = a :=
  lin_ext (f := fun x => mulN x 1) (g := fun x => x) (fun _ _ hx hy => add_mul hx hy) (fun _ _ _ _ => rfl) one_base a ha
theorem one_mul {a : Nat} (ha : a < 256) : mulN 1 a = a := by rw [mul_comm (by decide) ha, mul_one ha]
theorem mul_inv : ∀ a, a < 256 → 0 < a → mulN a (invN a) = 1 := by decide +kernel
theorem mul_eq_one {a b : Nat} (ha : a < 256) (hb : b < 256) (h : mulN a b = 1) : b = invN a := by
  have ha0 : 0 < a := by
    rcases Nat.eq_zero_or_pos a with e | e
    · subst e; rw [zero_mul] at h; cases h
    · exact e
  have h1 := mul_inv a ha ha0
  have hi := invN_lt ha
  calc b = mulN 1 b := (one_mul hb).symm
    _ = mulN (mulN a (invN a)) b := by rw [h1]
    _ = mulN (mulN (invN a) a) b := by rw [mul_comm ha hi]
    _ = mulN (invN a) (mulN a b) := mul_assoc hi ha hb
    _ = invN a := by rw [h, mul_one hi]
theorem mul_left_cancel {a b c : Nat} (ha : a < 256) (h0 : 0 < a) (hb : b < 256) (hc : c < 256) (h : mulN a b = mulN a c) : b = c := by
  have h1 := mul_inv a ha h0
  have hi := invN_lt ha
  have key : ∀ x, x < 256 → mulN (invN a) (mulN a x) = x := fun x hx => by
    rw [← mul_assoc hi ha hx, mul_comm hi ha, h1, one_mul hx]
  rw [← key b hb, h, key c hc]
theorem mul_eq_zero {a b : Nat} (ha : a < 256) (hb : b < 256) (h : mulN a b = 0) : a = 0 ∨ b = 0 := by
  rcases Nat.eq_zero_or_pos a with e | e
  · exact .inl e
  · exact .inr (mul_left_cancel ha e hb (by decide) (by rw [h, mul_zero ha]))
theorem inv_pos : ∀ a, a < 256 → 0 < a → 0 < invN a := by decide +kernel
end Go.Sx
/- Plain: polynomials over the numbers of chapter 17; the interpolation. -/
namespace Go.Sx
/-- A number of the field. -/
structure F where
  n : Nat
  lt : n < 256
namespace F
theorem ext' {a b : F} (h : a.n = b.n) : a = b := by cases a; cases b; cases h; rfl
instance : DecidableEq F := fun a b => if h : a.n = b.n then .isTrue (ext' h) else .isFalse fun e => h (by rw [e])
instance : Add F := ⟨fun a b => ⟨a.n ^^^ b.n, Nat.xor_lt_two_pow (n := 8) a.lt b.lt⟩⟩
instance : Mul F := ⟨fun a b => ⟨mulN a.n b.n, mulN_lt⟩⟩
def zero : F := ⟨0, by decide⟩
def one : F := ⟨1, by decide⟩
def inv (a : F) : F := ⟨invN a.n, invN_lt a.lt⟩
theorem add_n (a b : F) : (a + b).n = a.n ^^^ b.n := rfl
theorem mul_n (a b : F) : (a * b).n = mulN a.n b.n := rfl
theorem add_comm (a b : F) : a + b = b + a := ext' (Nat.xor_comm _ _)
theorem add_assoc (a b c : F) : a + b + c = a + (b + c) := ext' (Nat.xor_assoc _ _ _)
theorem add_left_comm (a b c : F) : a + (b + c) = b + (a + c) := by rw [← add_assoc, add_comm a b, add_assoc]
theorem add_self (a : F) : a + a = zero := ext' (Nat.xor_self _)
theorem add_zero (a : F) : a + zero = a := ext' (Nat.xor_zero _)
theorem zero_add (a : F) : zero + a = a := ext' (Nat.zero_xor _)
theorem add_self_left (a b : F) : a + (a + b) = b := by rw [← add_assoc, add_self, zero_add]
theorem mul_comm (a b : F) : a * b = b * a := ext' (Go.Sx.mul_comm a.lt b.lt)
theorem mul_assoc (a b c : F) : a * b * c = a * (b * c) := ext' (Go.Sx.mul_assoc a.lt b.lt c.lt)
theorem mul_left_comm (a b c : F) : a * (b * c) = b * (a * c) := by rw [← mul_assoc, mul_comm a b, mul_assoc]
theorem mul_add (a b c : F) : a * (b + c) = a * b + a * c := ext' (Go.Sx.mul_add a.lt)
theorem add_mul (a b c : F) : (a + b) * c = a * c + b * c := ext' (Go.Sx.add_mul a.lt b.lt)
theorem mul_one (a : F) : a * one = a := ext' (Go.Sx.mul_one a.lt)
theorem one_mul (a : F) : one * a = a := ext' (Go.Sx.one_mul a.lt)
theorem mul_zero (a : F) : a * zero = zero := ext' (Go.Sx.mul_zero a.lt)
theorem zero_mul (a : F) : zero * a = zero := ext' (Go.Sx.zero_mul a.n)
theorem mul_inv {a : F} (h : a ≠ zero) : a * inv a = one := ext' (Go.Sx.mul_inv a.n a.lt (Nat.pos_of_ne_zero fun e => h (ext' e)))
theorem mul_eq_zero {a b : F} (h : a * b = zero) : a = zero ∨ b = zero := (Go.Sx.mul_eq_zero a.lt b.lt (congrArg F.n h)).imp (fun e => ext' e) fun e => ext' e
theorem add_eq_zero {a b : F} (h : a + b = zero) : a = b := by
  have : a + b + b = zero + b := by rw [h]
  rwa [add_assoc, add_self, add_zero, zero_add] at this
theorem add_ne {a b : F} (h : a ≠ b) : a + b ≠ zero := fun e => h (add_eq_zero e)
/-- A polynomial, its lowest coefficient first. -/
def pev : List F → F → F
  | [], _ => zero
  | a :: l, x => a + x * pev l x
/-- A map that is a polynomial of at most k coefficients. -/
def IsP (k : Nat) (f : F → F) : Prop := ∃ l : List F, l.length = k ∧ ∀ x, f x = pev l x
def padd : List F → List F → List F
  | a :: l, b :: m => (a + b) :: padd l m
  | [], m => m
  | l, [] => l
theorem padd_len : ∀ (l m : List F), l.length = m.length → (padd l m).length = l.length
  | [], [], _ => rfl
  | a :: l, b :: m, h => by simp only [padd, List.length_cons]; rw [padd_len l m (by simpa using h)]
theorem pev_padd : ∀ (l m : List F) (x : F), l.length = m.length → pev (padd l m) x = pev l x + pev m x
  | [], [], _, _ => (add_zero _).symm
  | a :: l, b :: m, x, h => by
    simp only [padd, pev]
    rw [pev_padd l m x (by simpa using h), mul_add]
    simp only [add_assoc, add_left_comm, add_comm]
theorem pev_scale (c : F) : ∀ (l : List F) (x : F), pev (l.map (c * ·)) x = c * pev l x
  | [], _ => (mul_zero c).symm
  | a :: l, x => by
    simp only [List.map_cons, pev]
    rw [pev_scale c l x, mul_add, mul_left_comm]
theorem IsP.add {k : Nat} {f g : F → F} (hf : IsP k f) (hg : IsP k g) : IsP k fun x => f x + g x := by
  obtain ⟨l, h1, h2⟩ := hf
  obtain ⟨m, h3, h4⟩ := hg
  exact ⟨padd l m, (padd_len l m (h1.trans h3.symm)).trans h1, fun x => by rw [pev_padd l m x (h1.trans h3.symm), ← h2, ← h4]⟩
theorem IsP.scale {k : Nat} {f : F → F} (hf : IsP k f) (c : F) : IsP k fun x => c * f x := by
  obtain ⟨l, h1, h2⟩ := hf
  exact ⟨l.map (c * ·), by rw [List.length_map, h1], fun x => by rw [pev_scale, ← h2]⟩
theorem IsP.const (c : F) : IsP 1 fun _ => c := ⟨[c], rfl, fun x => by simp only [pev]; rw [mul_zero, add_zero]⟩
theorem IsP.nought : ∀ k, IsP k fun _ => zero
  | 0 => ⟨[], rfl, fun _ => rfl⟩
  | k + 1 => by
    obtain ⟨l, h1, h2⟩ := IsP.nought k
    exact ⟨zero :: l, by rw [List.length_cons, h1], fun x => by show zero = zero + x * pev l x; rw [← h2 x, mul_zero, add_zero]⟩
theorem pev_snoc : ∀ (l : List F) (x : F), pev (l ++ [zero]) x = pev l x
  | [], x => by simp only [List.nil_append, pev]; rw [mul_zero, add_zero]
  | a :: l, x => by simp only [List.cons_append, pev]; rw [pev_snoc l x]
theorem IsP.linear {k : Nat} {f : F → F} (hf : IsP k f) (h : F) : IsP (k + 1) fun x => f x * (x + h) := by
  obtain ⟨l, h1, h2⟩ := hf
  have hx : IsP (k + 1) fun x => x * f x := ⟨zero :: l, by rw [List.length_cons, h1], fun x => by show x * f x = zero + x * pev l x; rw [h2 x, zero_add]⟩
  have hy : IsP (k + 1) f := ⟨l ++ [zero], by rw [List.length_append, h1]; rfl, fun x => by rw [pev_snoc, ← h2]⟩
  have := hx.add (hy.scale h)
  obtain ⟨m, h3, h4⟩ := this
  refine ⟨m, h3, fun x => ?_⟩
  show f x * (x + h) = _
  rw [← h4 x, mul_add, mul_comm (f x) x, mul_comm (f x) h]
/-- Division by x + r. -/
theorem pev_div (r : F) : ∀ l : List F, ∃ q : List F, q.length = l.length - 1 ∧ ∀ x, pev l x + pev l r = (x + r) * pev q x
  | [] => ⟨[], rfl, fun x => by show zero + zero = (x + r) * zero; rw [add_self, mul_zero]⟩
  | a :: l => by
    obtain ⟨q, h1, h2⟩ := pev_div r l
    cases l with
    | nil => exact ⟨[], rfl, fun x => by show (a + x * zero) + (a + r * zero) = (x + r) * zero; rw [mul_zero, mul_zero, mul_zero, add_self]⟩
    | cons b m =>
      refine ⟨pev (b :: m) r :: q, by rw [List.length_cons, h1]; rfl, fun x => ?_⟩
      have h3 := h2 x
      show (a + x * pev (b :: m) x) + (a + r * pev (b :: m) r) = (x + r) * (pev (b :: m) r + x * pev q x)
      generalize pev (b :: m) r = R at *
      generalize pev (b :: m) x = X at *
      generalize pev q x = Q at *
      have e : X = (x + r) * Q + R := by rw [← h3, add_assoc, add_self, add_zero]
      rw [e]
      simp only [mul_add, add_mul, mul_assoc, add_assoc, mul_left_comm, mul_comm, add_left_comm, add_comm, add_self_left, add_self, add_zero, zero_add]
/-- A polynomial of k coefficients with k roots is nothing. -/
theorem roots : ∀ (k : Nat) (l : List F), l.length = k → ∀ rs : List F, rs.length = k → rs.Nodup → (∀ r ∈ rs, pev l r = zero) → ∀ x, pev l x = zero
  | 0, l, hl, _, _, _, _, x => by
    have : l = [] := List.eq_nil_of_length_eq_zero hl
    subst this; rfl
  | k + 1, l, hl, [], hr, _, _, _ => by cases hr
  | k + 1, l, hl, r :: rs, hr, hn, h0, x => by
    obtain ⟨q, h1, h2⟩ := pev_div r l
    have hr0 := h0 r (by simp)
    have h3 : ∀ y, pev l y = (y + r) * pev q y := fun y => by rw [← h2 y, hr0, add_zero]
    have hq := roots k q (by omega) rs (by simpa using hr) (List.nodup_cons.1 hn).2 (fun s hs => by
      have h4 := h3 s
      rw [h0 s (by simp [hs])] at h4
      rcases mul_eq_zero h4.symm with e | e
      · have : s = r := add_eq_zero e
        subst this
        exact absurd hs (List.nodup_cons.1 hn).1
      · exact e) x
    rw [h3, hq, mul_zero]
theorem IsP.unique {k : Nat} {f g : F → F} (hf : IsP k f) (hg : IsP k g) (rs : List F) (hl : k ≤ rs.length) (hn : rs.Nodup) (h : ∀ r ∈ rs, f r = g r) (x : F) : f x = g x := by
  obtain ⟨l, h1, h2⟩ := hf.add hg
  have := roots k l h1 (rs.take k) (by simp [hl]) (hn.sublist (List.take_sublist _ _)) (fun r hr => by
    have := h r (List.mem_of_mem_take hr)
    rw [← h2 r]
    show f r + g r = zero
    rw [this, add_self]) x
  exact add_eq_zero ((h2 x).trans this)
/-- Sums over a list. -/
def sum (S : List F) (f : F → F) : F := S.foldr (fun i a => f i + a) zero
/-- Products of x + h over the list, but for i. -/
def pr (S : List F) (i x : F) : F := S.foldr (fun h a => if h = i then a else (x + h) * a) one
def La (S : List F) (i x : F) : F := pr S i x * inv (pr S i i)
def interp (S : List F) (f : F → F) (x : F) : F := sum S fun i => f i * La S i x
theorem pr_isP : ∀ (S : List F) (i : F), i ∈ S → S.Nodup → IsP S.length fun x => pr S i x
  | [], _, h, _ => by cases h
  | h :: S, i, hi, hn => by
    obtain ⟨n1, n2⟩ := List.nodup_cons.1 hn
    by_cases e : h = i
    · subst e
      have key : ∀ T : List F, h ∉ T → IsP (T.length + 1) fun x => pr T h x := by
        intro T
        induction T with
        | nil => intro _; exact IsP.const one
        | cons t T ih =>
          intro hT
          have hne : ¬ t = h := fun e => hT (by simp [e])
          have := (ih (fun h' => hT (by simp [h']))).linear t
          obtain ⟨l, h1, h2⟩ := this
          refine ⟨l, h1, fun x => ?_⟩
          rw [← h2 x]
          show (if t = h then pr T h x else (x + t) * pr T h x) = pr T h x * (x + t)
          rw [if_neg hne, mul_comm]
      obtain ⟨l, h1, h2⟩ := key S n1
      refine ⟨l, h1, fun x => ?_⟩
      rw [← h2 x]
      show (if h = h then pr S h x else _) = pr S h x
      rw [if_pos rfl]
    · have hi' : i ∈ S := by
        rcases List.mem_cons.1 hi with e' | e'
        · exact absurd e'.symm e
        · exact e'
      obtain ⟨l, h1, h2⟩ := (pr_isP S i hi' n2).linear h
      refine ⟨l, h1, fun x => ?_⟩
      rw [← h2 x]
      show (if h = i then pr S i x else (x + h) * pr S i x) = pr S i x * (x + h)
      rw [if_neg e, mul_comm]
theorem pr_zero : ∀ (S : List F) (i x : F), x ∈ S → x ≠ i → pr S i x = zero
  | [], _, _, h, _ => by cases h
  | h :: S, i, x, hx, hne => by
    show (if h = i then pr S i x else (x + h) * pr S i x) = zero
    rcases List.mem_cons.1 hx with e | e
    · subst e
      rw [if_neg hne, add_self, zero_mul]
    · split
      · exact pr_zero S i x e hne
      · rw [pr_zero S i x e hne, mul_zero]
theorem pr_ne : ∀ (S : List F) (i : F), pr S i i ≠ zero
  | [], _ => fun h => by have := congrArg F.n h; cases this
  | h :: S, i => by
    show (if h = i then pr S i i else (i + h) * pr S i i) ≠ zero
    split
    · exact pr_ne S i
    · rename_i hne
      intro h0
      rcases mul_eq_zero h0 with e | e
      · exact hne (add_eq_zero e).symm
      · exact pr_ne S i e
theorem La_isP {S : List F} {i : F} (hi : i ∈ S) (hn : S.Nodup) : IsP S.length fun x => La S i x := by
  obtain ⟨l, h1, h2⟩ := (pr_isP S i hi hn).scale (inv (pr S i i))
  refine ⟨l, h1, fun x => ?_⟩
  rw [← h2 x]
  exact mul_comm _ _
theorem La_self (S : List F) (i : F) : La S i i = one := mul_inv (pr_ne S i)
theorem La_other {S : List F} {i x : F} (hx : x ∈ S) (hne : x ≠ i) : La S i x = zero := by
  unfold La
  rw [pr_zero S i x hx hne, zero_mul]
theorem sum_isP (k : Nat) (g : F → F → F) : ∀ S : List F, (∀ i ∈ S, IsP k (g i)) → IsP k fun x => sum S fun i => g i x
  | [], _ => IsP.nought k
  | i :: S, h => (h i (by simp)).add (sum_isP k g S fun j hj => h j (by simp [hj]))
theorem interp_isP {S : List F} (hn : S.Nodup) (f : F → F) : IsP S.length fun x => interp S f x :=
  sum_isP S.length (fun i x => f i * La S i x) S fun _ hi => (La_isP hi hn).scale _
theorem sum_zero (g : F → F) : ∀ S : List F, (∀ i ∈ S, g i = zero) → sum S g = zero
  | [], _ => rfl
  | i :: S, h => by
    show g i + sum S g = zero
    rw [h i (by simp), sum_zero g S fun j hj => h j (by simp [hj]), add_zero]
theorem sum_one (g : F → F) (x : F) : ∀ S : List F, S.Nodup → x ∈ S → (∀ i ∈ S, i ≠ x → g i = zero) → sum S g = g x
  | [], _, h, _ => by cases h
  | i :: S, hn, hx, h => by
    obtain ⟨n1, n2⟩ := List.nodup_cons.1 hn
    show g i + sum S g = g x
    rcases List.mem_cons.1 hx with e | e
    · subst e
      rw [sum_zero g S fun j hj => h j (by simp [hj]) fun e => n1 (e ▸ hj), add_zero]
    · have hne : i ≠ x := fun e' => n1 (e' ▸ e)
      rw [h i (by simp) hne, zero_add, sum_one g x S n2 e fun j hj => h j (by simp [hj])]
/-- At the points that are given, it is what is given. -/
theorem interp_at {S : List F} (hn : S.Nodup) (f : F → F) {x : F} (hx : x ∈ S) : interp S f x = f x := by
  unfold interp
  rw [sum_one (fun i => f i * La S i x) x S hn hx fun i _ hne => by show f i * La S i x = zero; rw [La_other hx (fun e => hne e.symm), mul_zero]]
  show f x * La S x x = f x
  rw [La_self, mul_one]
/-- WHICHEVER POINTS ARE GIVEN: a polynomial is got back. -/
theorem interp_poly {k : Nat} {S : List F} (hn : S.Nodup) (hk : S.length = k) {f g : F → F} (hf : IsP k f) (h : ∀ i ∈ S, g i = f i) (x : F) : interp S g x = f x :=
  IsP.unique (f := fun x => interp S g x) (k := k) (by rw [← hk]; exact interp_isP hn g) hf S (by omega) hn (fun r hr => by rw [interp_at hn g hr, h r hr]) x
end F
end Go.Sx

