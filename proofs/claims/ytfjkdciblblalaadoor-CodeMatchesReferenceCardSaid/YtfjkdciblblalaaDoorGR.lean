/- Plain: the weights of chapter 17's reference are the code's. -/
import Derived.Test.YtfjkdciblblalaaDoorGP
namespace Go.Sx
/-- One step of the reference's weight. -/
def refS (i x acc h : Nat) : Nat := if h = i then acc else mulN acc (mulN (x ^^^ h) (invN (i ^^^ h)))
def wgtR (nums : List Nat) (x i : Nat) : Nat := nums.foldl (refS i x) 1
theorem mul_four {a b c d : Nat} (ha : a < 256) (hb : b < 256) (hc : c < 256) (hd : d < 256) : mulN (mulN a b) (mulN c d) = mulN (mulN a d) (mulN b c) := by
  rw [mul_assoc ha hb mulN_lt, mul_assoc ha hd mulN_lt]
  congr 1
  rw [← mul_assoc hb hc hd, mul_comm mulN_lt hd]
theorem out_mul {i x : Nat} (hx : x < 256) : ∀ (l : List Nat), (∀ h ∈ l, h < 256) → ∀ (a b : Nat), a < 256 → b < 256 → l.foldl (outS i x) (mulN a b) = mulN a (l.foldl (outS i x) b)
  | [], _, _, _, _, _ => rfl
  | h :: l, hl, a, b, ha, hb => by
    have hh := hl h (List.Mem.head _)
    rw [List.foldl_cons, List.foldl_cons]
    by_cases e : h = i
    · simp only [outS, if_pos e]
      exact out_mul hx l (fun y hy => hl y (List.Mem.tail _ hy)) a b ha hb
    · simp only [outS, if_neg e]
      have hxh : x ^^^ h < 256 := Nat.xor_lt_two_pow (n := 8) hx hh
      rw [mul_assoc ha hb hxh]
      exact out_mul hx l (fun y hy => hl y (List.Mem.tail _ hy)) a _ ha mulN_lt
theorem ref_mul {i x : Nat} (hi : i < 256) (hx : x < 256) : ∀ (l : List Nat), (∀ h ∈ l, h < 256) → ∀ (a b : Nat), a < 256 → b < 256 → l.foldl (refS i x) (mulN a b) = mulN (l.foldl (belS i) a) (l.foldl (outS i x) b)
  | [], _, _, _, _, _ => rfl
  | h :: l, hl, a, b, ha, hb => by
    have hh := hl h (List.Mem.head _)
    rw [List.foldl_cons, List.foldl_cons, List.foldl_cons]
    by_cases e : h = i
    · simp only [refS, belS, outS, if_pos e]
      exact ref_mul hi hx l (fun y hy => hl y (List.Mem.tail _ hy)) a b ha hb
    · simp only [refS, belS, outS, if_neg e]
      have hxh : x ^^^ h < 256 := Nat.xor_lt_two_pow (n := 8) hx hh
      have hih : i ^^^ h < 256 := Nat.xor_lt_two_pow (n := 8) hi hh
      rw [mul_four ha hb hxh (invN_lt hih)]
      exact ref_mul hi hx l (fun y hy => hl y (List.Mem.tail _ hy)) _ _ mulN_lt mulN_lt
theorem wgtR_eq {nums : List Nat} {x i : Nat} (hi : i < 256) (hx : x < 256) (hn : ∀ h ∈ nums, h < 256) : wgtR nums x i = wgt nums x i := by
  unfold wgtR wgt
  have h1 := ref_mul hi hx nums hn 1 1 (by decide) (by decide)
  rw [mul_one (by decide)] at h1
  rw [h1]
  have h2 := out_mul hx nums hn (i := i) (bel nums i) 1 (bel_lt nums i) (by decide)
  rw [mul_one (bel_lt nums i)] at h2
  exact h2.symm
/-- What is computed depends on the fragments and the weights of the numbers alone. -/
theorem cmp_congr {frs frs' : List ByteArray} {nums : List Nat} {W W' : Nat → Nat} {m : Nat} (h : ∀ i ∈ nums, fr frs i = fr frs' i ∧ W i = W' i) : cmpStr frs nums W m = cmpStr frs' nums W' m := by
  have e : (fun q => UInt8.ofNat (cmpS frs nums W q)) = fun q => UInt8.ofNat (cmpS frs' nums W' q) := funext fun q => by
    rw [show cmpS frs nums W q = cmpS frs' nums W' q from cmpS_congr nums 0 h]
  unfold cmpStr
  rw [e]
/-- What the reference computes. -/
def atR (frs : List ByteArray) (nums : List Nat) (x m : Nat) : ByteArray := cmpStr frs nums (fun i => wgtR nums x i) m
theorem atR_eq {frs : List ByteArray} {nums : List Nat} {x m : Nat} (hx : x < 256) (hn : ∀ h ∈ nums, h < 256) : atR frs nums x m = cmpStr frs nums (wgtA nums x) m := cmp_congr fun i hi => ⟨rfl, by
  unfold wgtA
  rw [if_pos hi]
  exact wgtR_eq (hn i hi) hx hn⟩
end Go.Sx

