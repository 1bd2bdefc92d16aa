/- Plain: another string with the same fragments. -/
import Derived.Test.YtacamanakmeebaaDoorGN
namespace Go.Sx
open F
theorem cnt_upd_le (f : Nat → Bool) (w : Nat) (b : Bool) : ∀ n, cnt n (upd f w b) ≤ cnt n f + 1
  | 0 => by simp [cnt]
  | n + 1 => by
    rw [cnt_succ, cnt_succ]
    by_cases e : w = n
    · subst e
      have h1 : cnt w (upd f w b) = cnt w f := cnt_congr fun j hj => by
        have : ¬ j = w := by omega
        simp [upd, this]
      rw [h1]
      split <;> omega
    · have h1 := cnt_upd_le f w b n
      have : upd f w b n = f n := by
        have : ¬ n = w := fun e' => e e'.symm
        simp [upd, this]
      rw [this]
      omega
/-- What is added to a byte of part i: a number times the differences of i and what is in. -/
def dS (f : Nat → Bool) (c i : Nat) : Nat → Nat
  | 0 => c
  | j + 1 => if f j = true then mulN (dS f c i j) (i ^^^ j) else dS f c i j
theorem dS_lt {f : Nat → Bool} {c i : Nat} (hc : c < 256) : ∀ j, dS f c i j < 256
  | 0 => hc
  | j + 1 => by
    unfold dS; split
    · exact mulN_lt
    · exact dS_lt hc j
def dP (f : Nat → Bool) (c : F) (x : F) : Nat → F
  | 0 => c
  | j + 1 => if f j = true then dP f c x j * (x + toF j) else dP f c x j
theorem dS_dP {f : Nat → Bool} {c i : Nat} (hc : c < 256) (hi : i < 256) : ∀ n, n ≤ 256 → toF (dS f c i n) = dP f (toF c) (toF i) n
  | 0, _ => rfl
  | n + 1, h => by
    have ih := dS_dP (f := f) hc hi n (by omega)
    unfold dS dP
    split
    · rw [toF_mul (dS_lt hc n) (Nat.xor_lt_two_pow (n := 8) hi (show n < 2 ^ 8 by omega)), ih, toF_xor hi (by omega)]
    · exact ih
theorem isP_up {k : Nat} {f : F → F} (h : IsP k f) : ∀ m, k ≤ m → IsP m f := by
  intro m hm
  obtain ⟨d, rfl⟩ := Nat.exists_eq_add_of_le hm
  clear hm
  induction d with
  | zero => exact h
  | succ d ih =>
    obtain ⟨l, h1, h2⟩ := ih
    exact ⟨l ++ [zero], by simp [h1, Nat.add_assoc], fun x => by rw [pev_snoc]; exact h2 x⟩
theorem dP_isP (f : Nat → Bool) (c : F) : ∀ n, IsP (cnt n f + 1) fun x => dP f c x n
  | 0 => IsP.const c
  | n + 1 => by
    have ih := dP_isP f c n
    rw [cnt_succ]
    unfold dP
    by_cases h : f n = true
    · simp only [h, if_true]
      have := ih.linear (toF n)
      rwa [show cnt n f + 1 + 1 = cnt n f + 1 + 1 from rfl] at this
    · have h' : f n = false := by simpa using h
      simp only [h', Bool.false_eq_true, if_false]
      exact ih
theorem dP_zero {f : Nat → Bool} {c : F} {j : Nat} (hj : f j = true) : ∀ n, j < n → dP f c (toF j) n = zero
  | 0, h => by cases h
  | n + 1, h => by
    unfold dP
    by_cases e : j = n
    · subst e; rw [if_pos hj, F.add_self, F.mul_zero]
    · have ih := dP_zero (c := c) hj n (by omega)
      split
      · rw [ih, F.zero_mul]
      · exact ih
theorem dP_ne {f : Nat → Bool} {c x : F} (hc : c ≠ zero) : ∀ n, (∀ j, j < n → toF j ≠ x) → dP f c x n ≠ zero
  | 0, _ => hc
  | n + 1, h => by
    have ih := dP_ne (f := f) hc n fun j hj => h j (by omega)
    unfold dP
    split
    · intro e
      rcases F.mul_eq_zero e with e | e
      · exact ih e
      · exact F.add_ne (fun e2 => h n (by omega) e2.symm) e
    · exact ih
/-- Another string: byte p of part i has something added. -/
structure Other (s o : ByteArray) (k m p : Nat) (f : Nat → Bool) (c n : Nat) : Prop where
  size : o.size = s.size
  sz : s.size = k * m
  same : ∀ i q, i < k → q < m → sb o (i * m + q) = if q = p then sb s (i * m + q) ^^^ dS f c i n else sb s (i * m + q)
theorem mOf_mul {k m : Nat} (hk : 0 < k) : mOf (k * m) k = m := by
  unfold mOf
  rw [show k * m + k - 1 = (k - 1) + k * m by omega, Nat.add_mul_div_left _ _ hk, Nat.div_eq_of_lt (by omega), Nat.zero_add]
theorem Other.code {s o : ByteArray} {k m p : Nat} {f : Nat → Bool} {c n : Nat} (h : Other s o k m p f c n) (hk : 0 < k) (hk9 : k ≤ 9) (hn : n ≤ 9) (hc : c < 256) (hcnt : cnt n f + 1 ≤ k) {j : Nat} (hj : j < n) (hf : f j = true) : codeA o k j = codeA s k j := by
  have hm1 : mOf s.size k = m := by rw [h.sz]; exact mOf_mul hk
  have hm2 : mOf o.size k = m := by rw [h.size]; exact hm1
  refine sb_ext (by rw [codeA_size, codeA_size, hm1, hm2]) fun q hq => toF_sb_inj ?_
  rw [codeA_size, hm2] at hq
  rw [codeA_poly o k j q (by omega) (by omega) (by rw [hm2]; exact hq), codeA_poly s k j q (by omega) (by omega) (by rw [hm1]; exact hq), poly_bytes o k q (by omega) (by rw [hm2]; exact hq), poly_bytes s k q (by omega) (by rw [hm1]; exact hq), hm1, hm2]
  have hb : ∀ i : F, i ∈ (List.range k).map toF → toF (sb o (i.n * m + q)) = toF (sb s (i.n * m + q)) + (if q = p then dP f (toF c) i n else zero) := fun i hi => by
    obtain ⟨a, ha, rfl⟩ := List.mem_map.1 hi
    have ha' := List.mem_range.1 ha
    rw [toF_n (by omega), h.same a q ha' hq]
    split
    · rw [toF_xor (sb_lt _ _) (dS_lt hc n), dS_dP hc (by omega) n (by omega)]
    · rw [F.add_zero]
  rw [interp_congr hb, interp_add]
  have hz : interp ((List.range k).map toF) (fun i => if q = p then dP f (toF c) i n else zero) (toF j) = zero := by
    by_cases e : q = p
    · simp only [e, if_true]
      rw [interp_poly (range_nodup k (by omega)) (by simp) (isP_up (dP_isP f (toF c) n) k hcnt) (fun _ _ => rfl)]
      exact dP_zero hf n hj
    · simp only [e, if_false]
      rw [interp_poly (range_nodup k (by omega)) (by simp) (IsP.nought k) (fun _ _ => rfl)]
  rw [hz, F.add_zero]
theorem Other.ne {s o : ByteArray} {k m p : Nat} {f : Nat → Bool} {c n : Nat} (h : Other s o k m p f c n) (hk : 0 < k) (hk9 : k ≤ 9) (hn : n ≤ 9) (hp : p < m) (hc : c < 256) (hc0 : 0 < c) (hcnt : cnt n f + 1 ≤ k) : o ≠ s := fun e => by
  have hd : ∀ i, i < k → dS f c i n = 0 := fun i hi => by
    have := h.same i p hi hp
    rw [if_pos rfl, e] at this
    have h2 : sb s (i * m + p) ^^^ (sb s (i * m + p) ^^^ dS f c i n) = 0 := by rw [← this, Nat.xor_self]
    rwa [← Nat.xor_assoc, Nat.xor_self, Nat.zero_xor] at h2
  have hP := isP_up (dP_isP f (toF c) n) k hcnt
  have := IsP.unique hP (IsP.nought k) ((List.range k).map toF) (by simp) (range_nodup k (by omega)) (fun r hr => by
    obtain ⟨a, ha, rfl⟩ := List.mem_map.1 hr
    have ha' := List.mem_range.1 ha
    rw [← dS_dP hc (by omega) n (by omega), hd a ha']; rfl) (toF 100)
  refine dP_ne (f := f) (c := toF c) (x := toF 100) (fun e => ?_) n (fun j hj e => ?_) this
  · have := congrArg F.n e
    rw [toF_n hc] at this
    have h0 : F.n zero = 0 := rfl
    omega
  · have := toF_inj (show j < 256 by omega) (by decide) e
    omega
end Go.Sx

