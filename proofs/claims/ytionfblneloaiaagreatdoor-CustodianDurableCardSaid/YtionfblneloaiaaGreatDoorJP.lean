/- Plain, chapters 1 and 26: numbers and strings that are read back; a journal's content. -/
import Derived.Test.YtionfblneloaiaaGreatDoorDI
namespace Go.Sx
open Go
def unz (z : Nat) : Int := if z % 2 = 0 then ((z / 2 : Nat) : Int) else -((z / 2 : Nat) : Int) - 1
/-- A number that begins at p, from its byte i on; z: what was read before. -/
def decG (s : List UInt8) (p i z : Nat) : Option (Nat × Nat) :=
  if h : i < 9 then
    if p + i < s.length then
      if 128 ≤ (s.getD (p + i) 0).toNat then decG s p (i + 1) (z + (s.getD (p + i) 0).toNat % 128 * 2 ^ (7 * i))
      else if ((s.getD (p + i) 0).toNat = 0 ∧ 0 < i) ∨ unz (z + (s.getD (p + i) 0).toNat % 128 * 2 ^ (7 * i)) < -4611686018427387903 then none
      else some (z + (s.getD (p + i) 0).toNat % 128 * 2 ^ (7 * i), p + i + 1)
    else none
  else none
termination_by 9 - i
theorem decG_9 (s : List UInt8) (p z : Nat) : decG s p 9 z = none := by rw [decG, dif_neg (by decide)]
theorem decG_end {s : List UInt8} {p i z : Nat} (h : ¬ p + i < s.length) : decG s p i z = none := by
  rw [decG]
  by_cases hi : i < 9
  · rw [dif_pos hi, if_neg h]
  · rw [dif_neg hi]
theorem decG_on {s : List UInt8} {p i z : Nat} (hi : i < 9) (h : p + i < s.length) (hb : 128 ≤ (s.getD (p + i) 0).toNat) : decG s p i z = decG s p (i + 1) (z + (s.getD (p + i) 0).toNat % 128 * 2 ^ (7 * i)) := by
  rw [decG, dif_pos hi, if_pos h, if_pos hb]
theorem decG_no {s : List UInt8} {p i z : Nat} (hi : i < 9) (h : p + i < s.length) (hb : ¬ 128 ≤ (s.getD (p + i) 0).toNat)
    (hn : ((s.getD (p + i) 0).toNat = 0 ∧ 0 < i) ∨ unz (z + (s.getD (p + i) 0).toNat % 128 * 2 ^ (7 * i)) < -4611686018427387903) : decG s p i z = none := by
  rw [decG, dif_pos hi, if_pos h, if_neg hb, if_pos hn]
theorem decG_yes {s : List UInt8} {p i z : Nat} (hi : i < 9) (h : p + i < s.length) (hb : ¬ 128 ≤ (s.getD (p + i) 0).toNat)
    (hn : ¬ (((s.getD (p + i) 0).toNat = 0 ∧ 0 < i) ∨ unz (z + (s.getD (p + i) 0).toNat % 128 * 2 ^ (7 * i)) < -4611686018427387903)) : decG s p i z = some (z + (s.getD (p + i) 0).toNat % 128 * 2 ^ (7 * i), p + i + 1) := by
  rw [decG, dif_pos hi, if_pos h, if_neg hb, if_neg hn]
theorem decG_le {s : List UInt8} {p : Nat} : ∀ (k i z : Nat), 9 - i ≤ k → ∀ {x : Nat × Nat}, decG s p i z = some x → p < x.2 ∧ x.2 ≤ s.length
  | 0, i, z, hk, x, h => by
    rw [decG, dif_neg (by omega)] at h; cases h
  | k + 1, i, z, hk, x, h => by
    rw [decG] at h
    split at h
    · split at h
      · split at h
        · exact decG_le k (i + 1) _ (by omega) h
        · split at h
          · cases h
          · simp only [Option.some.injEq] at h
            subst h
            exact ⟨by show p < p + i + 1; omega, by show p + i + 1 ≤ _; omega⟩
      · cases h
    · cases h
def decI (s : List UInt8) (p : Nat) : Option (Nat × Nat) := decG s p 0 0
/-- A string that begins at p. -/
def decS (s : List UInt8) (p : Nat) : Option (List UInt8 × Nat) :=
  match decI s p with
  | none => none
  | some (z, q) => if unz z < 0 ∨ unz z > 65536 ∨ unz z > ((s.length : Nat) : Int) - (q : Int) then none else some ((s.drop q).take (unz z).toNat, q + (unz z).toNat)
theorem decS_le {s : List UInt8} {p : Nat} {r : List UInt8} {q : Nat} (h : decS s p = some (r, q)) : p < q ∧ q ≤ s.length ∧ r.length ≤ 65536 := by
  unfold decS at h
  cases hd : decI s p with
  | none => rw [hd] at h; cases h
  | some x =>
    obtain ⟨z, q0⟩ := x
    rw [hd] at h
    simp only at h
    have hq := decG_le 9 0 0 (by omega) hd
    simp only at hq
    split at h
    · cases h
    · rename_i hn
      simp only [Option.some.injEq, Prod.mk.injEq] at h
      obtain ⟨rfl, rfl⟩ := h
      rw [List.length_take]
      omega
/-- What is kept of a journal: its records, its head, how much it takes. -/
structure Tp where
  recs : List ByteArray
  head : ByteArray
  size : Nat
/-- A record as it is stored. -/
def outL (h r : ByteArray) : List UInt8 := 1 :: (putN r.size ++ r.data.toList ++ (chainS h r).data.toList)
def outB (h r : ByteArray) : ByteArray := ⟨(outL h r).toArray⟩
def Tp.add (t : Tp) (r : ByteArray) : Tp := ⟨t.recs ++ [r], chainS t.head r, t.size + (outL t.head r).length⟩
def mkBA (l : List UInt8) : ByteArray := ⟨l.toArray⟩
theorem outL_pos (h r : ByteArray) : 0 < (outL h r).length := by unfold outL; rw [List.length_cons]; omega
/-- A content that is read; none: it is damaged. -/
def loadF (s : List UInt8) (t : Tp) : Option Tp :=
  if h : t.size < s.length ∧ s.getD t.size 0 ≠ 0 then
    if s.getD t.size 0 = 1 then
      match decS s (t.size + 1) with
      | none => none
      | some (r, q) => if q + 32 ≤ s.length ∧ outL t.head (mkBA r) = (s.drop t.size).take (q + 32 - t.size) then loadF s (t.add (mkBA r)) else none
    else none
  else some t
termination_by s.length - t.size
decreasing_by
  have := outL_pos t.head (mkBA r)
  show s.length - (t.size + (outL t.head (mkBA r)).length) < _
  omega
theorem loadF_end {s : List UInt8} {t : Tp} (h : ¬ (t.size < s.length ∧ s.getD t.size 0 ≠ 0)) : loadF s t = some t := by rw [loadF, dif_neg h]
theorem loadF_bad {s : List UInt8} {t : Tp} (h : t.size < s.length ∧ s.getD t.size 0 ≠ 0) (h1 : s.getD t.size 0 ≠ 1) : loadF s t = none := by rw [loadF, dif_pos h, if_neg h1]
theorem loadF_none {s : List UInt8} {t : Tp} (h : t.size < s.length ∧ s.getD t.size 0 ≠ 0) (hd : decS s (t.size + 1) = none) : loadF s t = none := by
  rw [loadF, dif_pos h]
  split
  · rw [hd]
  · rfl
theorem loadF_no {s : List UInt8} {t : Tp} {r : List UInt8} {q : Nat} (h : t.size < s.length ∧ s.getD t.size 0 ≠ 0) (hd : decS s (t.size + 1) = some (r, q))
    (hn : ¬ (q + 32 ≤ s.length ∧ outL t.head (mkBA r) = (s.drop t.size).take (q + 32 - t.size))) : loadF s t = none := by
  rw [loadF, dif_pos h]
  split
  · rw [hd]; simp only; rw [if_neg hn]
  · rfl
theorem loadF_step {s : List UInt8} {t : Tp} {r : List UInt8} {q : Nat} (h : t.size < s.length ∧ s.getD t.size 0 ≠ 0) (h1 : s.getD t.size 0 = 1) (hd : decS s (t.size + 1) = some (r, q))
    (hn : q + 32 ≤ s.length ∧ outL t.head (mkBA r) = (s.drop t.size).take (q + 32 - t.size)) : loadF s t = loadF s (t.add (mkBA r)) := by
  rw [loadF, dif_pos h, if_pos h1, hd]
  simp only
  rw [if_pos hn]
end Go.Sx
/- Plain, chapters 1 and 26: what was stored is read back. -/
namespace Go.Sx
open Go
theorem getD_drop {s r : List UInt8} {p : Nat} {b : UInt8} (h : s.drop p = b :: r) : p < s.length ∧ s.getD p 0 = b ∧ s.drop (p + 1) = r := by
  have h1 : p < s.length := by
    rcases Nat.lt_or_ge p s.length with h2 | h2
    · exact h2
    · rw [List.drop_of_length_le h2] at h; cases h
  rw [List.drop_eq_getElem_cons h1] at h
  injection h with h2 h3
  refine ⟨h1, ?_, h3⟩
  rw [List.getD_eq_getElem?_getD, List.getElem?_eq_getElem h1]
  exact h2
theorem drop_app {s a r : List UInt8} {p : Nat} (h : s.drop p = a ++ r) : s.drop (p + a.length) = r := by
  rw [← List.drop_drop, h, List.drop_left]
theorem drop_len {s a r : List UInt8} {p : Nat} (h : s.drop p = a ++ r) (ha : 0 < a.length) : s.length = p + a.length + r.length := by
  have := congrArg List.length h
  rw [List.length_drop, List.length_append] at this
  omega
theorem u8_nat {a : Nat} (h : a < 256) : (UInt8.ofNat a).toNat = a := by simp; omega
theorem decG_vint : ∀ (n v i z : Nat), v < 128 ^ (n + 1) → i + n < 9 → (0 < i → 0 < v) → ∀ {s rest : List UInt8} {p : Nat}, s.drop (p + i) = vint v ++ rest → 0 ≤ unz (z + v * 2 ^ (7 * i)) →
    decG s p i z = some (z + v * 2 ^ (7 * i), p + i + (vint v).length)
  | n, v, i, z, hv, hi, h0, s, rest, p, hs, hu => by
    by_cases h : v < 128
    · rw [vint_lt h] at hs ⊢
      obtain ⟨h1, h2, h3⟩ := getD_drop hs
      have h4 := u8_nat (show v < 256 by omega)
      have e : (s.getD (p + i) 0).toNat = v := by rw [h2, h4]
      have hmod : v % 128 = v := Nat.mod_eq_of_lt h
      rw [decG_yes (by omega) h1 (by omega) (by rw [e, hmod]; omega), e, hmod]; rfl
    · match n, hv, hi with
      | 0, hv, hi => omega
      | n + 1, hv, hi =>
        rw [vint_ge h] at hs ⊢
        obtain ⟨h1, h2, h3⟩ := getD_drop hs
        have h4 := u8_nat (show v % 128 + 128 < 256 by omega)
        have e : (s.getD (p + i) 0).toNat = v % 128 + 128 := by rw [h2, h4]
        have hmod : (v % 128 + 128) % 128 = v % 128 := by omega
        have hz : z + v % 128 * 2 ^ (7 * i) + v / 128 * 2 ^ (7 * (i + 1)) = z + v * 2 ^ (7 * i) := by
          have e2 : 2 ^ (7 * (i + 1)) = 128 * 2 ^ (7 * i) := by rw [Nat.mul_add, Nat.pow_add, Nat.mul_comm]
          rw [e2, Nat.add_assoc, ← Nat.mul_assoc, ← Nat.add_mul]
          congr 2
          omega
        rw [decG_on (by omega) h1 (by omega), e, hmod, decG_vint n (v / 128) (i + 1) _ (by rw [Nat.pow_succ] at hv; omega) (by omega) (by omega) h3 (by rw [hz]; exact hu), hz, List.length_cons]
        congr 2; omega
theorem unz_even (n : Nat) : unz (2 * n) = (n : Int) := by
  unfold unz
  rw [if_pos (by omega)]
  omega
theorem decI_putN {n : Nat} (hn : n ≤ 1099511627776) {s rest : List UInt8} {p : Nat} (h : s.drop p = putN n ++ rest) : decI s p = some (2 * n, p + (putN n).length) := by
  have := decG_vint 8 (2 * n) 0 0 (by omega) (by omega) (fun h => by omega) (s := s) (rest := rest) (p := p) h (by rw [Nat.mul_zero, Nat.pow_zero, Nat.mul_one, Nat.zero_add, unz_even]; omega)
  unfold decI
  rw [this, Nat.mul_zero, Nat.pow_zero, Nat.mul_one, Nat.zero_add]; rfl
theorem decS_putN {r : List UInt8} (hr : r.length ≤ 65536) {s rest : List UInt8} {p : Nat} (h : s.drop p = putN r.length ++ r ++ rest) : decS s p = some (r, p + (putN r.length).length + r.length) := by
  rw [List.append_assoc] at h
  have hd := decI_putN (by omega) h
  have h2 := drop_app h
  have hl := congrArg List.length h2
  rw [List.length_drop, List.length_append] at hl
  have hp : 0 < (putN r.length).length := by
    unfold putN; unfold vint; split <;> simp
  have hq := drop_len h hp
  rw [List.length_append] at hq
  unfold decS
  rw [hd]
  simp only [unz_even]
  rw [if_neg (by omega), h2, Int.toNat_natCast]
  simp
/-- Records as they are stored, behind one another. -/
def outsL (h : ByteArray) : List ByteArray → List UInt8
  | [] => []
  | r :: l => outL h r ++ outsL (chainS h r) l
def adds (t : Tp) (l : List ByteArray) : Tp := l.foldl Tp.add t
theorem adds_nil (t : Tp) : adds t [] = t := rfl
theorem adds_cons (t : Tp) (r : ByteArray) (l : List ByteArray) : adds t (r :: l) = adds (t.add r) l := rfl
theorem adds_app (t : Tp) (l m : List ByteArray) : adds t (l ++ m) = adds (adds t l) m := by unfold adds; rw [List.foldl_append]
theorem adds_recs : ∀ (l : List ByteArray) (t : Tp), (adds t l).recs = t.recs ++ l
  | [], t => by rw [adds_nil, List.append_nil]
  | r :: l, t => by
    rw [adds_cons, adds_recs l]
    show t.recs ++ [r] ++ l = _
    rw [List.append_assoc]; rfl
theorem adds_size : ∀ (l : List ByteArray) (t : Tp), (adds t l).size = t.size + (outsL t.head l).length
  | [], t => rfl
  | r :: l, t => by
    rw [adds_cons, adds_size l]
    show t.size + (outL t.head r).length + (outsL (chainS t.head r) l).length = t.size + (outL t.head r ++ outsL (chainS t.head r) l).length
    rw [List.length_append]; omega
theorem outsL_app : ∀ (l m : List ByteArray) (t : Tp), outsL t.head (l ++ m) = outsL t.head l ++ outsL (adds t l).head m
  | [], m, t => rfl
  | r :: l, m, t => by
    show outL t.head r ++ outsL (t.add r).head (l ++ m) = outL t.head r ++ outsL (t.add r).head l ++ _
    rw [outsL_app l m (t.add r), List.append_assoc]; rfl
theorem loadF_add {s rest : List UInt8} {t : Tp} {r : ByteArray} (hr : r.size ≤ 65536) (h : s.drop t.size = outL t.head r ++ rest) : loadF s t = loadF s (t.add r) := by
  have hrl : r.data.toList.length = r.size := by rw [Array.length_toList]; rfl
  have hcl : (chainS t.head r).data.toList.length = 32 := by rw [Array.length_toList]; exact chainS_size t.head r
  have hout : outL t.head r = 1 :: (putN r.size ++ r.data.toList ++ (chainS t.head r).data.toList) := rfl
  have hmk : mkBA r.data.toList = r := by cases r; rfl
  rw [hout, List.cons_append] at h
  obtain ⟨h1, h2, h3⟩ := getD_drop h
  have h3' : s.drop (t.size + 1) = putN r.data.toList.length ++ r.data.toList ++ ((chainS t.head r).data.toList ++ rest) := by rw [h3, hrl]; simp
  have hd := decS_putN (by omega) h3'
  have hpr : (putN r.data.toList.length).length = (putN r.size).length := by rw [hrl]
  have hlen := congrArg List.length h3
  simp only [List.length_drop, List.length_append] at hlen
  have hol : (outL t.head r).length = 1 + (putN r.size).length + r.size + 32 := by rw [hout]; simp only [List.length_cons, List.length_append]; omega
  have hstep := loadF_step (t := t) ⟨h1, by rw [h2]; decide⟩ h2 hd ⟨by omega, ?_⟩
  · rw [hmk] at hstep; exact hstep
  · rw [hmk, h, ← List.cons_append, ← hout, show t.size + 1 + (putN r.data.toList.length).length + r.data.toList.length + 32 - t.size = (outL t.head r).length from by rw [hol, hrl]; omega, List.take_left]
theorem loadF_adds : ∀ (l : List ByteArray) (t : Tp) {s rest : List UInt8}, (∀ r ∈ l, r.size ≤ 65536) → s.drop t.size = outsL t.head l ++ rest → loadF s t = loadF s (adds t l)
  | [], t, s, rest, _, _ => rfl
  | r :: l, t, s, rest, hr, h => by
    have h' : s.drop t.size = outL t.head r ++ (outsL (chainS t.head r) l ++ rest) := by rw [h]; simp [outsL]
    rw [loadF_add (hr r (List.mem_cons_self ..)) h', adds_cons]
    exact loadF_adds l (t.add r) (fun r h => hr r (List.mem_cons_of_mem _ h)) (drop_app h')
theorem loadF_zero {s : List UInt8} {t : Tp} {m : Nat} (h : s.drop t.size = List.replicate m 0) : loadF s t = some t := by
  refine loadF_end fun h1 => h1.2 ?_
  cases m with
  | zero =>
    have := congrArg List.length h
    rw [List.length_drop] at this
    simp at this
    omega
  | succ m =>
    rw [List.replicate_succ] at h
    exact (getD_drop h).2.1
/-- What was stored, and nothing behind it, is read back. -/
theorem loadF_all {l : List ByteArray} {t : Tp} {s : List UInt8} {m : Nat} (hr : ∀ r ∈ l, r.size ≤ 65536) (h : s.drop t.size = outsL t.head l ++ List.replicate m 0) : loadF s t = some (adds t l) := by
  rw [loadF_adds l t hr h]
  refine loadF_zero (m := m) ?_
  rw [adds_size]
  exact drop_app h
def isZero (l : List UInt8) : Bool := l.all (· == 0)
theorem isZero_rep {l : List UInt8} (h : isZero l = true) : l = List.replicate l.length 0 := by
  refine List.eq_replicate_iff.2 ⟨rfl, fun b hb => ?_⟩
  have := List.all_eq_true.1 h b hb
  simpa using this
theorem rep_isZero (m : Nat) : isZero (List.replicate m 0) = true := by
  refine List.all_eq_true.2 fun b hb => ?_
  rw [(List.mem_replicate.1 hb).2]; rfl
theorem dropWhile_zero {l : List UInt8} : l.dropWhile (· == 0) = [] ↔ isZero l = true := by
  induction l with
  | nil => exact ⟨fun _ => rfl, fun _ => rfl⟩
  | cons b l ih =>
    rw [List.dropWhile_cons]
    show _ ↔ ((b == 0) && isZero l) = true
    cases b == 0
    · simp
    · simpa using ih
theorem isZero_reverse (l : List UInt8) : isZero l.reverse = isZero l := by unfold isZero; rw [List.all_reverse]
theorem dropWhile_dropWhile_zero {l : List UInt8} : (l.reverse.dropWhile (· == 0)).reverse.dropWhile (· == 0) = [] ↔ isZero l = true := by
  rw [dropWhile_zero, isZero_reverse]
  constructor
  · intro h
    have e : l.reverse.dropWhile (· == 0) = [] := by
      cases hd : l.reverse.dropWhile (· == 0) with
      | nil => rfl
      | cons b m =>
        have hb : (b == 0) = false := by
          have := List.head?_dropWhile_not (p := (· == (0 : UInt8))) (l := l.reverse)
          rw [hd] at this
          simpa using this
        rw [hd] at h
        unfold isZero at h
        rw [List.all_cons, hb] at h
        cases h
    rw [← isZero_reverse]
    exact dropWhile_zero.1 e
  · intro h
    rw [← isZero_reverse] at h
    rw [dropWhile_zero.2 h]; rfl
end Go.Sx

