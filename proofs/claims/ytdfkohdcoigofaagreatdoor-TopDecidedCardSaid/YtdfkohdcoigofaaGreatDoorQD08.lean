/- Plain, chapters 1 and 26: numbers and strings that are read back; a journal's content. -/
import Derived.Test.YtdfkohdcoigofaaGreatDoorQD07
import Derived.Shelf.GgClosure.StringsIndexFuncTop
namespace Go.Sx
open Go
def unz (z : Nat) : Int := if z % 2 = 0 then ((z / 2 : Nat) : Int) else -((z / 2 : Nat) : Int) - 1
/-- A number that begins at p, from its byte i on; z: what was read before. -/
def decG (s : List UInt8) (p i z : Nat) : Option (Nat × Nat) :=
  if h : i < 9 then
    if p + i < s.length then
      if 128 ≤ (s.getD (p + i) 0).toNat then decG s p (i + 1) (z + (s.getD (p + i) 0).toNat % 128 * 2 ^ (7 * i))
      else if ((s.getD (p + i) 0).toNat = 0 ∧ 0 < i) ∨ unz (z + (s.getD (p + i) 0).toNat % 128 * 2 ^ (7 * i)) < -4611686018427387903 then none
      else some (z + (s.getD (p + i) 0).toNat % 128 * 2 ^ (7 * i), p + i + 1)
    else none
  else none
termination_by 9 - i
theorem decG_9 (s : List UInt8) (p z : Nat) : decG s p 9 z = none := by rw [decG, dif_neg (by decide)]
theorem decG_end {s : List UInt8} {p i z : Nat} (h : ¬ p + i < s.length) : decG s p i z = none := by
  rw [decG]
  by_cases hi : i < 9
  · rw [dif_pos hi, if_neg h]
  · rw [dif_neg hi]
theorem decG_on {s : List UInt8} {p i z : Nat} (hi : i < 9) (h : p + i < s.length) (hb : 128 ≤ (s.getD (p + i) 0).toNat) : decG s p i z = decG s p (i + 1) (z + (s.getD (p + i) 0).toNat % 128 * 2 ^ (7 * i)) := by
  rw [decG, dif_pos hi, if_pos h, if_pos hb]
theorem decG_no {s : List UInt8} {p i z : Nat} (hi : i < 9) (h : p + i < s.length) (hb : ¬ 128 ≤ (s.getD (p + i) 0).toNat)
    (hn : ((s.getD (p + i) 0).toNat = 0 ∧ 0 < i) ∨ unz (z + (s.getD (p + i) 0).toNat % 128 * 2 ^ (7 * i)) < -4611686018427387903) : decG s p i z = none := by
  rw [decG, dif_pos hi, if_pos h, if_neg hb, if_pos hn]
theorem decG_yes {s : List UInt8} {p i z : Nat} (hi : i < 9) (h : p + i < s.length) (hb : ¬ 128 ≤ (s.getD (p + i) 0).toNat)
    (hn : ¬ (((s.getD (p + i) 0).toNat = 0 ∧ 0 < i) ∨ unz (z + (s.getD (p + i) 0).toNat % 128 * 2 ^ (7 * i)) < -4611686018427387903)) : decG s p i z = some (z + (s.getD (p + i) 0).toNat % 128 * 2 ^ (7 * i), p + i + 1) := by
  rw [decG, dif_pos hi, if_pos h, if_neg hb, if_neg hn]
theorem decG_le {s : List UInt8} {p : Nat} : ∀ (k i z : Nat), 9 - i ≤ k → ∀ {x : Nat × Nat}, decG s p i z = some x → p < x.2 ∧ x.2 ≤ s.length
  | 0, i, z, hk, x, h => by
    rw [decG, dif_neg (by omega)] at h; cases h
  | k + 1, i, z, hk, x, h => by
    rw [decG] at h
    split at h
    · split at h
      · split at h
        · exact decG_le k (i + 1) _ (by omega) h
        · split at h
          · cases h
          · simp only [Option.some.injEq] at h
            subst h
            exact ⟨by show p < p + i + 1; omega, by show p + i + 1 ≤ _; omega⟩
      · cases h
    · cases h
def decI (s : List UInt8) (p : Nat) : Option (Nat × Nat) := decG s p 0 0
/-- A string that begins at p. -/
def decS (s : List UInt8) (p : Nat) : Option (List UInt8 × Nat) :=
  match decI s p with
  | none => none
  | some (z, q) => if unz z < 0 ∨ unz z > 65536 ∨ unz z > ((s.length : Nat) : Int) - (q : Int) then none else some ((s.drop q).take (unz z).toNat, q + (unz z).toNat)
/-- What is kept of a journal: its records, its head, how much it takes. -/
structure Tp where
  recs : List ByteArray
  head : ByteArray
  size : Nat
/-- A record as it is stored. -/
def outL (h r : ByteArray) : List UInt8 := 1 :: (putN r.size ++ r.data.toList ++ (chainS h r).data.toList)
def outB (h r : ByteArray) : ByteArray := ⟨(outL h r).toArray⟩
def Tp.add (t : Tp) (r : ByteArray) : Tp := ⟨t.recs ++ [r], chainS t.head r, t.size + (outL t.head r).length⟩
def mkBA (l : List UInt8) : ByteArray := ⟨l.toArray⟩
theorem outL_pos (h r : ByteArray) : 0 < (outL h r).length := by unfold outL; rw [List.length_cons]; omega
/-- A content that is read; none: it is damaged. -/
def loadF (s : List UInt8) (t : Tp) : Option Tp :=
  if _h : t.size < s.length ∧ s.getD t.size 0 ≠ 0 then
    if s.getD t.size 0 = 1 then
      match decS s (t.size + 1) with
      | none => none
      | some (r, q) => if q + 32 ≤ s.length ∧ outL t.head (mkBA r) = (s.drop t.size).take (q + 32 - t.size) then loadF s (t.add (mkBA r)) else none
    else none
  else some t
termination_by s.length - t.size
decreasing_by
  have := outL_pos t.head (mkBA r)
  show s.length - (t.size + (outL t.head (mkBA r)).length) < _
  omega
theorem loadF_step {s : List UInt8} {t : Tp} {r : List UInt8} {q : Nat} (h : t.size < s.length ∧ s.getD t.size 0 ≠ 0) (h1 : s.getD t.size 0 = 1) (hd : decS s (t.size + 1) = some (r, q))
    (hn : q + 32 ≤ s.length ∧ outL t.head (mkBA r) = (s.drop t.size).take (q + 32 - t.size)) : loadF s t = loadF s (t.add (mkBA r)) := by
  rw [loadF, dif_pos h, if_pos h1, hd]
  simp only
  rw [if_pos hn]
end Go.Sx
/- Plain, chapters 1 and 26: what was stored is read back. -/
namespace Go.Sx
open Go
theorem getD_drop {s r : List UInt8} {p : Nat} {b : UInt8} (h : s.drop p = b :: r) : p < s.length ∧ s.getD p 0 = b ∧ s.drop (p + 1) = r := by
  have h1 : p < s.length := by
    rcases Nat.lt_or_ge p s.length with h2 | h2
    · exact h2
    · rw [List.drop_of_length_le h2] at h; cases h
  rw [List.drop_eq_getElem_cons h1] at h
  injection h with h2 h3
  refine ⟨h1, ?_, h3⟩
  rw [List.getD_eq_getElem?_getD, List.getElem?_eq_getElem h1]
  exact h2
theorem drop_app {s a r : List UInt8} {p : Nat} (h : s.drop p = a ++ r) : s.drop (p + a.length) = r := by
  rw [← List.drop_drop, h, List.drop_left]
theorem drop_len {s a r : List UInt8} {p : Nat} (h : s.drop p = a ++ r) (ha : 0 < a.length) : s.length = p + a.length + r.length := by
  have := congrArg List.length h
  rw [List.length_drop, List.length_append] at this
  omega
theorem u8_nat {a : Nat} (h : a < 256) : (UInt8.ofNat a).toNat = a := by simp; omega
theorem decG_vint : ∀ (n v i z : Nat), v < 128 ^ (n + 1) → i + n < 9 → (0 < i → 0 < v) → ∀ {s rest : List UInt8} {p : Nat}, s.drop (p + i) = vint v ++ rest → 0 ≤ unz (z + v * 2 ^ (7 * i)) →
    decG s p i z = some (z + v * 2 ^ (7 * i), p + i + (vint v).length)
  | n, v, i, z, hv, hi, h0, s, rest, p, hs, hu => by
    by_cases h : v < 128
    · rw [vint_lt h] at hs ⊢
      obtain ⟨h1, h2, h3⟩ := getD_drop hs
      have h4 := u8_nat (show v < 256 by omega)
      have e : (s.getD (p + i) 0).toNat = v := by rw [h2, h4]
      have hmod : v % 128 = v := Nat.mod_eq_of_lt h
      rw [decG_yes (by omega) h1 (by omega) (by rw [e, hmod]; omega), e, hmod]; rfl
    · match n, hv, hi with
      | 0, hv, hi => omega
      | n + 1, hv, hi =>
        rw [vint_ge h] at hs ⊢
        obtain ⟨h1, h2, h3⟩ := getD_drop hs
        have h4 := u8_nat (show v % 128 + 128 < 256 by omega)
        have e : (s.getD (p + i) 0).toNat = v % 128 + 128 := by rw [h2, h4]
        have hmod : (v % 128 + 128) % 128 = v % 128 := by omega
        have hz : z + v % 128 * 2 ^ (7 * i) + v / 128 * 2 ^ (7 * (i + 1)) = z + v * 2 ^ (7 * i) := by
          have e2 : 2 ^ (7 * (i + 1)) = 128 * 2 ^ (7 * i) := by rw [Nat.mul_add, Nat.pow_add, Nat.mul_comm]
          rw [e2, Nat.add_assoc, ← Nat.mul_assoc, ← Nat.add_mul]
          congr 2
          omega
        rw [decG_on (by omega) h1 (by omega), e, hmod, decG_vint n (v / 128) (i + 1) _ (by rw [Nat.pow_succ] at hv; omega) (by omega) (by omega) h3 (by rw [hz]; exact hu), hz, List.length_cons]
        congr 2; omega
theorem unz_even (n : Nat) : unz (2 * n) = (n : Int) := by
  unfold unz
  rw [if_pos (by omega)]
  omega
theorem decI_putN {n : Nat} (hn : n ≤ 1099511627776) {s rest : List UInt8} {p : Nat} (h : s.drop p = putN n ++ rest) : decI s p = some (2 * n, p + (putN n).length) := by
  have := decG_vint 8 (2 * n) 0 0 (by omega) (by omega) (fun h => by omega) (s := s) (rest := rest) (p := p) h (by rw [Nat.mul_zero, Nat.pow_zero, Nat.mul_one, Nat.zero_add, unz_even]; omega)
  unfold decI
  rw [this, Nat.mul_zero, Nat.pow_zero, Nat.mul_one, Nat.zero_add]; rfl
theorem decS_putN {r : List UInt8} (hr : r.length ≤ 65536) {s rest : List UInt8} {p : Nat} (h : s.drop p = putN r.length ++ r ++ rest) : decS s p = some (r, p + (putN r.length).length + r.length) := by
  rw [List.append_assoc] at h
  have hd := decI_putN (by omega) h
  have h2 := drop_app h
  have hl := congrArg List.length h2
  rw [List.length_drop, List.length_append] at hl
  have hp : 0 < (putN r.length).length := by
    unfold putN; unfold vint; split <;> simp
  have hq := drop_len h hp
  rw [List.length_append] at hq
  unfold decS
  rw [hd]
  simp only [unz_even]
  rw [if_neg (by omega), h2, Int.toNat_natCast]
  simp
/-- Records as they are stored, behind one another. -/
def outsL (h : ByteArray) : List ByteArray → List UInt8
  | [] => []
  | r :: l => outL h r ++ outsL (chainS h r) l
def adds (t : Tp) (l : List ByteArray) : Tp := l.foldl Tp.add t
theorem adds_nil (t : Tp) : adds t [] = t := rfl
theorem adds_cons (t : Tp) (r : ByteArray) (l : List ByteArray) : adds t (r :: l) = adds (t.add r) l := rfl
theorem loadF_add {s rest : List UInt8} {t : Tp} {r : ByteArray} (hr : r.size ≤ 65536) (h : s.drop t.size = outL t.head r ++ rest) : loadF s t = loadF s (t.add r) := by
  have hrl : r.data.toList.length = r.size := by rw [Array.length_toList]; rfl
  have hcl : (chainS t.head r).data.toList.length = 32 := by rw [Array.length_toList]; exact chainS_size t.head r
  have hout : outL t.head r = 1 :: (putN r.size ++ r.data.toList ++ (chainS t.head r).data.toList) := rfl
  have hmk : mkBA r.data.toList = r := by cases r; rfl
  rw [hout, List.cons_append] at h
  obtain ⟨h1, h2, h3⟩ := getD_drop h
  have h3' : s.drop (t.size + 1) = putN r.data.toList.length ++ r.data.toList ++ ((chainS t.head r).data.toList ++ rest) := by rw [h3, hrl]; simp
  have hd := decS_putN (by omega) h3'
  have hpr : (putN r.data.toList.length).length = (putN r.size).length := by rw [hrl]
  have hlen := congrArg List.length h3
  simp only [List.length_drop, List.length_append] at hlen
  have hol : (outL t.head r).length = 1 + (putN r.size).length + r.size + 32 := by rw [hout]; simp only [List.length_cons, List.length_append]; omega
  have hstep := loadF_step (t := t) ⟨h1, by rw [h2]; decide⟩ h2 hd ⟨by omega, ?_⟩
  · rw [hmk] at hstep; exact hstep
  · rw [hmk, h, ← List.cons_append, ← hout, show t.size + 1 + (putN r.data.toList.length).length + r.data.toList.length + 32 - t.size = (outL t.head r).length from by rw [hol, hrl]; omega, List.take_left]
def isZero (l : List UInt8) : Bool := l.all (· == 0)
end Go.Sx
/- Chapter 1: numbers and strings that are read back: the walks. -/
namespace Go.Sx
open Go Go.Proofs Go.RowKit
theorem bits_and_u8 (a b : Nat) (ha : a < 256) (hb : b < 256) : bits .and .u8 (a : Int) (b : Int) = ((a &&& b : Nat) : Int) := by
  show IntKind.u8.wrap (((BitVec.ofInt 8 a &&& BitVec.ofInt 8 b).toNat : Nat) : Int) = _
  have h1 : (BitVec.ofInt 8 (a : Int)).toNat = a := by simp; omega
  have h2 : (BitVec.ofInt 8 (b : Int)).toNat = b := by simp; omega
  have h3 : a &&& b < 256 := Nat.lt_of_le_of_lt Nat.and_le_left ha
  rw [BitVec.toNat_and, h1, h2]
  exact wrap_u8 (by omega) (by omega)
theorem POp.and8 {P : Program} {N : Nat} {ds : List Deferred} {E : Env} {t t' ty : TypeId} {x y : Operand} {m n : Int} {a b : Nat} (hx : Env.ev E x = some (.int .u8 m)) (hy : Env.ev E y = some (.int .u8 n)) (em : m = (a : Int)) (en : n = (b : Int)) (h1 : a < 256) (h2 : b < 256) :
    POp P N ds E (.binOp .and t x y t') ty (.int .u8 ((a &&& b : Nat) : Int)) := POp.bin hx hy guard_int fun w => by
  subst em; subst en
  rw [binOp_and, intBits_and, bits_and_u8 a b h1 h2]; rfl
theorem bits_zz {a : Nat} (ha : a < 9223372036854775808) : bits .xor .i64 (a : Int) (-1) = -(a : Int) - 1 := by
  show IntKind.i64.wrap (((BitVec.ofInt 64 a ^^^ BitVec.ofInt 64 (-1)).toNat : Nat) : Int) = _
  rw [show BitVec.ofInt 64 (-1) = BitVec.allOnes 64 from by decide, BitVec.xor_allOnes]
  have h1 : (BitVec.ofInt 64 (a : Int)).toNat = a := ofInt_toNat a (by omega)
  rw [BitVec.toNat_not, h1]
  simp [IntKind.wrap, IntKind.bits, IntKind.signed]
  omega
theorem POp.zz {P : Program} {N : Nat} {ds : List Deferred} {E : Env} {t t' ty : TypeId} {x y : Operand} {z : Nat} (hx : Env.ev E x = some (zv ((z / 2 : Nat) : Int))) (hy : Env.ev E y = some (zv (-((z % 2 : Nat) : Int)))) (hz : z < 18446744073709551616) :
    POp P N ds E (.binOp .xor t x y t') ty (zv (unz z)) := POp.bin hx hy guard_int fun w => by
  unfold unz
  by_cases h : z % 2 = 0
  · rw [if_pos h, h]
    have e : bits .xor .i64 ((z / 2 : Nat) : Int) (-((0 : Nat) : Int)) = ((z / 2 : Nat) : Int) := by
      have := bits_xor_nat (z / 2) 0 (by omega) (by omega)
      rw [Nat.xor_zero] at this
      exact this
    rw [binOp_xor, intBits_xor, e]; rfl
  · have h1 : z % 2 = 1 := by omega
    rw [if_neg h, h1]
    have e : bits .xor .i64 ((z / 2 : Nat) : Int) (-((1 : Nat) : Int)) = -((z / 2 : Nat) : Int) - 1 := bits_zz (by omega)
    rw [binOp_xor, intBits_xor, e]; rfl
theorem or_shl {z g k : Nat} (h : z < 2 ^ k) : z ||| (g <<< k) = z + g * 2 ^ k := by
  have e := Nat.two_pow_add_eq_or_of_lt (i := k) (b := z) h g
  rw [Nat.shiftLeft_eq, Nat.or_comm, Nat.mul_comm g, ← e, Nat.add_comm]
def intV : Option (Nat × Nat) → Value
  | some (z, q) => .tuple #[zv (unz z), zv (q : Int), zv 0]
  | none => .tuple #[zv 0, zv 0, zv 10]
def strV : Option (List UInt8 × Nat) → Value
  | some (r, q) => .tuple #[.string (mkBA r), zv (q : Int), zv 0]
  | none => .tuple #[.string (mkBA []), zv 0, zv 10]
theorem WX.ret3 {P : Program} {N : Nat} {E : Env} {w : World} {fn : Func} {t1 t2 t3 : Nat} {v1 v2 v3 : Value} {R : Value → World → Prop} (hr : fn.results = #[.tmp t1, .tmp t2, .tmp t3]) (h1 : Env.g E t1 = some v1) (h2 : Env.g E t2 = some v2) (h3 : Env.g E t3 = some v3) (h : R (.tuple #[v1, v2, v3]) w) :
    WX N [] .ret (bodyPost P fn (RetP R)) E w := fun a ha => by
  refine ⟨ha.defers, .tuple #[v1, v2, v3], ?_, ⟨_, rfl, h⟩⟩
  have e1 : a.tmps.getD t1 undef = v1 := by rw [Array.getD_eq_getD_getElem?, ha.get _ _ h1]; rfl
  have e2 : a.tmps.getD t2 undef = v2 := by rw [Array.getD_eq_getD_getElem?, ha.get _ _ h2]; rfl
  have e3 : a.tmps.getD t3 undef = v3 := by rw [Array.getD_eq_getD_getElem?, ha.get _ _ h3]; rfl
  have e1' : a.tmps[t1]?.getD undef = v1 := by simpa using e1
  have e2' : a.tmps[t2]?.getD undef = v2 := by simpa using e2
  have e3' : a.tmps[t3]?.getD undef = v3 := by simpa using e3
  simp [results, hr, e1', e2', e3']
attribute [local irreducible] WC WL WX POp Then Again Fn NX W1 WA WO QL RP RA Yld LoopAt HC HL HX HN H1 HA HO HQ HB HP A.blk A.grow A.rd A.obj A.mp AgainH CutH
attribute [local irreducible] unz
set_option maxHeartbeats 4000000 in
theorem int_fn (s : ByteArray) (p : Nat) (hp : p ≤ s.size) (hs : s.size ≤ 5000000) (w : World) : Fn Tryz.prog 195 #[.string s, zv (p : Int)] w fun v w' => v = intV (decI s.data.toList p) ∧ w = w' := by
  have hlen : s.data.toList.length = s.size := by rw [Array.length_toList]; rfl
  refine enter (l := [_, _]) rfl Tryz.ntmps195 rfl ?_
  repeat' (first | apply WL.fold | apply WA.fold | apply WL.nil | apply WX.n_then | apply WC.seq | apply WC.region | refine WL.pa ?_ | refine WL.ga rfl ?_ | refine WL.na rfl ?_ | refine WL.nu rfl rfl ?_ | apply WC.block | apply WC.skip | apply WC.exit | apply WC.ret | apply WX.e_block | refine WX.e_other rfl ?_ | apply WX.e_then | apply WX.e_again | apply WX.n_block | apply WX.r_then | apply WX.r_block | apply WX.r_again | refine WC.cond_yes rfl ?_ | refine WC.cond_no rfl ?_ | refine WC.cond rfl (fun hc => ?_) (fun hc => ?_) | refine WC.cond_b rfl (fun hc => ?_) (fun hc => ?_))
  refine WC.loop (α := Nat × Nat) (fun x => [(0, .string s), (1, zv (p : Int)), (7, .int .u64 (x.2 : Int)), (19, zv (x.1 : Int))])
    (fun x w' => w' = w ∧ x.1 ≤ 9 ∧ x.2 < 2 ^ (7 * x.1) ∧ decG s.data.toList p x.1 x.2 = decI s.data.toList p) (fun x => 9 - x.1) (0, 0) esA ⟨rfl, by omega, by decide, rfl⟩ ?_
  rintro ⟨i, z⟩ w' ⟨rfl, hi, hz, hd⟩
  dsimp only at hi hz hd ⊢
  by_cases hlt : i < 9
  · by_cases hin : p + i < s.size
    · have hin' : p + i < s.data.toList.length := by omega
      have hge : ¬ ((s.size : Int) ≤ (p : Int) + (i : Int)) := by omega
      obtain ⟨b, hb⟩ : ∃ b, b = (s.data.toList.getD (p + i) 0).toNat := ⟨_, rfl⟩
      have hbl : b < 256 := by rw [hb]; exact UInt8.toNat_lt _
      have hsb : sb s (p + i) = b := hb.symm
      have hpw : 2 ^ (7 * i) ≤ 2 ^ 56 := Nat.pow_le_pow_right (by decide) (by omega)
      have hmul : b % 128 * 2 ^ (7 * i) ≤ 127 * 2 ^ 56 := Nat.mul_le_mul (by omega) hpw
      have hand : b &&& 127 = b % 128 := Nat.and_two_pow_sub_one_eq_mod b 7
      have hor : z ||| (b % 128) <<< (7 * i) = z + b % 128 * 2 ^ (7 * i) := or_shl hz
      have hz2 : z + b % 128 * 2 ^ (7 * i) < 2 ^ (7 * (i + 1)) := by
        have e : 2 ^ (7 * (i + 1)) = 128 * 2 ^ (7 * i) := by rw [Nat.mul_add, Nat.pow_add, Nat.mul_comm]
        have h2 : b % 128 * 2 ^ (7 * i) ≤ 127 * 2 ^ (7 * i) := Nat.mul_le_mul_right _ (by omega)
        omega
      have hz3 : z + b % 128 * 2 ^ (7 * i) < 9223372036854775808 := by
        have h2 : 2 ^ (7 * (i + 1)) ≤ 2 ^ 63 := Nat.pow_le_pow_right (by decide) (by omega)
        omega
      have hshl : (b % 128) <<< (7 * i) < 18446744073709551616 := by rw [Nat.shiftLeft_eq]; omega
      have on := decG_on (s := s.data.toList) (p := p) (z := z) hlt hin'
      have no := decG_no (s := s.data.toList) (p := p) (z := z) hlt hin'
      have yes := decG_yes (s := s.data.toList) (p := p) (z := z) hlt hin'
      rw [← hb] at on no yes
      generalize hz' : z + b % 128 * 2 ^ (7 * i) = z' at hor hz2 hz3 on no yes
      repeat' (first | apply WL.fold | apply WA.fold | apply WL.nil | apply WX.n_then | apply WC.seq | apply WC.region | refine WL.pa ?_ | refine WL.ga rfl ?_ | refine WL.na rfl ?_ | refine WL.nu rfl rfl ?_ | apply WC.block | apply WC.skip | apply WC.exit | apply WC.ret | apply WX.e_block | refine WX.e_other rfl ?_ | apply WX.e_then | apply WX.e_again | apply WX.n_block | apply WX.r_then | apply WX.r_block | apply WX.r_again | refine WC.cond_yes rfl ?_ | refine WC.cond_no rfl ?_ | refine WC.cond rfl (fun hc => ?_) (fun hc => ?_) | refine WC.cond_b rfl (fun hc => ?_) (fun hc => ?_))
      rw [hsb]
      refine WL.pa ?_ (POp.and8 (a := b) (b := 127) rfl rfl rfl rfl hbl (by decide))
      rw [hand]
      repeat' (first | apply WL.fold | apply WA.fold | apply WL.nil | apply WX.n_then | apply WC.seq | apply WC.region | refine WL.pa ?_ | refine WL.ga rfl ?_ | refine WL.na rfl ?_ | refine WL.nu rfl rfl ?_ | apply WC.block | apply WC.skip | apply WC.exit | apply WC.ret | apply WX.e_block | refine WX.e_other rfl ?_ | apply WX.e_then | apply WX.e_again | apply WX.n_block | apply WX.r_then | apply WX.r_block | apply WX.r_again | refine WC.cond_yes rfl ?_ | refine WC.cond_no rfl ?_ | refine WC.cond rfl (fun hc => ?_) (fun hc => ?_) | refine WC.cond_b rfl (fun hc => ?_) (fun hc => ?_))
      refine WL.pa ?_ ((POp.conv (k' := .u64) rfl).of (v' := .int .u64 ((b % 128 : Nat) : Int)) (by rw [wrap_u64 (by omega)]))
      repeat' (first | apply WL.fold | apply WA.fold | apply WL.nil | apply WX.n_then | apply WC.seq | apply WC.region | refine WL.pa ?_ | refine WL.ga rfl ?_ | refine WL.na rfl ?_ | refine WL.nu rfl rfl ?_ | apply WC.block | apply WC.skip | apply WC.exit | apply WC.ret | apply WX.e_block | refine WX.e_other rfl ?_ | apply WX.e_then | apply WX.e_again | apply WX.n_block | apply WX.r_then | apply WX.r_block | apply WX.r_again | refine WC.cond_yes rfl ?_ | refine WC.cond_no rfl ?_ | refine WC.cond rfl (fun hc => ?_) (fun hc => ?_) | refine WC.cond_b rfl (fun hc => ?_) (fun hc => ?_))
      refine WL.pa ?_ (POp.shl64 (a := b % 128) (b := 7 * i) rfl rfl rfl (by omega) (by omega) hshl)
      repeat' (first | apply WL.fold | apply WA.fold | apply WL.nil | apply WX.n_then | apply WC.seq | apply WC.region | refine WL.pa ?_ | refine WL.ga rfl ?_ | refine WL.na rfl ?_ | refine WL.nu rfl rfl ?_ | apply WC.block | apply WC.skip | apply WC.exit | apply WC.ret | apply WX.e_block | refine WX.e_other rfl ?_ | apply WX.e_then | apply WX.e_again | apply WX.n_block | apply WX.r_then | apply WX.r_block | apply WX.r_again | refine WC.cond_yes rfl ?_ | refine WC.cond_no rfl ?_ | refine WC.cond rfl (fun hc => ?_) (fun hc => ?_) | refine WC.cond_b rfl (fun hc => ?_) (fun hc => ?_))
      refine WL.pa ?_ (POp.or64 (a := z) (b := (b % 128) <<< (7 * i)) rfl rfl rfl rfl (by omega) hshl)
      rw [hor]
      by_cases h128 : 128 ≤ b
      · have h128' : (128 : Int) ≤ (b : Int) := by omega
        repeat' (first | apply WL.fold | apply WA.fold | apply WL.nil | apply WX.n_then | apply WC.seq | apply WC.region | refine WL.pa ?_ | refine WL.ga rfl ?_ | refine WL.na rfl ?_ | refine WL.nu rfl rfl ?_ | apply WC.block | apply WC.skip | apply WC.exit | apply WC.ret | apply WX.e_block | refine WX.e_other rfl ?_ | apply WX.e_then | apply WX.e_again | apply WX.n_block | apply WX.r_then | apply WX.r_block | apply WX.r_again | refine WC.cond_yes rfl ?_ | refine WC.cond_no rfl ?_ | refine WC.cond rfl (fun hc => ?_) (fun hc => ?_) | refine WC.cond_b rfl (fun hc => ?_) (fun hc => ?_))
        exact WX.again (i + 1, z') ⟨rfl, hlt, hz2, by rw [← on h128]; exact hd⟩ (by show 9 - (i + 1) < 9 - i; omega) esA
      · have h128' : ¬ (128 : Int) ≤ (b : Int) := by omega
        have hand1 : z' &&& 1 = z' % 2 := Nat.and_two_pow_sub_one_eq_mod z' 1
        have hshr : z' >>> 1 = z' / 2 := Nat.shiftRight_eq_div_pow z' 1
        repeat' (first | apply WL.fold | apply WA.fold | apply WL.nil | apply WX.n_then | apply WC.seq | apply WC.region | refine WL.pa ?_ | refine WL.ga rfl ?_ | refine WL.na rfl ?_ | refine WL.nu rfl rfl ?_ | apply WC.block | apply WC.skip | apply WC.exit | apply WC.ret | apply WX.e_block | refine WX.e_other rfl ?_ | apply WX.e_then | apply WX.e_again | apply WX.n_block | apply WX.r_then | apply WX.r_block | apply WX.r_again | refine WC.cond_yes rfl ?_ | refine WC.cond_no rfl ?_ | refine WC.cond rfl (fun hc => ?_) (fun hc => ?_) | refine WC.cond_b rfl (fun hc => ?_) (fun hc => ?_))
        refine WL.pa ?_ (POp.shr64 (a := z') (b := 1) rfl rfl rfl rfl (by decide))
        rw [hshr]
        repeat' (first | apply WL.fold | apply WA.fold | apply WL.nil | apply WX.n_then | apply WC.seq | apply WC.region | refine WL.pa ?_ | refine WL.ga rfl ?_ | refine WL.na rfl ?_ | refine WL.nu rfl rfl ?_ | apply WC.block | apply WC.skip | apply WC.exit | apply WC.ret | apply WX.e_block | refine WX.e_other rfl ?_ | apply WX.e_then | apply WX.e_again | apply WX.n_block | apply WX.r_then | apply WX.r_block | apply WX.r_again | refine WC.cond_yes rfl ?_ | refine WC.cond_no rfl ?_ | refine WC.cond rfl (fun hc => ?_) (fun hc => ?_) | refine WC.cond_b rfl (fun hc => ?_) (fun hc => ?_))
        refine WL.pa ?_ (POp.and64 (a := z') (b := 1) rfl rfl rfl rfl (by omega) (by decide))
        rw [hand1]
        repeat' (first | apply WL.fold | apply WA.fold | apply WL.nil | apply WX.n_then | apply WC.seq | apply WC.region | refine WL.pa ?_ | refine WL.ga rfl ?_ | refine WL.na rfl ?_ | refine WL.nu rfl rfl ?_ | apply WC.block | apply WC.skip | apply WC.exit | apply WC.ret | apply WX.e_block | refine WX.e_other rfl ?_ | apply WX.e_then | apply WX.e_again | apply WX.n_block | apply WX.r_then | apply WX.r_block | apply WX.r_again | refine WC.cond_yes rfl ?_ | refine WC.cond_no rfl ?_ | refine WC.cond rfl (fun hc => ?_) (fun hc => ?_) | refine WC.cond_b rfl (fun hc => ?_) (fun hc => ?_))
        refine WL.pa ?_ (POp.zz (z := z') rfl rfl (by omega))
        by_cases hb0 : (b : Int) = 0
        · by_cases hi0 : (0 : Int) < (i : Int)
          · have hno := no h128 (.inl ⟨by omega, by omega⟩)
            repeat' (first | apply WL.fold | apply WA.fold | apply WL.nil | apply WX.n_then | apply WC.seq | apply WC.region | refine WL.pa ?_ | refine WL.ga rfl ?_ | refine WL.na rfl ?_ | refine WL.nu rfl rfl ?_ | apply WC.block | apply WC.skip | apply WC.exit | apply WC.ret | apply WX.e_block | refine WX.e_other rfl ?_ | apply WX.e_then | apply WX.e_again | apply WX.n_block | apply WX.r_then | apply WX.r_block | apply WX.r_again | refine WC.cond_yes rfl ?_ | refine WC.cond_no rfl ?_ | refine WC.cond rfl (fun hc => ?_) (fun hc => ?_) | refine WC.cond_b rfl (fun hc => ?_) (fun hc => ?_))
            exact WX.ret3 (P := Tryz.prog) rfl rfl rfl rfl ⟨by rw [← hd, hno]; rfl, rfl⟩
          · by_cases hu : unz z' < -4611686018427387903
            · have hno := no h128 (.inr hu)
              repeat' (first | apply WL.fold | apply WA.fold | apply WL.nil | apply WX.n_then | apply WC.seq | apply WC.region | refine WL.pa ?_ | refine WL.ga rfl ?_ | refine WL.na rfl ?_ | refine WL.nu rfl rfl ?_ | apply WC.block | apply WC.skip | apply WC.exit | apply WC.ret | apply WX.e_block | refine WX.e_other rfl ?_ | apply WX.e_then | apply WX.e_again | apply WX.n_block | apply WX.r_then | apply WX.r_block | apply WX.r_again | refine WC.cond_yes rfl ?_ | refine WC.cond_no rfl ?_ | refine WC.cond rfl (fun hc => ?_) (fun hc => ?_) | refine WC.cond_b rfl (fun hc => ?_) (fun hc => ?_))
              exact WX.ret3 (P := Tryz.prog) rfl rfl rfl rfl ⟨by rw [← hd, hno]; rfl, rfl⟩
            · have hyes := yes h128 (by omega)
              repeat' (first | apply WL.fold | apply WA.fold | apply WL.nil | apply WX.n_then | apply WC.seq | apply WC.region | refine WL.pa ?_ | refine WL.ga rfl ?_ | refine WL.na rfl ?_ | refine WL.nu rfl rfl ?_ | apply WC.block | apply WC.skip | apply WC.exit | apply WC.ret | apply WX.e_block | refine WX.e_other rfl ?_ | apply WX.e_then | apply WX.e_again | apply WX.n_block | apply WX.r_then | apply WX.r_block | apply WX.r_again | refine WC.cond_yes rfl ?_ | refine WC.cond_no rfl ?_ | refine WC.cond rfl (fun hc => ?_) (fun hc => ?_) | refine WC.cond_b rfl (fun hc => ?_) (fun hc => ?_))
              exact WX.ret3 (P := Tryz.prog) rfl rfl rfl rfl ⟨by rw [← hd, hyes]; rfl, rfl⟩
        · by_cases hu : unz z' < -4611686018427387903
          · have hno := no h128 (.inr hu)
            repeat' (first | apply WL.fold | apply WA.fold | apply WL.nil | apply WX.n_then | apply WC.seq | apply WC.region | refine WL.pa ?_ | refine WL.ga rfl ?_ | refine WL.na rfl ?_ | refine WL.nu rfl rfl ?_ | apply WC.block | apply WC.skip | apply WC.exit | apply WC.ret | apply WX.e_block | refine WX.e_other rfl ?_ | apply WX.e_then | apply WX.e_again | apply WX.n_block | apply WX.r_then | apply WX.r_block | apply WX.r_again | refine WC.cond_yes rfl ?_ | refine WC.cond_no rfl ?_ | refine WC.cond rfl (fun hc => ?_) (fun hc => ?_) | refine WC.cond_b rfl (fun hc => ?_) (fun hc => ?_))
            exact WX.ret3 (P := Tryz.prog) rfl rfl rfl rfl ⟨by rw [← hd, hno]; rfl, rfl⟩
          · have hyes := yes h128 (by omega)
            repeat' (first | apply WL.fold | apply WA.fold | apply WL.nil | apply WX.n_then | apply WC.seq | apply WC.region | refine WL.pa ?_ | refine WL.ga rfl ?_ | refine WL.na rfl ?_ | refine WL.nu rfl rfl ?_ | apply WC.block | apply WC.skip | apply WC.exit | apply WC.ret | apply WX.e_block | refine WX.e_other rfl ?_ | apply WX.e_then | apply WX.e_again | apply WX.n_block | apply WX.r_then | apply WX.r_block | apply WX.r_again | refine WC.cond_yes rfl ?_ | refine WC.cond_no rfl ?_ | refine WC.cond rfl (fun hc => ?_) (fun hc => ?_) | refine WC.cond_b rfl (fun hc => ?_) (fun hc => ?_))
            exact WX.ret3 (P := Tryz.prog) rfl rfl rfl rfl ⟨by rw [← hd, hyes]; rfl, rfl⟩
    · have hge : ((s.size : Int) ≤ (p : Int) + (i : Int)) := by omega
      have hno := decG_end (s := s.data.toList) (p := p) (i := i) (z := z) (by omega)
      repeat' (first | apply WL.fold | apply WA.fold | apply WL.nil | apply WX.n_then | apply WC.seq | apply WC.region | refine WL.pa ?_ | refine WL.ga rfl ?_ | refine WL.na rfl ?_ | refine WL.nu rfl rfl ?_ | apply WC.block | apply WC.skip | apply WC.exit | apply WC.ret | apply WX.e_block | refine WX.e_other rfl ?_ | apply WX.e_then | apply WX.e_again | apply WX.n_block | apply WX.r_then | apply WX.r_block | apply WX.r_again | refine WC.cond_yes rfl ?_ | refine WC.cond_no rfl ?_ | refine WC.cond rfl (fun hc => ?_) (fun hc => ?_) | refine WC.cond_b rfl (fun hc => ?_) (fun hc => ?_))
      exact WX.ret3 (P := Tryz.prog) rfl rfl rfl rfl ⟨by rw [← hd, hno]; rfl, rfl⟩
  · obtain rfl : i = 9 := by omega
    have hno := decG_9 s.data.toList p z
    repeat' (first | apply WL.fold | apply WA.fold | apply WL.nil | apply WX.n_then | apply WC.seq | apply WC.region | refine WL.pa ?_ | refine WL.ga rfl ?_ | refine WL.na rfl ?_ | refine WL.nu rfl rfl ?_ | apply WC.block | apply WC.skip | apply WC.exit | apply WC.ret | apply WX.e_block | refine WX.e_other rfl ?_ | apply WX.e_then | apply WX.e_again | apply WX.n_block | apply WX.r_then | apply WX.r_block | apply WX.r_again | refine WC.cond_yes rfl ?_ | refine WC.cond_no rfl ?_ | refine WC.cond rfl (fun hc => ?_) (fun hc => ?_) | refine WC.cond_b rfl (fun hc => ?_) (fun hc => ?_))
    exact WX.ret3 (P := Tryz.prog) rfl rfl rfl rfl ⟨by rw [← hd, hno]; rfl, rfl⟩
end Go.Sx
/- Chapter 1: a string that is read back: the walk. -/
namespace Go.Sx
open Go Go.Proofs Go.RowKit
theorem ba_ext {s t : ByteArray} (h : s.data.toList = t.data.toList) : s = t := by
  cases s; cases t
  congr 1
  exact Array.toList_inj.1 h
theorem extract_L (s : ByteArray) (a b : Nat) : (s.extract a b).data.toList = (s.data.toList.drop a).take (b - a) := by
  rw [ByteArray.data_extract, Array.toList_extract]
theorem extract_mk (s : ByteArray) (a b : Nat) : s.extract a b = mkBA ((s.data.toList.drop a).take (b - a)) := ba_ext (by rw [extract_L]; rfl)
attribute [local irreducible] WC WL WX POp Then Again Fn NX W1 WA WO QL RP RA Yld LoopAt HC HL HX HN H1 HA HO HQ HB HP A.blk A.grow A.rd A.obj A.mp AgainH CutH
attribute [local irreducible] unz
set_option maxHeartbeats 2000000 in
theorem string_fn (s : ByteArray) (p : Nat) (hp : p ≤ s.size) (hs : s.size ≤ 5000000) (w : World) : Fn Tryz.prog 196 #[.string s, zv (p : Int)] w fun v w' => v = strV (decS s.data.toList p) ∧ w = w' := by
  have hlen : s.data.toList.length = s.size := by rw [Array.length_toList]; rfl
  have hint := int_fn s p hp hs w
  refine enter (l := [_, _]) rfl Tryz.ntmps196 rfl ?_
  unfold decS
  cases hd : decI s.data.toList p with
  | none =>
    rw [hd] at hint
    repeat' (first | apply WL.fold | apply WA.fold | apply WL.nil | apply WX.n_then | apply WC.seq | apply WC.region | refine WL.pa ?_ | refine WL.ga rfl ?_ | refine WL.na rfl ?_ | refine WL.nu rfl rfl ?_ | apply WC.block | apply WC.skip | apply WC.exit | apply WC.ret | apply WX.e_block | refine WX.e_other rfl ?_ | apply WX.e_then | apply WX.e_again | apply WX.n_block | apply WX.r_then | apply WX.r_block | apply WX.r_again | refine WC.cond_yes rfl ?_ | refine WC.cond_no rfl ?_ | refine WC.cond rfl (fun hc => ?_) (fun hc => ?_) | refine WC.cond_b rfl (fun hc => ?_) (fun hc => ?_))
    refine WL.call rfl rfl hint ?_
    rintro v w' ⟨rfl, rfl⟩
    unfold intV
    repeat' (first | apply WL.fold | apply WA.fold | apply WL.nil | apply WX.n_then | apply WC.seq | apply WC.region | refine WL.pa ?_ | refine WL.ga rfl ?_ | refine WL.na rfl ?_ | refine WL.nu rfl rfl ?_ | apply WC.block | apply WC.skip | apply WC.exit | apply WC.ret | apply WX.e_block | refine WX.e_other rfl ?_ | apply WX.e_then | apply WX.e_again | apply WX.n_block | apply WX.r_then | apply WX.r_block | apply WX.r_again | refine WC.cond_yes rfl ?_ | refine WC.cond_no rfl ?_ | refine WC.cond rfl (fun hc => ?_) (fun hc => ?_) | refine WC.cond_b rfl (fun hc => ?_) (fun hc => ?_))
    exact WX.ret3 (P := Tryz.prog) rfl rfl rfl rfl ⟨rfl, rfl⟩
  | some x =>
    obtain ⟨z, q⟩ := x
    rw [hd] at hint
    have hq := decG_le 9 0 0 (by omega) hd
    simp only at hq
    rw [hlen] at hq ⊢
    dsimp only
    repeat' (first | apply WL.fold | apply WA.fold | apply WL.nil | apply WX.n_then | apply WC.seq | apply WC.region | refine WL.pa ?_ | refine WL.ga rfl ?_ | refine WL.na rfl ?_ | refine WL.nu rfl rfl ?_ | apply WC.block | apply WC.skip | apply WC.exit | apply WC.ret | apply WX.e_block | refine WX.e_other rfl ?_ | apply WX.e_then | apply WX.e_again | apply WX.n_block | apply WX.r_then | apply WX.r_block | apply WX.r_again | refine WC.cond_yes rfl ?_ | refine WC.cond_no rfl ?_ | refine WC.cond rfl (fun hc => ?_) (fun hc => ?_) | refine WC.cond_b rfl (fun hc => ?_) (fun hc => ?_))
    refine WL.call rfl rfl hint ?_
    rintro v w' ⟨rfl, rfl⟩
    unfold intV
    obtain ⟨u, hu⟩ : ∃ u, u = unz z := ⟨_, rfl⟩
    rw [← hu]
    by_cases h1 : u < 0
    · rw [if_pos (.inl h1)]
      repeat' (first | apply WL.fold | apply WA.fold | apply WL.nil | apply WX.n_then | apply WC.seq | apply WC.region | refine WL.pa ?_ | refine WL.ga rfl ?_ | refine WL.na rfl ?_ | refine WL.nu rfl rfl ?_ | apply WC.block | apply WC.skip | apply WC.exit | apply WC.ret | apply WX.e_block | refine WX.e_other rfl ?_ | apply WX.e_then | apply WX.e_again | apply WX.n_block | apply WX.r_then | apply WX.r_block | apply WX.r_again | refine WC.cond_yes rfl ?_ | refine WC.cond_no rfl ?_ | refine WC.cond rfl (fun hc => ?_) (fun hc => ?_) | refine WC.cond_b rfl (fun hc => ?_) (fun hc => ?_))
      exact WX.ret3 (P := Tryz.prog) rfl rfl rfl rfl ⟨rfl, rfl⟩
    · by_cases h2 : u > 65536
      · rw [if_pos (.inr (.inl h2))]
        repeat' (first | apply WL.fold | apply WA.fold | apply WL.nil | apply WX.n_then | apply WC.seq | apply WC.region | refine WL.pa ?_ | refine WL.ga rfl ?_ | refine WL.na rfl ?_ | refine WL.nu rfl rfl ?_ | apply WC.block | apply WC.skip | apply WC.exit | apply WC.ret | apply WX.e_block | refine WX.e_other rfl ?_ | apply WX.e_then | apply WX.e_again | apply WX.n_block | apply WX.r_then | apply WX.r_block | apply WX.r_again | refine WC.cond_yes rfl ?_ | refine WC.cond_no rfl ?_ | refine WC.cond rfl (fun hc => ?_) (fun hc => ?_) | refine WC.cond_b rfl (fun hc => ?_) (fun hc => ?_))
        exact WX.ret3 (P := Tryz.prog) rfl rfl rfl rfl ⟨rfl, rfl⟩
      · by_cases h3 : u > (s.size : Int) - (q : Int)
        · rw [if_pos (.inr (.inr h3))]
          repeat' (first | apply WL.fold | apply WA.fold | apply WL.nil | apply WX.n_then | apply WC.seq | apply WC.region | refine WL.pa ?_ | refine WL.ga rfl ?_ | refine WL.na rfl ?_ | refine WL.nu rfl rfl ?_ | apply WC.block | apply WC.skip | apply WC.exit | apply WC.ret | apply WX.e_block | refine WX.e_other rfl ?_ | apply WX.e_then | apply WX.e_again | apply WX.n_block | apply WX.r_then | apply WX.r_block | apply WX.r_again | refine WC.cond_yes rfl ?_ | refine WC.cond_no rfl ?_ | refine WC.cond rfl (fun hc => ?_) (fun hc => ?_) | refine WC.cond_b rfl (fun hc => ?_) (fun hc => ?_))
          exact WX.ret3 (P := Tryz.prog) rfl rfl rfl rfl ⟨rfl, rfl⟩
        · rw [if_neg (by omega)]
          obtain ⟨n, rfl⟩ := Int.eq_ofNat_of_zero_le (show 0 ≤ u by omega)
          have e1 : ((q : Int) + (n : Int)).toNat = q + n := by omega
          have e2 := extract_mk s q (q + n)
          rw [show q + n - q = n from by omega] at e2
          repeat' (first | apply WL.fold | apply WA.fold | apply WL.nil | apply WX.n_then | apply WC.seq | apply WC.region | refine WL.pa ?_ | refine WL.ga rfl ?_ | refine WL.na rfl ?_ | refine WL.nu rfl rfl ?_ | apply WC.block | apply WC.skip | apply WC.exit | apply WC.ret | apply WX.e_block | refine WX.e_other rfl ?_ | apply WX.e_then | apply WX.e_again | apply WX.n_block | apply WX.r_then | apply WX.r_block | apply WX.r_again | refine WC.cond_yes rfl ?_ | refine WC.cond_no rfl ?_ | refine WC.cond rfl (fun hc => ?_) (fun hc => ?_) | refine WC.cond_b rfl (fun hc => ?_) (fun hc => ?_))
          refine WX.ret3 (P := Tryz.prog) rfl rfl rfl rfl ⟨?_, rfl⟩
          rw [← hu, e1, Int.toNat_natCast, Int.toNat_natCast, e2]
          rfl
end Go.Sx
/-
  Regions whose order is open: loads of cells that stay as they are until an operation of the region that comes behind them.
-/
namespace Go.Sx
open Go
/-- Every order; C holds wherever one stands. -/
def AnyU (C : Array Bool → World → Prop) (P : Program) (ops : Array Oper) (Q : Post) : Nat → Array Bool → Act → World → Prop
  | 0, listed, a, w => C listed w ∧ Region.ready .any ops listed = [] ∧ Q .normal a w
  | fuel + 1, listed, a, w => C listed w ∧ (Region.ready .any ops listed = [] → Q .normal a w) ∧ ∀ i ∈ Region.ready .any ops listed, wpOpIn (FW none) 0 P ops Q i (AnyU C P ops Q fuel (listed.setIfInBounds i true)) a w
section
variable {C : Array Bool → World → Prop} {P : Program} {ops : Array Oper} {Q : Post}
theorem AnyU.is : ∀ {fuel : Nat} {listed : Array Bool} {a : Act} {w : World}, AnyU C P ops Q fuel listed a w → C listed w
  | 0, _, _, _, h => h.1
  | _ + 1, _, _, _, h => h.1
theorem anyU_in : ∀ (fuel : Nat) (listed : Array Bool) (a : Act) (w : World), AnyU C P ops Q fuel listed a w → wpAnyIn (FW none) 0 P .any ops Q fuel listed a w := by
  intro fuel
  induction fuel with
  | zero => intro listed a w h; exact h.2
  | succ fuel ih => intro listed a w h; exact ⟨h.2.1, fun j hj => wpOpIn_mono (fun a' w' h3 => ih _ a' w' h3) (h.2.2 j hj)⟩
/-- An operation that may go first: Y says what makes it yield its value, G what has not been performed yet. -/
theorem anyU_first {i : Nat} {oi : Oper} {v : Value} (Y : Act → Prop) (G : Array Bool → Prop) (hdn : ∀ listed w, C (listed.setIfInBounds i true) w → C listed w)
    (hG : ∀ listed j, G listed → i ∈ Region.ready .any ops listed → j ∈ Region.ready .any ops listed → j ≠ i → G (listed.setIfInBounds j true))
    (now : ∀ {K : Act → World → Prop} {a : Act} {w : World} {listed : Array Bool}, Y a → G listed → C listed w → K (a.put oi.dst v) w → wpOpIn (FW none) 0 P ops Q i K a w)
    (step : ∀ {j : Nat} {oj : Oper} {K : Act → World → Prop} {a : Act} {w : World}, ops[j]? = some oj → oi.apart ops oj = true → Y a → wpOpIn (FW none) 0 P ops Q j K (a.put oi.dst v) w → wpOpIn (FW none) 0 P ops Q j (fun a' w' => Y a' ∧ K (a'.put oi.dst v) w') a w) :
    ∀ (fuel : Nat) (listed : Array Bool) (a : Act) (w : World), (∀ (j : Nat) (oj : Oper), ops[j]? = some oj → j ≠ i → listed.getD j true = false → (∀ e ∈ oj.after, Region.binds .any e = true → e.on ≠ i) → oi.apart ops oj = true) →
      i ∈ Region.ready .any ops listed → Y a → G listed → AnyU C P ops Q fuel (listed.setIfInBounds i true) (a.put oi.dst v) w → AnyU C P ops Q (fuel + 1) listed a w := by
  intro fuel
  induction fuel with
  | zero =>
    intro listed a w _ hr hy hg h
    refine ⟨hdn _ _ h.is, fun e => (by rw [e] at hr; cases hr), fun j hj => ?_⟩
    by_cases hji : j = i
    · subst hji; exact now hy hg (hdn _ _ h.is) h
    · have h1 := ready_mono hj hji
      rw [h.2.1] at h1; cases h1
  | succ fuel ih =>
    intro listed a w hf hr hy hg h
    refine ⟨hdn _ _ h.is, fun e => (by rw [e] at hr; cases hr), fun j hj => ?_⟩
    by_cases hji : j = i
    · subst hji; exact now hy hg (hdn _ _ h.is) h
    · obtain ⟨hun, oj, hoj, hall⟩ := mem_ready.1 hj
      have hno : ∀ e ∈ oj.after, Region.binds .any e = true → e.on ≠ i := by
        intro e he hb e1
        have h1 := hall e he hb
        have h0 := (mem_ready.1 hr).1
        rw [e1] at h1
        rw [Array.getD_eq_getD_getElem?] at h0 h1
        cases hl : listed[i]? with
        | none => rw [hl] at h1; cases h1
        | some b => rw [hl] at h0 h1; simp only [Option.getD_some] at h0 h1; rw [h0] at h1; cases h1
      refine wpOpIn_mono (fun a' w' h3 => ?_) (step hoj (hf j oj hoj hji hun hno) hy (h.2.2 j (ready_mono hj hji)))
      refine ih (listed.setIfInBounds j true) a' w' (fun k ok hok hki hku hkn => ?_) (ready_mono hr (Ne.symm hji)) h3.1 (hG listed j hg hr hj hji) ?_
      · by_cases e : j = k
        · subst e; exact hf j ok hok hji hun hkn
        · rw [getD_set_ne true e] at hku; exact hf k ok hok hki hku hkn
      · rw [Array.setIfInBounds_comm _ _ hji]; exact h3.2
end
/-- Cells that stay as they are until an operation. -/
def CellsU (l : List (Nat × Addr × Value)) (listed : Array Bool) (w : World) : Prop := ∀ p ∈ l, listed.getD p.1 true = false → w.cell? p.2.1 = some p.2.2
def notU (l : List (Nat × Addr × Value)) (i : Nat) : Bool := l.all fun p => !Nat.beq p.1 i
/-- An operation comes behind another one. -/
def behindB (ol : List Oper) (s i : Nat) : Bool := match ol[s]? with
  | some o => o.after.toList.any fun e => Region.binds .any e && Nat.beq e.on i
  | none => false
theorem cellsU_dn {l : List (Nat × Addr × Value)} {i : Nat} (h : notU l i = true) (listed : Array Bool) (w : World) (hC : CellsU l (listed.setIfInBounds i true) w) : CellsU l listed w := fun p hp hl => by
  have h1 := List.all_eq_true.1 h p hp
  have h2 : ¬ i = p.1 := fun e => by
    subst e
    simp [Nat.beq_refl] at h1
  exact hC p hp (by rw [getD_set_ne true h2]; exact hl)
theorem unlisted_behind {ol : List Oper} {s i : Nat} (hb : behindB ol s i = true) {listed : Array Bool} {j : Nat} (hs : listed.getD s true = false) (hi : i ∈ Region.ready .any ol.toArray listed) (hj : j ∈ Region.ready .any ol.toArray listed) : (listed.setIfInBounds j true).getD s true = false := by
  have hne : ¬ j = s := fun e => by
    subst e
    obtain ⟨-, oj, hoj, hall⟩ := mem_ready.1 hj
    have hoj' : ol[j]? = some oj := by simpa using hoj
    unfold behindB at hb
    rw [hoj'] at hb
    obtain ⟨e, he, h2⟩ := List.any_eq_true.1 hb
    rw [Bool.and_eq_true] at h2
    have h3 := hall e (by simpa using he) h2.1
    have h4 : e.on = i := Nat.eq_of_beq_eq_true h2.2
    have h0 := (mem_ready.1 hi).1
    rw [h4] at h3
    rw [Array.getD_eq_getD_getElem?] at h0 h3
    cases hl : listed[i]? with
    | none => rw [hl] at h3; cases h3
    | some b => rw [hl] at h0 h3; simp only [Option.getD_some] at h0 h3; rw [h0] at h3; cases h3
  rw [getD_set_ne true hne]; exact hs
def HU (l : List (Nat × Addr × Value)) (P : Program) (N : Nat) (ds : List Deferred) (ol : List Oper) (fuel : Nat) (listed : Array Bool) (Q : Post) (E : Env) (w0 : World) (H : List Atom) : Prop :=
  ∀ w, Mm w0 H w → ∀ a, Rep N ds E a → AnyU (CellsU l) P ol.toArray Q fuel listed a w
def HV (l : List (Nat × Addr × Value)) (P : Program) (N : Nat) (ds : List Deferred) (ol : List Oper) (fuel : Nat) (listed : Array Bool) (i : Nat) (o : Oper) (Q : Post) (E : Env) (w0 : World) (H : List Atom) : Prop :=
  ∀ w, Mm w0 H w → ∀ a, Rep N ds E a → if Region.wanted o (yielded ol.toArray a.tmps) then o.wpIn (FW none) 0 P a w (AnyU (CellsU l) P ol.toArray Q fuel (listed.setIfInBounds i true)) Q
    else AnyU (CellsU l) P ol.toArray Q fuel (listed.setIfInBounds i true) (a.put o.dst undef) w
def AllU (l : List (Nat × Addr × Value)) (P : Program) (N : Nat) (ds : List Deferred) (ol : List Oper) (fuel : Nat) (listed : Array Bool) (Q : Post) (E : Env) (w0 : World) (H : List Atom) : List Nat → Prop
  | [] => True
  | i :: rs => (∃ o, ol[i]? = some o ∧ HV l P N ds ol fuel listed i o Q E w0 H) ∧ AllU l P N ds ol fuel listed Q E w0 H rs
/-- The cells are as they were, as far as their operation is still to come. -/
def KeepU (l : List (Nat × Addr × Value)) (listed : Array Bool) (w0 : World) (H : List Atom) : Prop := ∀ w, Mm w0 H w → CellsU l listed w
section
variable {l : List (Nat × Addr × Value)} {w0 : World} {H : List Atom} {listed : Array Bool}
theorem KeepU.nil : KeepU [] listed w0 H := fun _ _ _ h => by cases h
theorem KeepU.cons {s : Nat} {ad : Addr} {v : Value} (h1 : ∀ w, Mm w0 H w → w.cell? ad = some v) (h : KeepU l listed w0 H) : KeepU ((s, ad, v) :: l) listed w0 H := fun w hM p hp hl => by
  rcases List.mem_cons.1 hp with rfl | hp
  · exact h1 w hM
  · exact h w hM p hp hl
theorem KeepU.skip {s : Nat} {ad : Addr} {v : Value} (h1 : listed.getD s true = true) (h : KeepU l listed w0 H) : KeepU ((s, ad, v) :: l) listed w0 H := fun w hM p hp hl => by
  rcases List.mem_cons.1 hp with rfl | hp
  · rw [h1] at hl; cases hl
  · exact h w hM p hp hl
theorem KeepU.blk {s b i : Nat} {v : Value} {cs : List Value} {e : TypeId} (hm : A.blk b cs e ∈ H) (hi : cs[i]? = some v) (h : KeepU l listed w0 H) : KeepU ((s, ⟨b, i, none⟩, v) :: l) listed w0 H := h.cons fun _ hM => (hM.blk hm).cell hi
variable {P : Program} {r : Option Nat} {N : Nat} {ds : List Deferred} {ol : List Oper} {Q : Post} {E : Env} {fuel : Nat} {ty : TypeId} {pos : String} {af : Array Edge}
theorem HC.anyU [hm : Mixed P] {id : Nat} {ol : List Oper} (l : List (Nat × Addr × Value)) (hf : ol.length = fuel) (h : HU l P N ds ol fuel (Array.replicate ol.length false) Q E w0 H) : HC P none N ds (.region id ol.toArray true) Q E w0 H :=
  HC.any hf fun w hM a ha => anyU_in _ _ _ _ (h w hM a ha)
theorem HU.pa [hq : QPanic Q] {d : Nat} {op : Op} {v : Value} (i : Nat) (ho : ol[i]? = some ⟨some d, op, ty, pos, af, none⟩) (h : HU l P N ds ol fuel (listed.setIfInBounds i true) Q ((d, v) :: E) w0 H)
    (hp : POp P N ds E op ty v := by
      first
        | (apply POp.move; rfl)
        | (apply POp.assign; rfl)
        | (apply POp.extract; rfl; rfl)
        | (apply POp.len_slice; rfl)
        | (apply POp.len_string; rfl)
        | (apply POp.lss; rfl; rfl)
        | (apply POp.leq; rfl; rfl)
        | (apply POp.gtr; rfl; rfl)
        | (apply POp.geq; rfl; rfl)
        | (apply POp.eql; rfl; rfl)
        | (apply POp.neq; rfl; rfl)
        | (apply POp.not_d; rfl)
        | (apply POp.not_b; rfl)
        | (apply POp.add; rfl; rfl; omega; omega)
        | (apply POp.sub; rfl; rfl; omega; omega)
        | (apply POp.xor; rfl; rfl; (first | with_reducible exact cst _ | with_reducible exact lit _ | exact rfl); (first | with_reducible exact cst _ | with_reducible exact lit _ | exact rfl); (first | omega | assumption | decide | (refine Nat.lt_of_le_of_lt (Nat.shiftRight_le _ _) ?_; omega) | (refine Nat.lt_of_le_of_lt Nat.and_le_right ?_; omega) | (refine Nat.lt_of_le_of_lt Nat.and_le_left ?_; omega) | (refine Nat.xor_lt_two_pow (n := 63) ?_ ?_ <;> omega)); (first | omega | assumption | decide | (refine Nat.lt_of_le_of_lt (Nat.shiftRight_le _ _) ?_; omega) | (refine Nat.lt_of_le_of_lt Nat.and_le_right ?_; omega) | (refine Nat.lt_of_le_of_lt Nat.and_le_left ?_; omega) | (refine Nat.xor_lt_two_pow (n := 63) ?_ ?_ <;> omega)))
        | (apply POp.xor8; rfl; rfl; (first | with_reducible exact cst _ | with_reducible exact lit _ | exact rfl); (first | with_reducible exact cst _ | with_reducible exact lit _ | exact rfl); (first | omega | assumption); (first | omega | assumption))
        | (apply POp.and; rfl; rfl; (first | with_reducible exact cst _ | with_reducible exact lit _ | exact rfl); (first | with_reducible exact cst _ | with_reducible exact lit _ | exact rfl); (first | omega | assumption | decide | (refine Nat.lt_of_le_of_lt (Nat.shiftRight_le _ _) ?_; omega) | (refine Nat.lt_of_le_of_lt Nat.and_le_right ?_; omega) | (refine Nat.lt_of_le_of_lt Nat.and_le_left ?_; omega) | (refine Nat.xor_lt_two_pow (n := 63) ?_ ?_ <;> omega)); (first | omega | assumption | decide | (refine Nat.lt_of_le_of_lt (Nat.shiftRight_le _ _) ?_; omega) | (refine Nat.lt_of_le_of_lt Nat.and_le_right ?_; omega) | (refine Nat.lt_of_le_of_lt Nat.and_le_left ?_; omega) | (refine Nat.xor_lt_two_pow (n := 63) ?_ ?_ <;> omega)))
        | (apply POp.or; rfl; rfl; (first | with_reducible exact cst _ | with_reducible exact lit _ | exact rfl); (first | with_reducible exact cst _ | with_reducible exact lit _ | exact rfl); (first | omega | assumption | decide | (refine Nat.lt_of_le_of_lt (Nat.shiftRight_le _ _) ?_; omega) | (refine Nat.lt_of_le_of_lt Nat.and_le_right ?_; omega) | (refine Nat.lt_of_le_of_lt Nat.and_le_left ?_; omega) | (refine Nat.xor_lt_two_pow (n := 63) ?_ ?_ <;> omega)); (first | omega | assumption | decide | (refine Nat.lt_of_le_of_lt (Nat.shiftRight_le _ _) ?_; omega) | (refine Nat.lt_of_le_of_lt Nat.and_le_right ?_; omega) | (refine Nat.lt_of_le_of_lt Nat.and_le_left ?_; omega) | (refine Nat.xor_lt_two_pow (n := 63) ?_ ?_ <;> omega)))
        | (apply POp.shr; rfl; rfl; (first | with_reducible exact cst _ | with_reducible exact lit _ | exact rfl); (first | with_reducible exact cst _ | with_reducible exact lit _ | exact rfl); omega)
        | (apply POp.shl; rfl; rfl; (first | with_reducible exact cst _ | with_reducible exact lit _ | exact rfl); (first | with_reducible exact cst _ | with_reducible exact lit _ | exact rfl); omega; (first | omega | assumption | decide | (refine Nat.lt_of_le_of_lt (Nat.shiftRight_le _ _) ?_; omega) | (refine Nat.lt_of_le_of_lt Nat.and_le_right ?_; omega) | (refine Nat.lt_of_le_of_lt Nat.and_le_left ?_; omega) | (refine Nat.xor_lt_two_pow (n := 63) ?_ ?_ <;> omega)))
        | (apply POp.quo; rfl; rfl; omega; omega; omega)
        | (apply POp.rem; rfl; rfl; omega; omega)
        | (apply POp.min_int; rfl; rfl)
        | (apply POp.max_int; rfl; rfl)
        | (apply POp.conv_i64; rfl; omega; omega)
        | (apply POp.index_slice; rfl; rfl; omega; omega; (first | (simp only [Nat.zero_add, Nat.add_zero, Nat.mul_one, Int.toNat_natCast, Int.reduceToNat, Nat.reduceMul, Nat.reduceAdd]; done) | (simp only [Nat.zero_add, Nat.add_zero, Nat.mul_one, Int.toNat_natCast, Int.reduceToNat, Nat.reduceMul, Nat.reduceAdd]; rfl) | rfl))
        | (apply POp.index_array; rfl; rfl; omega; omega; (first | (simp only [Nat.zero_add, Nat.add_zero, Nat.mul_one, Int.toNat_natCast, Int.reduceToNat, Nat.reduceMul, Nat.reduceAdd]; done) | (simp only [Nat.zero_add, Nat.add_zero, Nat.mul_one, Int.toNat_natCast, Int.reduceToNat, Nat.reduceMul, Nat.reduceAdd]; rfl) | rfl))
        | (apply POp.makeFunc; rfl; rfl)
        | (apply POp.index_string; rfl; rfl; (first | with_reducible exact cst _ | with_reducible exact lit _ | exact rfl); omega)
        | (apply POp.sub_lh; rfl; rfl; rfl; omega; omega; omega)
        | (apply POp.sub_h; rfl; rfl; omega; omega)
        | (apply POp.sub_l; rfl; rfl; omega; omega)
        | (apply POp.seql; rfl; rfl)
        | (apply POp.sneq; rfl; rfl)
        | (apply POp.conv_u8; rfl; omega; omega)
        | (apply POp.mul; rfl; rfl; omega; omega)
        | (refine POp.pick_t rfl ?_ rfl; (first | with_reducible rfl | assumption | (simp only [Bool.not_true, Bool.not_false]; done) | (simp only [decide_eq_true_eq, decide_eq_false_iff_not, Bool.not_true, Bool.not_false, not_true_eq_false, not_false_eq_true, reduceCtorEq]; first | done | assumption | omega)))
        | (refine POp.pick_f rfl ?_ rfl; (first | with_reducible rfl | assumption | (simp only [Bool.not_true, Bool.not_false]; done) | (simp only [decide_eq_true_eq, decide_eq_false_iff_not, Bool.not_true, Bool.not_false, not_true_eq_false, not_false_eq_true, reduceCtorEq]; first | done | assumption | omega)))
        | (apply POp.neg; rfl; omega; omega)
        | (apply POp.cat; rfl; rfl; omega)
        | (apply POp.beql; rfl; rfl)
        | (apply POp.bneq; rfl; rfl)
        | (apply POp.field; rfl; rfl)
        | (refine POp.fieldAddr rfl rfl)
        | (apply POp.cut_h; rfl; rfl; omega; omega)
        | (apply POp.xor32; rfl; rfl)
        | (apply POp.and32; rfl; rfl)
        | (apply POp.or32; rfl; rfl)
        | (apply POp.add32; rfl; rfl)
        | (apply POp.not32; rfl)
        | (apply POp.shl32; rfl; rfl; (first | with_reducible exact cst _ | with_reducible exact lit _ | exact rfl); omega)
        | (apply POp.shr32; rfl; rfl; (first | with_reducible exact cst _ | with_reducible exact lit _ | exact rfl); omega)
        | (apply POp.conv832; rfl)
        | (apply POp.conv328; rfl)
        | (apply POp.conv648; rfl))
    (hs : (Region.noSelect ol.toArray && Region.free .any ol.toArray listed i && (Region.ready .any ol.toArray listed).contains i) = true := by kernel_rfl)
    (hn : notU l i = true := by exact rfl)
    (hi : callsB op = false := by exact rfl)
    (hd : Nat.blt d N = true := by exact rfl) : HU l P N ds ol (fuel + 1) listed Q E w0 H := fun w hM a ha => by
  simp only [Bool.and_eq_true] at hs
  have ho' : ol.toArray[i]? = some ⟨some d, op, ty, pos, af, none⟩ := by simpa using ho
  have hyf : YieldsFenced P ol.toArray ⟨some d, op, ty, pos, af, none⟩ v a := ⟨.inl ⟨rfl, fun w => hp a ha _ _ _ _ _⟩, fun w => by
    unfold Oper.about
    cases op with
    | call c =>
      obtain ⟨cal, args, ats⟩ := c
      cases cal with
      | builtin b => simp [resolve, Target.leads]
      | value f => cases hi
      | invoke f m => cases hi
    | _ => rfl⟩
  exact anyU_first (YieldsFenced P ol.toArray ⟨some d, op, ty, pos, af, none⟩ v) (fun _ => True) (cellsU_dn hn) (fun _ _ _ _ _ _ => trivial) (fun hy _ _ hk => hy.wpOpIn rfl ho' hk)
    (fun hj hap hy h => wpOpIn_put rfl hj hap (fun cs b => Region.noSelect_spec hs.1.1 i _ cs b ho') (fun cs b => Region.noSelect_spec hs.1.1 _ _ cs b hj) (fun c a w => hq.is c a _ _ w) hy h) fuel listed a w
    (Region.free_spec ho' hs.1.2) (by simpa using hs.2) hyf trivial (h w hM _ (ha.put hd v))
/-- A load of a cell that stays as it is until an operation that comes behind it. -/
theorem HU.ld [hq : QPanic Q] {d s : Nat} {t : TypeId} {x : Operand} {ad : Addr} {v : Value} [hat : ATy P t false] (i : Nat) (ho : ol[i]? = some ⟨some d, .load t x, ty, pos, af, none⟩) (hx : Env.ev E x = some (.pointer (some ad))) (hc : (s, ad, v) ∈ l)
    (h : HU l P N ds ol fuel (listed.setIfInBounds i true) Q ((d, v) :: E) w0 H)
    (hb : (behindB ol s i && !listed.getD s true) = true := by kernel_rfl)
    (hne : (match x with | .tmp t => !(Nat.beq t d) | _ => true) = true := by exact rfl)
    (hs : (Region.noSelect ol.toArray && Region.free .any ol.toArray listed i && (Region.ready .any ol.toArray listed).contains i) = true := by kernel_rfl)
    (hn : notU l i = true := by exact rfl)
    (hd : Nat.blt d N = true := by exact rfl) : HU l P N ds ol (fuel + 1) listed Q E w0 H := fun w hM a ha => by
  simp only [Bool.and_eq_true] at hs
  rw [Bool.and_eq_true] at hb
  have ho' : ol.toArray[i]? = some ⟨some d, .load t x, ty, pos, af, none⟩ := by simpa using ho
  have hxd : ∀ d', (some d : Option Nat) = some d' → x ≠ .tmp d' := fun d' hd' e => by cases hd'; subst e; simp at hne
  refine anyU_first (oi := ⟨some d, .load t x, ty, pos, af, none⟩) (fun a' => a'.eval x = a.eval x) (fun listed => listed.getD s true = false) (cellsU_dn hn) (fun listed j hg hi hj hji => unlisted_behind hb.1 hg hi hj) (fun {K a' w' listed'} hy hg hC hk => ?_)
    (fun {j oj K a' w'} hj hap hy h => wpOpIn_mono (fun a'' w'' h3 => ⟨h3.1.trans hy, h3.2⟩) (op_swap rfl rfl hxd hj hap (fun cs b => Region.noSelect_spec hs.1.1 _ _ cs b hj) (fun c a w => hq.is c a _ _ w) h)) fuel listed a w
    (Region.free_spec ho' hs.1.2) (by simpa using hs.2) rfl (by simpa using hb.2) (h w hM _ (ha.put hd v))
  unfold wpOpIn
  rw [ho']
  dsimp only
  rw [if_pos (by simp [Region.wanted])]
  refine ⟨fun _ _ => trivial, ?_⟩
  have h1 : a'.eval x = .pointer (some ad) := hy.trans (ha.ev hx)
  have h2 := hC _ hc hg
  have hrun : (execOp a'.eval ⟨some d, .load t x, ty, pos, af, none⟩).run P w' = .ok (.value v) w' := by
    simp only [execOp, h1, Instr.loadAt, Instr.sureAddr, loadVar, Sem.run_bind, Sem.run_pure]
    simp [run_isAgg, h2]
  rw [semAt_of rfl, hrun]
  exact hk
theorem HU.done (hk : KeepU l listed w0 H) (hr : Region.ready .any ol.toArray listed = []) (h : HX N ds .normal Q E w0 H) : HU l P N ds ol fuel listed Q E w0 H := fun w hM a ha => by
  cases fuel with
  | zero => exact ⟨hk w hM, hr, h w hM a ha⟩
  | succ fuel => exact ⟨hk w hM, fun _ => h w hM a ha, fun i hi => by rw [hr] at hi; cases hi⟩
theorem HU.all (hk : KeepU l listed w0 H) (rs : List Nat) (hr : Region.ready .any ol.toArray listed = rs) (hne : rs.isEmpty = false) (h : AllU l P N ds ol fuel listed Q E w0 H rs) : HU l P N ds ol (fuel + 1) listed Q E w0 H := fun w hM a ha => by
  refine ⟨hk w hM, fun e => (by rw [hr] at e; subst e; cases hne), ?_⟩
  rw [hr]
  clear hr hne
  induction rs with
  | nil => intro i hi; cases hi
  | cons i rs ih =>
    intro j hj
    rcases List.mem_cons.1 hj with rfl | hj
    · obtain ⟨o, ho, h1⟩ := h.1
      have ho' : ol.toArray[j]? = some o := by simpa using ho
      unfold wpOpIn
      rw [ho']
      have h2 := h1 w hM a ha
      dsimp only
      split
      · rename_i hw; rw [if_pos hw] at h2; exact h2
      · rename_i hw; rw [if_neg hw] at h2; exact ⟨fun _ _ => trivial, h2⟩
    · exact ih h.2 j hj
theorem HU.fold (h : HU l P N ds ol fuel listed Q E w0 H) : HN N ds (AnyU (CellsU l) P ol.toArray Q fuel listed) E w0 H := fun w hM a ha => h w hM a ha
theorem HV.one {op : Op} {d : Option Nat} {i : Nat} (h : H1 P none N ds (AnyU (CellsU l) P ol.toArray Q fuel (listed.setIfInBounds i true)) ⟨d, op, ty, pos, af, none⟩ Q E w0 H) : HV l P N ds ol fuel listed i ⟨d, op, ty, pos, af, none⟩ Q E w0 H := fun w hM a ha => by
  simp only [Region.wanted, if_true]
  exact h w hM a ha
end
end Go.Sx
/- abstraction.read at the fixed example: the walks. -/
namespace Go.Sx
open Go Go.Proofs Go.RowKit
theorem hwF7 {G G2 : Prop} (x : G2) (hwq : Hold G2 → G := by
    intro hQq
    repeat' (first | refine HL.pa ?_ (POp.seqN rfl rfl (by assumption)) | refine HL.pa ?_ (POp.nilCheck rfl) | apply HL.fold | apply HA.fold | apply HL.nil | apply HX.n_then | apply HC.seq | apply HC.region | refine HL.pa ?_ | refine HL.ga rfl ?_ | refine HL.na rfl ?_ | refine HL.nu rfl rfl ?_ | apply HC.block | apply HC.skip | apply HC.exit | apply HC.ret | apply HX.e_block | refine HX.e_other rfl ?_ | apply HX.e_then | apply HX.e_again | apply HX.n_block | apply HX.r_then | apply HX.r_block | apply HX.r_again | refine HC.cond_yes rfl ?_ | refine HC.cond_no rfl ?_ | refine HL.one (H1.ldb rfl memA rfl rfl ?_) | refine HC.cond rfl (fun hc => ?_) (fun hc => ?_) | refine HC.cond_b rfl (fun hc => ?_) (fun hc => ?_))
    exact hQq.get) : G := hwq ⟨x⟩
theorem POp.seqN {P : Program} {N : Nat} {ds : List Deferred} {E : Env} {x y : Operand} {t t' ty : TypeId} {s u : ByteArray} [UTy P t .string] (hx : Env.ev E x = some (.string s)) (hy : Env.ev E y = some (.string u)) (h : ¬ s = u) : POp P N ds E (.binOp .eql t x y t') ty (.bool false) := by
  rw [← decide_eq_false h]
  exact POp.seql hx hy
theorem awithin_w (n lo hi : Int) (w : World) : Calls Tryz.prog 131 #[zv n, zv lo, zv hi] w fun e w' => e = .returned (.bool (decide (lo ≤ n) && decide (n ≤ hi))) ∧ w' = w := by
  by_cases h1 : lo ≤ n <;> by_cases h2 : n ≤ hi
  all_goals
    go_enter Tryz.func131, Tryz.ntmps131
    go_wp2
    all_goals first | (exfalso; omega) | (go_ret; exact ⟨by simp [h1, h2], rfl⟩)
def notLine (r : Nat) : Bool := !decide (32 ≤ wrap64 (r : Int)) || !decide (wrap64 (r : Int) ≤ 126)
theorem isLine_at (w : World) : PredAt Tryz.prog 205 #[] Go.Proofs.encR notLine w := fun W r _ => by
  have cI := fun n w => awithin_w n 32 126 w
  have e96 : ∀ args w, (callFunc 131 args).run Tryz.prog w = .ok (.enter 131 args) w := enters_of Tryz.func131 (by kernel_rfl) rfl
  unfold FnGives
  go_enter Tryz.func205, Tryz.ntmps205
  go_wp2_with (go_at_fn 131; refine (cI _ _).mono ?_; rintro e w' ⟨rfl, rfl⟩)
  go_ret
  exact ⟨rfl, 0, rfl⟩
theorem rLine_fn (s : ByteArray) (hs : Lib.idxFunc notLine true s = -1) (w : World) : Fn Tryz.prog 204 #[.string s, .func (.func 205) #[] #[]] w fun u w' => u = .bool false ∧ Ext w w' := by
  have h : Calls Tryz.prog 204 #[.string s, .func (.func 205) #[] #[]] w _ := Any.strings_ContainsFunc Tryz.conP 205 #[] (enters_of Tryz.func205 (by kernel_rfl) rfl) notLine s w (isLine_at w)
  unfold Fn
  refine Calls.mono h ?_
  rintro e w' ⟨h1, h2⟩
  exact ⟨_, h1, by rw [hs]; rfl, h2⟩
attribute [local irreducible] WC WL WX POp Then Again Fn NX W1 WA WO QL RP RA Yld LoopAt HC HL HX HN H1 HA HO HQ HB HP A.blk A.grow A.rd A.obj A.mp AgainH CutH
attribute [local irreducible] A.mq A.mit
theorem rdNumber_fn {w0 w : World} {H : List Atom} {br p q : Nat} {s : ByteArray} {v lo hi : Int} (hp : p ≤ s.size) (hs : s.size ≤ 5000000) (hd : intV (decI s.data.toList p) = .tuple #[zv v, zv (q : Int), zv 0]) (h1 : lo ≤ v) (h2 : v ≤ hi) (hM : Mm w0 (A.blk br [.string s, zv (p : Int)] 213 :: H) w) :
    Fn Tryz.prog 134 #[.pointer (some ⟨br, 0, none⟩), zv lo, zv hi] w fun u w' => u = zv v ∧ Mm w0 (A.blk br [.string s, zv (q : Int)] 213 :: H) w' := by
  refine enterK (l := [_, _, _]) hM rfl Tryz.ntmps134 rfl ?_
  refine hwF7 ?_
  refine HC.anyC ([(⟨br, 0, none⟩, .string s), (⟨br, 1, none⟩, zv (p : Int))]) rfl ?_
  refine HB.pa 0 rfl ?_
  refine HB.pa 1 rfl ?_ (POp.nilCheck rfl)
  refine HB.pa 2 rfl ?_
  refine HB.ld 3 rfl rfl memD ?_
  refine HB.pa 4 rfl ?_
  refine HB.pa 5 rfl ?_ (POp.nilCheck rfl)
  refine HB.pa 6 rfl ?_
  refine HB.ld 7 rfl rfl memD ?_
  refine HB.all (by repeat (first | exact Keep.nil | refine Keep.blk (by (repeat (first | exact List.Mem.head _ | apply List.Mem.tail)); done) rfl ?_ | refine Keep.grow (by (repeat (first | exact List.Mem.head _ | apply List.Mem.tail)); done) (by assumption) ?_ | refine Keep.base (by assumption) ?_)) [8] (by kernel_rfl) rfl ⟨⟨_, rfl, ?_⟩, trivial⟩
  refine HP.one ?_
  refine H1.call0 (u := .tuple #[zv v, zv (q : Int), zv 0]) (vs := [_, _]) rfl rfl (fun w' _ => (int_fn s p hp hs w').mono fun u w'' h => ⟨h.1.trans hd, h.2⟩) ?_
  apply HB.fold
  refine HB.pa 9 rfl ?_
  refine HB.pa 10 rfl ?_
  refine HB.pa 11 rfl ?_
  refine HB.pa 12 rfl ?_
  refine HB.pa 13 rfl ?_
  refine HB.pa 14 rfl ?_
  refine HB.pa 15 rfl ?_
  refine HB.done (by repeat (first | exact Keep.nil | refine Keep.blk (by (repeat (first | exact List.Mem.head _ | apply List.Mem.tail)); done) rfl ?_ | refine Keep.grow (by (repeat (first | exact List.Mem.head _ | apply List.Mem.tail)); done) (by assumption) ?_ | refine Keep.base (by assumption) ?_)) (by kernel_rfl) ?_
  refine hwF7 ?_
  refine HL.one (H1.callx (vs := [_, _, _]) rfl rfl (fun w' _ => awithin_yes h1 h2 w') ?_)
  refine hwF7 ?_
  refine HL.one (H1.callx (vs := [_]) rfl rfl (fun w' _ => amust_yes w') ?_)
  refine hwF7 ?_
  refine HL.one (H1.st rfl rfl (by intro _ h; cases h) (by intro _ h; cases h) rplA (by simp) ?_)
  refine hwF7 ?_
  exact HX.ret1 rfl rfl fun w' hM => ⟨rfl, hM⟩
theorem rdText_fn {w0 w : World} {H : List Atom} {br p q : Nat} {s r : ByteArray} (hp : p ≤ s.size) (hs : s.size ≤ 5000000) (hd : strV (decS s.data.toList p) = .tuple #[.string r, zv (q : Int), zv 0]) (hM : Mm w0 (A.blk br [.string s, zv (p : Int)] 213 :: H) w) :
    Fn Tryz.prog 135 #[.pointer (some ⟨br, 0, none⟩)] w fun u w' => u = .string r ∧ Mm w0 (A.blk br [.string s, zv (q : Int)] 213 :: H) w' := by
  refine enterK (l := [_]) hM rfl Tryz.ntmps135 rfl ?_
  refine hwF7 ?_
  refine HC.anyC ([(⟨br, 0, none⟩, .string s), (⟨br, 1, none⟩, zv (p : Int))]) rfl ?_
  refine HB.pa 0 rfl ?_
  refine HB.pa 1 rfl ?_ (POp.nilCheck rfl)
  refine HB.pa 2 rfl ?_
  refine HB.ld 3 rfl rfl memD ?_
  refine HB.pa 4 rfl ?_
  refine HB.pa 5 rfl ?_ (POp.nilCheck rfl)
  refine HB.pa 6 rfl ?_
  refine HB.ld 7 rfl rfl memD ?_
  refine HB.all (by repeat (first | exact Keep.nil | refine Keep.blk (by (repeat (first | exact List.Mem.head _ | apply List.Mem.tail)); done) rfl ?_ | refine Keep.grow (by (repeat (first | exact List.Mem.head _ | apply List.Mem.tail)); done) (by assumption) ?_ | refine Keep.base (by assumption) ?_)) [8] (by kernel_rfl) rfl ⟨⟨_, rfl, ?_⟩, trivial⟩
  refine HP.one ?_
  refine H1.call0 (u := .tuple #[.string r, zv (q : Int), zv 0]) (vs := [_, _]) rfl rfl (fun w' _ => (string_fn s p hp hs w').mono fun u w'' h => ⟨h.1.trans hd, h.2⟩) ?_
  apply HB.fold
  refine HB.pa 9 rfl ?_
  refine HB.pa 10 rfl ?_
  refine HB.pa 11 rfl ?_
  refine HB.pa 12 rfl ?_
  refine HB.pa 13 rfl ?_
  refine HB.pa 14 rfl ?_
  refine HB.pa 15 rfl ?_
  refine HB.done (by repeat (first | exact Keep.nil | refine Keep.blk (by (repeat (first | exact List.Mem.head _ | apply List.Mem.tail)); done) rfl ?_ | refine Keep.grow (by (repeat (first | exact List.Mem.head _ | apply List.Mem.tail)); done) (by assumption) ?_ | refine Keep.base (by assumption) ?_)) (by kernel_rfl) ?_
  refine hwF7 ?_
  refine HL.one (H1.callx (vs := [_]) rfl rfl (fun w' _ => amust_yes w') ?_)
  refine hwF7 ?_
  refine HL.one (H1.st rfl rfl (by intro _ h; cases h) (by intro _ h; cases h) rplA (by simp) ?_)
  refine hwF7 ?_
  exact HX.ret1 rfl rfl fun w' hM => ⟨rfl, hM⟩
theorem ln_one {r : ByteArray} : ∀ v ∈ [Value.string r, .slice none 0 0], v.oneCell' = true := by
  intro v hv
  simp only [List.mem_cons, List.not_mem_nil, or_false] at hv
  rcases hv with rfl | rfl <;> rfl
set_option maxHeartbeats 1000000 in
theorem rdLine1_fn {w0 w : World} {H : List Atom} {br p q : Nat} {s r : ByteArray} (vz : Value) (hp : p ≤ s.size) (hs : s.size ≤ 5000000) (hd : strV (decS s.data.toList p) = .tuple #[.string r, zv (q : Int), zv 0]) (hl : r.size ≤ 80) (hc : Lib.idxFunc notLine true r = -1) (hM : Mm w0 (A.blk br [.string s, zv (p : Int)] 213 :: H) w) :
    Fn Tryz.prog 137 #[.pointer (some ⟨br, 0, none⟩), zv 1, vz] w fun u w' => u = .agg #[.string r, .slice none 0 0] ∧ Mm w0 (A.blk br [.string s, zv (q : Int)] 213 :: H) w' := by
  have hl' : ((r.size : Nat) : Int) ≤ 80 := by omega
  refine enterK (l := [_, _, _]) hM rfl Tryz.ntmps137 rfl ?_
  refine hwF7 ?_
  refine HL.one (H1.alloc (cs := [.string ⟨#[]⟩, .slice none 0 0]) rfl rfl (fun b6 => ?_))
  refine hwF7 ?_
  refine HL.one (H1.alloc (cs := [.string ⟨#[]⟩, .slice none 0 0]) rfl rfl (fun b7 => ?_))
  refine hwF7 ?_
  refine HL.one (H1.callk (α := Unit) (V := fun _ => .string r) (I := fun _ => True) (H' := fun _ => A.blk br [.string s, zv (q : Int)] 213 :: A.blk b7 [.string ⟨#[]⟩, .slice none 0 0] 215 :: A.blk b6 [.string ⟨#[]⟩, .slice none 0 0] 215 :: H) (vs := [.pointer (some ⟨br, 0, none⟩)]) rfl rfl (fun w' hM => (rdText_fn hp hs hd (hM.sub (Hs.cons (Pick.there (Pick.there Pick.here)) (Hs.cons Pick.here (Hs.cons Pick.here (Hs.refl _)))))).mono fun u w'' h => ⟨(), trivial, h.1, h.2⟩) ?_)
  rintro - -
  refine hwF7 ?_
  refine HL.one (H1.st rfl rfl (by intro _ h; cases h) (by intro _ h; cases h) rplA (by simp) ?_)
  refine hwF7 ?_
  refine HL.one (H1.callx (vs := [_, _]) rfl rfl (fun w' _ => rLine_fn r hc w') ?_)
  refine hwF7 ?_
  refine HL.one (H1.callx (vs := [_]) rfl rfl (fun w' _ => amust_yes w') ?_)
  refine hwF7 ?_
  refine HL.one (H1.ldAgg (b := b7) (vs := [.string r, .slice none 0 0]) rfl memA rfl (fun i v hv => by show ([Value.string r, .slice none 0 0] : List Value)[0 + i]? = some v; rw [Nat.zero_add]; exact hv) rfl ?_)
  refine hwF7 ?_
  refine HL.one (H1.stAgg (b := b6) (cs := [.string ⟨#[]⟩, .slice none 0 0]) (vs := [.string r, .slice none 0 0]) rfl rfl rfl ln_one rplA rfl ?_)
  refine hwF7 ?_
  exact HX.retc1 (b := b6) (cs := [.string r, .slice none 0 0]) rfl rfl memA rfl fun w' hM => ⟨rfl, hM.sub (Hs.cons Pick.here ((Hs.refl _).skip.skip))⟩
def xpB : ByteArray := ⟨#[2, 4, 65, 98]⟩
theorem xpB_int : decI xpB.data.toList 0 = some (2, 1) := (decI_putN (s := xpB.data.toList) (p := 0) (n := 1) (rest := [4, 65, 98]) (by decide) (by decide +kernel)).trans (by decide +kernel)
theorem xpB_int1 : decI xpB.data.toList 1 = some (4, 2) := (decI_putN (s := xpB.data.toList) (p := 1) (n := 2) (rest := [65, 98]) (by decide) (by decide +kernel)).trans (by decide +kernel)
theorem xpB_str : decS xpB.data.toList 1 = some ([65, 98], 4) := by
  unfold decS
  rw [xpB_int1]
  decide +kernel
theorem xpAb_line : Lib.idxFunc notLine true xpAb = -1 := by decide +kernel
def avZ : List Value := [.bool false, .slice none 0 0, zv 0, zv 0, .string ⟨#[]⟩]
def vL (k : Nat) (a : Option Addr) (c : Nat) : List Value := [.bool false, .slice a k c, zv 0, zv 0, .string ⟨#[]⟩]
theorem vL_one {k : Nat} {a : Option Addr} {c : Nat} : ∀ v ∈ vL k a c, v.oneCell' = true := by
  intro v hv
  simp only [vL, List.mem_cons, List.not_mem_nil, or_false] at hv
  rcases hv with rfl | rfl | rfl | rfl | rfl <;> rfl
def lnX (k : Nat) : List Value := if k = 0 then [] else [.string xpAb, .slice none 0 0]
def atX (k : Nat) : Int := if k = 0 then 1 else 4
set_option maxHeartbeats 2000000 in
theorem aread_fn (w : World) : Fn Tryz.prog 72 #[zv 1, .string xpB] w fun u w' => ∃ z : Nat × Nat, True ∧ u = .agg (vL 1 (some ⟨z.1, 0, none⟩) z.2).toArray ∧ Mm w [A.grow 215 2 (some ⟨z.1, 0, none⟩) z.2 1 [.string xpAb, .slice none 0 0]] w' := by
  have hs : xpB.size ≤ 5000000 := by decide
  have hne : ¬ xpB = ⟨#[]⟩ := by decide +kernel
  refine enterH (l := [_, _]) rfl Tryz.ntmps72 rfl ?_
  refine hwF7 ?_
  refine HL.one (H1.alloc (cs := avZ) rfl rfl (fun b4 => ?_))
  refine hwF7 ?_
  refine HL.one (H1.callx (vs := [_, _, _]) rfl rfl (fun w' _ => awithin_yes (by decide) (by decide) w') ?_)
  refine hwF7 ?_
  refine HL.one (H1.callx (vs := [_]) rfl rfl (fun w' _ => amust_yes w') ?_)
  refine hwF7 ?_
  refine HL.one (H1.alloc (cs := vL 0 none 0) rfl rfl (fun b5 => ?_))
  refine hwF7 ?_
  refine HL.build (cs := [.string xpB, zv 0]) rfl rfl rfl ?_
  refine hwF7 ?_
  refine HL.one (H1.boxAgg (cs := [.string xpB, zv 0]) rfl rfl (fun br => ?_))
  refine hwF7 ?_
  refine HL.one (H1.callk (α := Unit) (V := fun _ => zv 1) (I := fun _ => True) (H' := fun _ => A.blk br [.string xpB, zv 1] 213 :: A.blk b5 (vL 0 none 0) 160 :: A.blk b4 avZ 160 :: []) (vs := [.pointer (some ⟨br, 0, none⟩), zv 0, zv 64]) rfl rfl (fun w' hM => (rdNumber_fn (p := 0) (q := 1) (by decide) hs (by rw [xpB_int]; rfl) (by decide) (by decide) hM).mono fun u w'' h => ⟨(), trivial, h.1, h.2⟩) ?_)
  rintro - -
  refine hwF7 ?_
  refine HC.grow0 215 2 ?_
  refine HC.loop (α := Nat × Option Addr × Nat) (fun z => [(0, zv 1), (1, .string xpB), (4, .pointer (some ⟨b4, 0, none⟩)), (5, .pointer (some ⟨b5, 0, none⟩)), (6, .pointer (some ⟨br, 0, none⟩)), (14, zv 1), (15, zv (z.1 : Int))])
    (fun z => [A.grow 215 2 z.2.1 z.2.2 z.1 (lnX z.1), A.blk br [.string xpB, zv (atX z.1)] 213, A.blk b5 (vL z.1 z.2.1 z.2.2) 160, A.blk b4 avZ 160]) (fun z => z.1 ≤ 1 ∧ (z.1 = 1 → ∃ b, z.2.1 = some ⟨b, 0, none⟩)) (fun z => 1 - z.1) (0, none, 0) ⟨Nat.zero_le _, fun h => (by cases h)⟩ esA (by repeat (first | exact Hs.nil _ | (refine Hs.cons pickA ?_))) ?_
  rintro ⟨k, a, c⟩ ⟨hk, hka⟩
  dsimp only at hk hka ⊢
  by_cases h0 : k = 0
  · subst h0
    unfold vL
    refine hwF7 ?_
    refine HC.anyU ([(10, ⟨b5, 1, none⟩, .slice a 0 c)]) rfl ?_
    refine HU.pa 0 rfl ?_
    refine HU.ld 1 rfl rfl memD ?_
    refine HU.pa 2 rfl ?_
    refine HU.pa 3 rfl ?_
    refine HU.pa 4 rfl ?_
    refine HU.ld 5 rfl rfl memD ?_
    refine HU.all (by (first | refine KeepU.blk (by (repeat (first | exact List.Mem.head _ | apply List.Mem.tail)); done) rfl ?_ | refine KeepU.grow (by (repeat (first | exact List.Mem.head _ | apply List.Mem.tail)); done) (by assumption) ?_ | refine KeepU.base (by assumption) ?_); exact KeepU.nil) [6] (by kernel_rfl) rfl ⟨⟨_, rfl, ?_⟩, trivial⟩
    refine HV.one ?_
    refine H1.callk (α := Unit) (V := fun _ => .agg #[.string xpAb, .slice none 0 0]) (I := fun _ => True) (H' := fun _ => A.blk br [.string xpB, zv 4] 213 :: A.grow 215 2 a c 0 (lnX 0) :: A.blk b5 [.bool false, .slice a 0 c, zv 0, zv 0, .string ⟨#[]⟩] 160 :: A.blk b4 avZ 160 :: []) (vs := [.pointer (some ⟨br, 0, none⟩), zv 1, .slice a 0 c]) rfl rfl (fun w' hM => (rdLine1_fn (p := 1) (q := 4) (r := xpAb) _ (by decide) hs (by rw [xpB_str]; rfl) (by decide) xpAb_line (hM.sub (Hs.cons (Pick.there Pick.here) (Hs.cons Pick.here (Hs.cons Pick.here (Hs.cons Pick.here (Hs.refl _))))))).mono fun u w'' h => ⟨(), trivial, h.1, h.2⟩) ?_
    rintro - -
    apply HU.fold
    refine HU.all (by (first | refine KeepU.blk (by (repeat (first | exact List.Mem.head _ | apply List.Mem.tail)); done) rfl ?_ | refine KeepU.grow (by (repeat (first | exact List.Mem.head _ | apply List.Mem.tail)); done) (by assumption) ?_ | refine KeepU.base (by assumption) ?_); exact KeepU.nil) [7] (by kernel_rfl) rfl ⟨⟨_, rfl, ?_⟩, trivial⟩
    refine HV.one ?_
    refine H1.lit (cs := [.string xpAb, .slice none 0 0]) rfl rfl rfl rfl rfl rfl (fun b8 => ?_)
    apply HU.fold
    refine HU.all (by (first | refine KeepU.blk (by (repeat (first | exact List.Mem.head _ | apply List.Mem.tail)); done) rfl ?_ | refine KeepU.grow (by (repeat (first | exact List.Mem.head _ | apply List.Mem.tail)); done) (by assumption) ?_ | refine KeepU.base (by assumption) ?_); exact KeepU.nil) [8] (by kernel_rfl) rfl ⟨⟨_, rfl, ?_⟩, trivial⟩
    refine HV.one ?_
    refine H1.app (sz := 2) (m := 1) (news := [.string xpAb, .slice none 0 0]) rfl (by decide) rfl rfl (fun _ _ => by first | ((repeat (first | with_reducible exact Rpl.here | with_reducible apply Rpl.there)); done) | (repeat (first | exact Rpl.here | apply Rpl.there))) rfl (fun w' hM j u hj => by rw [add_lit, Nat.zero_add]; exact (hM.blk (b := b8) memA).cell hj) ln_one (by decide) (by decide) rfl (fun a2 c2 ha2 => ?_)
    apply HU.fold
    refine HU.pa 9 rfl ?_
    refine HU.all (by (first | refine KeepU.blk (by (repeat (first | exact List.Mem.head _ | apply List.Mem.tail)); done) rfl ?_ | refine KeepU.grow (by (repeat (first | exact List.Mem.head _ | apply List.Mem.tail)); done) (by assumption) ?_ | refine KeepU.base (by assumption) ?_); exact KeepU.nil) [10] (by kernel_rfl) rfl ⟨⟨_, rfl, ?_⟩, trivial⟩
    refine HV.one ?_
    refine H1.st rfl rfl (by intro _ h; cases h) (by intro _ h; cases h) rplA (by simp) ?_
    apply HU.fold
    refine HU.done (by refine KeepU.skip (by kernel_rfl) ?_; exact KeepU.nil) (by kernel_rfl) ?_
    refine hwF7 ?_
    exact HX.again (1, a2, c2) ⟨Nat.le_refl _, fun _ => ha2.resolve_left (by decide)⟩ (by show 1 - 1 < 1 - 0; decide) esA (by repeat (first | exact Hs.nil _ | (refine Hs.cons pickA ?_)))
  · obtain rfl : k = 1 := by omega
    obtain ⟨bz, rfl⟩ := hka rfl
    unfold vL
    refine hwF7 ?_
    refine HL.one (H1.callx (vs := [_]) rfl rfl (fun w' _ => amust_yes w') ?_)
    refine hwF7 ?_
    refine HL.one (H1.ldAgg (b := b5) (vs := vL 1 (some ⟨bz, 0, none⟩) c) rfl memA rfl (fun i v hv => by rw [Nat.zero_add]; exact hv) rfl ?_)
    refine hwF7 ?_
    refine HL.one (H1.stAgg (b := b4) (cs := avZ) (vs := vL 1 (some ⟨bz, 0, none⟩) c) rfl rfl rfl vL_one rplA rfl ?_)
    refine hwF7 ?_
    exact HX.retc1 (b := b4) (cs := vL 1 (some ⟨bz, 0, none⟩) c) rfl rfl memA rfl fun w' hM => ⟨(bz, c), trivial, rfl, hM.sub (by repeat (first | exact Hs.nil _ | (refine Hs.cons pickA ?_)))⟩
end Go.Sx
/- abstraction.Apply at the fixed example: the walks. -/
namespace Go.Sx
open Go Go.Proofs Go.RowKit
theorem hwF8 {G G2 : Prop} (x : G2) (hwq : Hold G2 → G := by
    intro hQq
    repeat' (first | refine HL.pa ?_ (POp.nilCheck rfl) | apply HL.fold | apply HA.fold | apply HL.nil | apply HX.n_then | apply HC.seq | apply HC.region | refine HL.pa ?_ | refine HL.ga rfl ?_ | refine HL.na rfl ?_ | refine HL.nu rfl rfl ?_ | apply HC.block | apply HC.skip | apply HC.exit | apply HC.ret | apply HX.e_block | refine HX.e_other rfl ?_ | apply HX.e_then | apply HX.e_again | apply HX.n_block | apply HX.r_then | apply HX.r_block | apply HX.r_again | refine HC.cond_yes rfl ?_ | refine HC.cond_no rfl ?_ | refine HL.one (H1.ldb rfl memA rfl rfl ?_) | refine HC.cond rfl (fun hc => ?_) (fun hc => ?_) | refine HC.cond_b rfl (fun hc => ?_) (fun hc => ?_))
    exact hQq.get) : G := hwq ⟨x⟩
def xpab : ByteArray := ⟨#[97, 98]⟩
theorem lower_fn (w : World) : Fn Tryz.prog 209 #[.string xpAb] w fun u w' => u = .string xpab ∧ Ext w w' := by
  refine Calls.mono (Tryz.strings_ToLower_ascii xpAb w (by decide) (fun j b h => ?_)) ?_
  · have hm := List.mem_of_getElem? h
    have ha : ∀ b ∈ xpAb.data.toList, b.toNat < 128 := by decide +kernel
    exact ha b hm
  · rintro e w' ⟨h1, h2⟩
    have e1 : (⟨(Lib.toLowerA xpAb.data.toList).toArray⟩ : ByteArray) = xpab := by decide +kernel
    rw [e1] at h1
    exact ⟨_, h1, rfl, h2⟩
def lnS (s : ByteArray) : List Value := [.string s, .slice none 0 0]
abbrev bufH (b : Nat) (a : Option Addr) (c : Nat) (ys : List UInt8) (H : List Atom) : List Atom := A.blk b [.slice a ys.length c] 148 :: A.grow 5 1 a c ys.length (ub ys) :: H
theorem RdK.of_grow {w0 w : World} {H : List Atom} {b c sz : Nat} {e : TypeId} {xs : List Value} (hM : Mm w0 H w) (hm : A.grow e sz (some ⟨b, 0, none⟩) c 1 xs ∈ H) : RdK w (.slice (some ⟨b, 0, none⟩) 1 c) 1 sz fun _ => xs := by
  have ho := hM.own hm
  have hc : 1 ≤ c := by
    rcases ho.2 with ⟨-, h0⟩ | ⟨g, cap, cur, hv, h1, h2, h3, h4, h5, h6, h7⟩
    · cases h0
    · cases hv; omega
  refine ⟨_, _, rfl, hc, .inr ⟨b, 0, rfl, fun i hi j u hu => ?_⟩⟩
  obtain rfl : i = 0 := by omega
  rw [Nat.zero_mul, Nat.zero_add]
  exact ownsRow_cell ho hu
attribute [local irreducible] WC WL WX POp Then Again Fn NX W1 WA WO QL RP RA Yld LoopAt HC HL HX HN H1 HA HO HQ HB HP A.blk A.grow A.rd A.obj A.mp AgainH CutH
attribute [local irreducible] A.mq A.mit
theorem fold_fn {w0 w : World} {H : List Atom} {bz c : Nat} (hM : Mm w0 (A.grow 215 2 (some ⟨bz, 0, none⟩) c 1 (lnS xpAb) :: H) w) :
    Fn Tryz.prog 140 #[.pointer (some ⟨bz, 0, none⟩), zv 0] w fun u w' => u = .tuple #[] ∧ Mm w0 (A.grow 215 2 (some ⟨bz, 0, none⟩) c 1 (lnS xpab) :: H) w' := by
  refine enterK (l := [_, _]) hM rfl Tryz.ntmps140 rfl ?_
  refine hwF8 ?_
  refine HL.one (H1.ldg (b := bz) (c := c) (n := 1) (vs := lnS xpAb) (v := .string xpAb) rfl memA rfl rfl ?_)
  refine hwF8 ?_
  refine HL.one (H1.callx (vs := [_]) rfl rfl (fun w' _ => lower_fn w') ?_)
  refine hwF8 ?_
  refine HL.one (H1.stg (b := bz) (i := 0) (c := c) (n := 1) (xs := lnS xpAb) rfl rfl (by intro _ h; cases h) (by intro _ h; cases h) rplA (by exact Nat.zero_lt_succ 1) ?_)
  refine hwF8 ?_
  exact HX.end0 rfl fun w' hM => ⟨rfl, hM⟩
def xqN (k : Nat) : ByteArray := if k = 0 then xpAb else xpab
theorem each1_fn {w0 w : World} {H : List Atom} {b8 bx bz c : Nat} (hM : Mm w0 (A.grow 215 2 (some ⟨bz, 0, none⟩) c 1 (lnS xpAb) :: A.blk b8 (vL 1 (some ⟨bz, 0, none⟩) c) 160 :: A.blk bx [.func (.func 140) #[] #[]] 218 :: H) w) :
    Fn Tryz.prog 208 #[.pointer (some ⟨b8, 0, none⟩), zv 0, .pointer (some ⟨bx, 0, none⟩)] w fun u w' => u = .tuple #[] ∧ Mm w0 (A.grow 215 2 (some ⟨bz, 0, none⟩) c 1 (lnS xpab) :: A.blk b8 (vL 1 (some ⟨bz, 0, none⟩) c) 160 :: A.blk bx [.func (.func 140) #[] #[]] 218 :: H) w' := by
  refine enterK (l := [_, _, _]) hM rfl Tryz.ntmps208 rfl ?_
  unfold vL
  refine hwF8 ?_
  refine HC.loop (α := Nat) (fun k => [(0, .pointer (some ⟨b8, 0, none⟩)), (1, zv 0), (2, .pointer (some ⟨bx, 0, none⟩)), (10, zv 1), (11, zv (k : Int))]) (fun k => A.grow 215 2 (some ⟨bz, 0, none⟩) c 1 (lnS (xqN k)) :: A.blk b8 [.bool false, .slice (some ⟨bz, 0, none⟩) 1 c, zv 0, zv 0, .string ⟨#[]⟩] 160 :: A.blk bx [.func (.func 140) #[] #[]] 218 :: H) (fun k => k ≤ 1) (fun k => 1 - k) 0 (Nat.zero_le _) esA (Hs.refl _) ?_
  intro k hk
  by_cases h0 : k = 0
  · subst h0
    refine hwF8 ?_
    refine HC.anyC ([(⟨bx, 0, none⟩, .func (.func 140) #[] #[]), (⟨b8, 1, none⟩, .slice (some ⟨bz, 0, none⟩) 1 c)]) rfl ?_
    refine HB.ld 0 rfl rfl memD ?_
    refine HB.pa 1 rfl ?_
    refine HB.pa 2 rfl ?_ (POp.nilCheck rfl)
    refine HB.pa 3 rfl ?_
    refine HB.ld 4 rfl rfl memD ?_
    refine HB.pa 5 rfl ?_
    refine HB.pa 6 rfl ?_
    refine HB.pa 7 rfl ?_
    refine HB.all (by repeat (first | exact Keep.nil | refine Keep.blk (by (repeat (first | exact List.Mem.head _ | apply List.Mem.tail)); done) rfl ?_ | refine Keep.grow (by (repeat (first | exact List.Mem.head _ | apply List.Mem.tail)); done) (by assumption) ?_ | refine Keep.base (by assumption) ?_)) [8] (by kernel_rfl) rfl ⟨⟨_, rfl, ?_⟩, trivial⟩
    refine HP.one ?_
    refine H1.callvk (α := Unit) (V := fun _ => .tuple #[]) (I := fun _ => True) (H' := fun _ => A.grow 215 2 (some ⟨bz, 0, none⟩) c 1 (lnS xpab) :: A.blk b8 [.bool false, .slice (some ⟨bz, 0, none⟩) 1 c, zv 0, zv 0, .string ⟨#[]⟩] 160 :: A.blk bx [.func (.func 140) #[] #[]] 218 :: H) (cap := []) (vs := [.pointer (some ⟨bz, 0, none⟩), zv 0]) rfl rfl rfl (fun w' hM => (fold_fn hM).mono fun u w'' h => ⟨(), trivial, h.1, h.2⟩) ?_
    rintro - -
    apply HB.fold
    refine HB.done (by repeat (first | exact Keep.nil | refine Keep.blk (by (repeat (first | exact List.Mem.head _ | apply List.Mem.tail)); done) rfl ?_ | refine Keep.grow (by (repeat (first | exact List.Mem.head _ | apply List.Mem.tail)); done) (by assumption) ?_ | refine Keep.base (by assumption) ?_)) (by kernel_rfl) ?_
    refine hwF8 ?_
    exact HX.again 1 (Nat.le_refl _) (by show 1 - 1 < 1 - 0; decide) esA (Hs.refl _)
  · obtain rfl : k = 1 := by omega
    refine hwF8 ?_
    exact HX.end0 rfl fun w' hM => ⟨rfl, hM⟩
theorem w1one_fn {w0 w : World} {H : List Atom} {b bl c : Nat} {a : Option Addr} {ys : List UInt8} (n : Nat) (hn : n ≤ 1099511627776) (hM : Mm w0 (bufH b a c ys (A.blk bl [zv (n : Int)] 3 :: H)) w) (hlen : ys.length ≤ 900000) :
    Fn Tryz.prog 148 #[.slice (some ⟨bl, 0, none⟩) 1 1, .pointer (some ⟨b, 0, none⟩)] w fun v w' => ∃ q : Option Addr × Nat, True ∧ v = .tuple #[] ∧ Mm w0 (bufH b q.1 q.2 (ys ++ (strN n).data.toList) H) w' := by
  have hsz := strN_size (n := n) (by omega)
  refine enterK (l := [_, _]) hM rfl Tryz.ntmps148 rfl ?_
  refine hwF8 ?_
  refine HC.loop (α := Nat × Option Addr × Nat) (fun z => [(1, .pointer (some ⟨b, 0, none⟩)), (7, .slice (some ⟨bl, 0, none⟩) 1 1), (8, zv 1), (9, zv (z.1 : Int))])
    (fun z => bufH b z.2.1 z.2.2 (if z.1 = 0 then ys else ys ++ (strN n).data.toList) (A.blk bl [zv (n : Int)] 3 :: H)) (fun z => z.1 ≤ 1) (fun z => 1 - z.1) (0, a, c) (Nat.zero_le _) esA (Hs.refl _) ?_
  rintro ⟨j, a', c'⟩ hj
  dsimp only at hj ⊢
  by_cases h0 : j = 0
  · subst h0
    rw [if_pos rfl]
    refine hwF8 ?_
    refine HL.one (H1.callx (vs := [zv (n : Int)]) rfl rfl (fun w' _ => putInt_fn n (by omega) w') ?_)
    refine hwF8 ?_
    refine HL.one (H1.appS rfl rfl (fun _ _ => by first | ((repeat (first | with_reducible exact Rpl.here | with_reducible apply Rpl.there)); done) | (repeat (first | exact Rpl.here | apply Rpl.there))) (by omega) rfl (fun a2 c2 => ?_))
    refine hwF8 ?_
    refine HL.one (H1.st rfl rfl (by intro _ h; cases h) (by intro _ h; cases h) rplA (by simp) ?_)
    refine hwF8 ?_
    exact HX.again (1, a2, c2) (Nat.le_refl _) (by show 1 - 1 < 1 - 0; decide) esA (Hs.refl _)
  · obtain rfl : j = 1 := by omega
    rw [if_neg (by decide)]
    refine hwF8 ?_
    exact HX.end0 rfl fun w' hM => ⟨(a', c'), trivial, rfl, hM.sub (Hs.cons Pick.here (Hs.cons Pick.here (Hs.refl _).skip))⟩
theorem w1nil_fn (b : Nat) (w : World) : Fn Tryz.prog 148 #[.slice none 0 0, .pointer (some ⟨b, 0, none⟩)] w fun v w' => v = .tuple #[] ∧ Ext w w' := by
  refine enterH (l := [_, _]) rfl Tryz.ntmps148 rfl ?_
  refine hwF8 ?_
  refine HC.loop (α := Unit) (fun _ => [(8, zv 0), (9, zv 0)]) (fun _ => []) (fun _ => True) (fun _ => 0) () trivial esA (by repeat (first | exact Hs.nil _ | (refine Hs.cons pickA ?_))) ?_
  rintro - -
  refine hwF8 ?_
  exact HX.end0 rfl fun w' hM => ⟨rfl, hM.ext⟩
theorem w2_fn {w0 w : World} {H : List Atom} {b c : Nat} {a : Option Addr} {ys : List UInt8} (s : ByteArray) (hs : s.size ≤ 1000) (hM : Mm w0 (bufH b a c ys H) w) (hlen : ys.length ≤ 900000) :
    Fn Tryz.prog 149 #[.string s, .pointer (some ⟨b, 0, none⟩)] w fun v w' => ∃ q : Option Addr × Nat, True ∧ v = .tuple #[] ∧ Mm w0 (bufH b q.1 q.2 (ys ++ (strN s.size ++ s).data.toList) H) w' := by
  have hsz := strN_size (n := s.size) (by omega)
  have hsz2 : (strN s.size ++ s).size = (strN s.size).size + s.size := ByteArray.size_append
  refine enterK (l := [_, _]) hM rfl Tryz.ntmps149 rfl ?_
  refine hwF8 ?_
  refine HL.one (H1.callx (vs := [.string s]) rfl rfl (fun w' _ => putString_fn s (by omega) w') ?_)
  refine hwF8 ?_
  refine HL.one (H1.appS rfl rfl (fun _ _ => by first | ((repeat (first | with_reducible exact Rpl.here | with_reducible apply Rpl.there)); done) | (repeat (first | exact Rpl.here | apply Rpl.there))) (by omega) rfl (fun a2 c2 => ?_))
  refine hwF8 ?_
  refine HL.one (H1.st rfl rfl (by intro _ h; cases h) (by intro _ h; cases h) rplA (by simp) ?_)
  refine hwF8 ?_
  exact HX.end0 rfl fun w' hM => ⟨(a2, c2), trivial, rfl, hM⟩
def xqS1 : List UInt8 := [] ++ (strN 1).data.toList
def xqS2 : List UInt8 := xqS1 ++ (strN xpab.size ++ xpab).data.toList
def xpb : ByteArray := ⟨#[2, 4, 97, 98]⟩
theorem xqS2_eq : (⟨xqS2.toArray⟩ : ByteArray) = xpb := by decide +kernel
def xqS (k : Nat) : List UInt8 := if k = 0 then xqS1 else xqS2
theorem lnS_one (s : ByteArray) : ∀ v ∈ lnS s, v.oneCell' = true := ln_one
set_option maxHeartbeats 2000000 in
theorem awrite_fn (v : Value) (w : World) (hR : RdK w v 1 2 fun _ => lnS xpab) : Fn Tryz.prog 74 #[.agg #[.bool false, v, zv 0, zv 0, .string ⟨#[]⟩], zv 1] w fun u w' => u = .string xpb ∧ Ext w w' := by
  obtain ⟨al, cl, rfl, -, -⟩ := id hR
  obtain ⟨bl0, offl, rfl, hb⟩ := hR.cell (show 0 < 1 by decide)
  have hx := hb 0 (by decide)
  have hl1 : xqS1.length ≤ 1000 := by decide +kernel
  have hne : xqS2.length ≠ 0 := by decide +kernel
  refine enterH (l := [_, _]) rfl Tryz.ntmps74 rfl ?_
  refine hwF8 ?_
  refine HL.one (H1.boxAgg (cs := [.bool false, .slice (some ⟨bl0, offl, none⟩) 1 cl, zv 0, zv 0, .string ⟨#[]⟩]) rfl rfl (fun b2 => ?_))
  refine hwF8 ?_
  refine HL.one (H1.alloc (cs := [.slice none 0 0]) rfl rfl (fun b5 => ?_))
  refine hwF8 ?_
  refine HL.one (H1.lit (cs := [zv 1]) rfl rfl rfl rfl rfl rfl (fun b8 => ?_))
  refine hwF8 ?_
  refine HL.one (H1.callvk (α := Option Addr × Nat) (V := fun _ => .tuple #[]) (I := fun _ => True) (H' := fun q => bufH b5 q.1 q.2 xqS1 [A.blk b2 [.bool false, .slice (some ⟨bl0, offl, none⟩) 1 cl, zv 0, zv 0, .string ⟨#[]⟩] 160]) (cap := [.pointer (some ⟨b5, 0, none⟩)]) (vs := [.slice (some ⟨b8, 0, none⟩) 1 1]) rfl rfl rfl
    (fun w' hM => w1one_fn (a := none) (c := 0) (ys := []) 1 (by decide) ((hM.grow0 5 1).sub (by repeat (first | exact Hs.nil _ | (refine Hs.cons pickA ?_)))) (by decide)) ?_)
  rintro ⟨a1, c1⟩ -
  dsimp only
  refine hwF8 ?_
  refine HC.loop (α := Nat × Option Addr × Nat) (fun z => [(1, zv 1), (5, .pointer (some ⟨b5, 0, none⟩)), (6, .func (.func 148) #[] #[.pointer (some ⟨b5, 0, none⟩)]), (7, .func (.func 149) #[] #[.pointer (some ⟨b5, 0, none⟩)]), (19, .slice (some ⟨bl0, offl, none⟩) 1 cl), (20, zv 1), (21, zv (z.1 : Int))])
    (fun z => bufH b5 z.2.1 z.2.2 (xqS z.1) []) (fun z => z.1 ≤ 1) (fun z => 1 - z.1) (0, a1, c1) (Nat.zero_le _) esA (Hs.cons Pick.here (Hs.cons Pick.here (Hs.refl _).skip)) ?_
  rintro ⟨j, a', c'⟩ hj
  dsimp only at hj ⊢
  by_cases h0 : j = 0
  · subst h0
    refine hwF8 ?_
    refine HL.one (H1.ldAggw (b := bl0) (off := offl + 0 * 2) (vs := lnS xpab) rfl rfl (fun w' hM i u hu => cell_ext hM.ext (hx i u hu)) rfl ?_)
    refine hwF8 ?_
    refine HL.one (H1.alloc (cs := [.string ⟨#[]⟩, .slice none 0 0]) rfl rfl (fun b9 => ?_))
    refine hwF8 ?_
    refine HL.one (H1.stAgg (b := b9) (cs := [.string ⟨#[]⟩, .slice none 0 0]) (vs := lnS xpab) rfl rfl rfl (lnS_one _) rplA rfl ?_)
    unfold lnS
    refine hwF8 ?_
    refine HL.one (H1.callvk (α := Option Addr × Nat) (V := fun _ => .tuple #[]) (I := fun _ => True) (H' := fun q => bufH b5 q.1 q.2 xqS2 [A.blk b9 [.string xpab, .slice none 0 0] 215]) (cap := [.pointer (some ⟨b5, 0, none⟩)]) (vs := [.string xpab]) rfl rfl rfl
      (fun w' hM => w2_fn (ys := xqS1) xpab (by decide) (hM.sub (Hs.cons (Pick.there Pick.here) (Hs.cons (Pick.there Pick.here) (Hs.cons Pick.here (Hs.refl _))))) (by omega)) ?_)
    rintro ⟨a3, c3⟩ -
    dsimp only
    refine hwF8 ?_
    refine HL.one (H1.callv0 (u := .tuple #[]) (cap := [.pointer (some ⟨b5, 0, none⟩)]) (vs := [_]) rfl rfl rfl (fun w' _ => w1nil_fn b5 w') ?_)
    refine hwF8 ?_
    exact HX.again (1, a3, c3) (Nat.le_refl _) (by show 1 - 1 < 1 - 0; decide) esA (Hs.cons Pick.here (Hs.cons Pick.here (Hs.refl _).skip))
  · obtain rfl : j = 1 := by omega
    show HC _ _ _ _ _ _ _ _ (bufH b5 a' c' xqS2 [])
    refine HC.openg (e := 5) (a := a') (xs := ub xqS2) (.tail _ (.head _)) hne ?_
    rintro g rfl
    refine hwF8 ?_
    refine HL.one (H1.bstrg (b := g) (c := c') (ys := xqS2) rfl (.tail _ (.head _)) rfl ?_)
    rw [xqS2_eq]
    refine hwF8 ?_
    exact HX.ret1 rfl rfl fun w' hM => ⟨rfl, hM.ext⟩
end Go.Sx
/- abstraction.Apply, and awake: the walks. -/
namespace Go.Sx
open Go Go.Proofs Go.RowKit
theorem hwF9 {G G2 : Prop} (x : G2) (hwq : Hold G2 → G := by
    intro hQq
    repeat' (first | refine HL.pa ?_ (POp.seqY rfl rfl rfl) | refine HL.pa ?_ (POp.nilCheck rfl) | apply HL.fold | apply HA.fold | apply HL.nil | apply HX.n_then | apply HC.seq | apply HC.region | refine HL.pa ?_ | refine HL.ga rfl ?_ | refine HL.na rfl ?_ | refine HL.nu rfl rfl ?_ | apply HC.block | apply HC.skip | apply HC.exit | apply HC.ret | apply HX.e_block | refine HX.e_other rfl ?_ | apply HX.e_then | apply HX.e_again | apply HX.n_block | apply HX.r_then | apply HX.r_block | apply HX.r_again | refine HC.cond_yes rfl ?_ | refine HC.cond_no rfl ?_ | refine HL.one (H1.ldb rfl memA rfl rfl ?_) | refine HC.cond rfl (fun hc => ?_) (fun hc => ?_) | refine HC.cond_b rfl (fun hc => ?_) (fun hc => ?_))
    exact hQq.get) : G := hwq ⟨x⟩
theorem POp.seqY {P : Program} {N : Nat} {ds : List Deferred} {E : Env} {x y : Operand} {t t' ty : TypeId} {s u : ByteArray} [UTy P t .string] (hx : Env.ev E x = some (.string s)) (hy : Env.ev E y = some (.string u)) (h : s = u) : POp P N ds E (.binOp .eql t x y t') ty (.bool true) := by
  rw [← decide_eq_true h]
  exact POp.seql hx hy
/-- A code that does not panic. -/
def NPost (Q : Post) : Post := fun e a w => match e with
  | .panic _ => False
  | e => Q e a w
instance {Q : Post} : QPanic (NPost Q) := ⟨fun _ _ _ _ _ h => h⟩
section
variable {P : Program} {r : Option Nat} {N : Nat} {ds : List Deferred} {Q : Post} {E : Env} {w0 : World} {H : List Atom} {c : Code}
theorem HC.np (h : HC P r N ds c (NPost Q) E w0 H) : HC P r N ds c Q E w0 H := fun w hM a ha => wpIn_mono (h w hM a ha) fun e a w h => by
  cases e <;> first | exact h | exact h.elim
theorem HX.np_r (h : HX N ds .ret Q E w0 H) : HX N ds .ret (NPost Q) E w0 H := h
end
attribute [local irreducible] WC WL WX POp Then Again Fn NX W1 WA WO QL RP RA Yld LoopAt HC HL HX HN H1 HA HO HQ HB HP A.blk A.grow A.rd A.obj A.mp AgainH CutH
attribute [local irreducible] A.mq A.mit NPost
set_option maxHeartbeats 4000000 in
theorem apply_fn (v : Value) (w : World) (hR : RdK w v 1 2 fun _ => [zv 1, zv 0]) : Fn Tryz.prog 25 #[zv 1, v, .string xpB] w fun u w' => u = .tuple #[.string xpb, zv 0] ∧ Ext w w' := by
  obtain ⟨av, cv, rfl, -, -⟩ := id hR
  obtain ⟨bs, offs, rfl, hb⟩ := hR.cell (show 0 < 1 by decide)
  have hx := hb 0 (by decide)
  unfold Fn
  refine enterD (l := [_, _, _]) (Mm.refl w) rfl Tryz.ntmps25 rfl ?_
  refine HC.np ?_
  refine hwF9 ?_
  refine HL.one (H1.alloc (cs := [.string ⟨#[]⟩]) rfl rfl (fun b6 => ?_))
  refine hwF9 ?_
  refine HL.one (H1.alloc (cs := [zv 0]) rfl rfl (fun b7 => ?_))
  refine hwF9 ?_
  refine HL.deferA (vs := [.pointer (some ⟨b6, 0, none⟩), .pointer (some ⟨b7, 0, none⟩)]) rfl ?_
  refine hwF9 ?_
  refine HL.one (H1.callx (vs := [_, _]) rfl rfl (fun w' hM => avalid_fn _ w' (hR.ext hM.ext)) ?_)
  refine hwF9 ?_
  refine HL.one (H1.callx (vs := [_]) rfl rfl (fun w' _ => amust_yes w') ?_)
  refine hwF9 ?_
  refine HL.one (H1.callz (vs := [_, _]) rfl rfl (fun w' _ => aread_fn w') ?_)
  rintro ⟨bz, cz⟩ -
  dsimp only
  refine hwF9 ?_
  refine HL.one (H1.alloc (cs := avZ) rfl rfl (fun b8 => ?_))
  refine hwF9 ?_
  refine HL.one (H1.stAgg (b := b8) (cs := avZ) (vs := vL 1 (some ⟨bz, 0, none⟩) cz) rfl rfl rfl vL_one rplA rfl ?_)
  refine hwF9 ?_
  refine HL.one (H1.callz (vs := []) rfl rfl (fun w' _ => kinds_fn w') ?_)
  rintro ⟨s, e, R⟩ ⟨hR1, hR2⟩
  dsimp only at hR1 hR2 ⊢
  refine hwF9 ?_
  refine HL.one (H1.alloc (cs := [.slice none 0 0, .nilFunc, .nilFunc, .slice none 0 0, .nilFunc, .nilFunc, .slice none 0 0, .nilFunc, .nilFunc, .slice none 0 0, .nilFunc, .nilFunc, .slice none 0 0, .nilFunc, .nilFunc, .slice none 0 0, .nilFunc, .nilFunc, .slice none 0 0, .nilFunc, .nilFunc]) rfl rfl (fun b9 => ?_))
  refine hwF9 ?_
  refine HL.one (H1.stAgg (b := b9) (cs := [.slice none 0 0, .nilFunc, .nilFunc, .slice none 0 0, .nilFunc, .nilFunc, .slice none 0 0, .nilFunc, .nilFunc, .slice none 0 0, .nilFunc, .nilFunc, .slice none 0 0, .nilFunc, .nilFunc, .slice none 0 0, .nilFunc, .nilFunc, .slice none 0 0, .nilFunc, .nilFunc]) (vs := kC s e R) rfl rfl (kC_len hR1) (kC_one hR2) rplA (kC_len hR1) ?_)
  refine hwF9 ?_
  refine HC.loop (α := Nat) (fun k => [(0, zv 1), (6, .pointer (some ⟨b6, 0, none⟩)), (7, .pointer (some ⟨b7, 0, none⟩)), (8, .pointer (some ⟨b8, 0, none⟩)), (9, .pointer (some ⟨b9, 0, none⟩)), (20, .slice (some ⟨bs, offs, none⟩) 1 cv), (21, zv 1), (22, zv (k : Int))])
    (fun k => A.grow 215 2 (some ⟨bz, 0, none⟩) cz 1 (lnS (xqN k)) :: A.blk b8 (vL 1 (some ⟨bz, 0, none⟩) cz) 160 :: A.blk e [.func (.func 140) #[] #[]] 218 :: A.blk b9 (kC s e R) 166 :: A.blk b7 [zv 0] 57 :: A.blk b6 [.string ⟨#[]⟩] 9 :: []) (fun k => k ≤ 1) (fun k => 1 - k) 0 (Nat.zero_le _) esA (by repeat (first | exact Hs.nil _ | (refine Hs.cons pickA ?_))) ?_
  intro k hk
  by_cases h0 : k = 0
  · subst h0
    unfold vL
    refine hwF9 ?_
    refine HL.one (H1.ldAggw (b := bs) (off := offs + 0 * 2) (vs := [zv 1, zv 0]) rfl rfl (fun w' hM i u hu => cell_ext hM.ext (hx i u hu)) rfl ?_)
    refine hwF9 ?_
    refine HL.one (H1.alloc (cs := [zv 0, zv 0]) rfl rfl (fun b11 => ?_))
    refine hwF9 ?_
    refine HL.one (H1.stAgg (b := b11) (cs := [zv 0, zv 0]) (vs := [zv 1, zv 0]) rfl rfl rfl (by intro v hv; simp only [List.mem_cons, List.not_mem_nil, or_false] at hv; rcases hv with rfl | rfl <;> rfl) rplA rfl ?_)
    refine hwF9 ?_
    refine HC.anyC ([(⟨b11, 0, none⟩, zv 1), (⟨b11, 1, none⟩, zv 0), (⟨b9, 5, none⟩, .func (.func 208) #[] #[.pointer (some ⟨e, 0, none⟩)])]) rfl ?_
    refine HB.pa 0 rfl ?_
    refine HB.ld 1 rfl rfl memD ?_
    refine HB.pa 2 rfl ?_
    refine HB.pa 3 rfl ?_
    refine HB.ld 4 rfl rfl memD ?_
    refine HB.pa 5 rfl ?_
    refine HB.ld 6 rfl rfl memD ?_
    refine HB.all (by repeat (first | exact Keep.nil | refine Keep.blk (by (repeat (first | exact List.Mem.head _ | apply List.Mem.tail)); done) rfl ?_ | refine Keep.grow (by (repeat (first | exact List.Mem.head _ | apply List.Mem.tail)); done) (by assumption) ?_ | refine Keep.base (by assumption) ?_)) [7] (by kernel_rfl) rfl ⟨⟨_, rfl, ?_⟩, trivial⟩
    refine HP.one ?_
    refine H1.callvk (α := Unit) (V := fun _ => .tuple #[]) (I := fun _ => True) (H' := fun _ => A.grow 215 2 (some ⟨bz, 0, none⟩) cz 1 (lnS xpab) :: A.blk b8 (vL 1 (some ⟨bz, 0, none⟩) cz) 160 :: A.blk e [.func (.func 140) #[] #[]] 218 :: A.blk b11 [zv 1, zv 0] 79 :: A.blk b9 (kC s e R) 166 :: A.blk b7 [zv 0] 57 :: A.blk b6 [.string ⟨#[]⟩] 9 :: []) (cap := [.pointer (some ⟨e, 0, none⟩)]) (vs := [.pointer (some ⟨b8, 0, none⟩), zv 0]) rfl rfl rfl (fun w' hM => (each1_fn (hM.sub (Hs.cons (Pick.there Pick.here) (Hs.cons (Pick.there Pick.here) (Hs.cons (Pick.there Pick.here) (Hs.cons Pick.here (Hs.refl _))))))).mono fun u w'' h => ⟨(), trivial, h.1, h.2⟩) ?_
    rintro - -
    apply HB.fold
    refine HB.done (by repeat (first | exact Keep.nil | refine Keep.blk (by (repeat (first | exact List.Mem.head _ | apply List.Mem.tail)); done) rfl ?_ | refine Keep.grow (by (repeat (first | exact List.Mem.head _ | apply List.Mem.tail)); done) (by assumption) ?_ | refine Keep.base (by assumption) ?_)) (by kernel_rfl) ?_
    refine hwF9 ?_
    exact HX.again 1 (Nat.le_refl _) (by show 1 - 1 < 1 - 0; decide) esA (by repeat (first | exact Hs.nil _ | (refine Hs.cons pickA ?_)))
  · obtain rfl : k = 1 := by omega
    unfold vL
    refine hwF9 ?_
    refine HL.one (H1.ldAgg (b := b8) (vs := vL 1 (some ⟨bz, 0, none⟩) cz) rfl memA rfl (fun i v hv => by rw [Nat.zero_add]; exact hv) rfl ?_)
    refine hwF9 ?_
    refine HL.one (H1.callx (u := .string xpb) (vs := [.agg #[.bool false, .slice (some ⟨bz, 0, none⟩) 1 cz, zv 0, zv 0, .string ⟨#[]⟩], zv 1]) rfl rfl (fun w' hM => awrite_fn _ w' (RdK.of_grow (xs := lnS xpab) hM (.head _))) ?_)
    refine hwF9 ?_
    refine HL.one (H1.st rfl rfl (by intro _ h; cases h) (by intro _ h; cases h) rplA (by exact Nat.zero_lt_one) ?_)
    refine hwF9 ?_
    refine HL.one (H1.st rfl rfl (by intro _ h; cases h) (by intro _ h; cases h) rplA (by exact Nat.zero_lt_one) ?_)
    refine hwF9 ?_
    refine HX.np_r ?_
    refine HX.doorA (u' := .returning) (R' := fun w w' => Ext w w') rfl (fun w hM => caught_no b6 b7) fun w1 w2 hM hx a ha => ?_
    have hM2 := hM.more hx
    exact ⟨.tuple #[.string xpb, zv 0], res_cellsT rfl ha rfl rfl ((hM2.blk (b := b6) (e := 9) memA).cell rfl) ((hM2.blk (b := b7) (e := 57) memA).cell rfl), _, rfl, rfl, hM2.ext⟩
def d4 (a b : Value) : List Value := [a, b, zv 0, .string ⟨#[]⟩]
theorem d4_one {a b : Value} (h1 : a.oneCell' = true) (h2 : b.oneCell' = true) : ∀ v ∈ d4 a b, v.oneCell' = true := by
  intro v hv
  simp only [d4, List.mem_cons, List.not_mem_nil, or_false] at hv
  rcases hv with rfl | rfl | rfl | rfl
  · exact h1
  · exact h2
  · rfl
  · rfl
set_option maxHeartbeats 4000000 in
theorem awake_fn (w : World) : Fn Tryz.prog 5 #[] w fun u w' => u = .bool true ∧ Ext w w' := by
  refine enterH (l := []) rfl Tryz.ntmps5 rfl ?_
  refine hwF9 ?_
  refine HL.build (cs := lnC (xpL 0)) rfl rfl rfl ?_
  refine hwF9 ?_
  refine HL.one (H1.lit (cs := lnC (xpL 0)) rfl rfl rfl rfl rfl rfl (fun b9 => ?_))
  refine hwF9 ?_
  refine HL.build (cs := clC (xpC 0)) rfl rfl rfl ?_
  refine hwF9 ?_
  refine HL.build (cs := clC (xpC 1)) rfl rfl rfl ?_
  refine hwF9 ?_
  refine HL.build (cs := clC (xpC 2)) rfl rfl rfl ?_
  refine hwF9 ?_
  refine HL.one (H1.lit (cs := clC (xpC 0) ++ clC (xpC 1) ++ clC (xpC 2)) rfl rfl rfl rfl rfl rfl (fun b13 => ?_))
  refine hwF9 ?_
  refine HL.build (cs := d4 (.slice (some ⟨b9, 0, none⟩) 1 1) (.slice (some ⟨b13, 0, none⟩) 3 3)) rfl rfl rfl ?_
  refine hwF9 ?_
  refine HL.one (H1.alloc (cs := d4 (.slice none 0 0) (.slice none 0 0)) rfl rfl (fun b1 => ?_))
  refine hwF9 ?_
  refine HL.one (H1.stAgg (b := b1) (cs := d4 (.slice none 0 0) (.slice none 0 0)) (vs := d4 (.slice (some ⟨b9, 0, none⟩) 1 1) (.slice (some ⟨b13, 0, none⟩) 3 3)) rfl rfl rfl (d4_one rfl rfl) rplA rfl ?_)
  have hL : ∀ w', Mm w [A.blk b1 (d4 (.slice (some ⟨b9, 0, none⟩) 1 1) (.slice (some ⟨b13, 0, none⟩) 3 3)) 54, A.blk b13 (clC (xpC 0) ++ clC (xpC 1) ++ clC (xpC 2)) 72, A.blk b9 (lnC (xpL 0)) 66] w' → RdK w' (.slice (some ⟨b9, 0, none⟩) 1 1) 1 2 fun i => lnC (xpL i) := fun w' hM =>
    RdK.of_blk (hM.blk (.tail _ (.tail _ (.head _)))) fun i hi j u hu => by
      obtain rfl : i = 0 := by omega
      rw [Nat.zero_mul, Nat.zero_add]; exact hu
  have hC : ∀ w', Mm w [A.blk b1 (d4 (.slice (some ⟨b9, 0, none⟩) 1 1) (.slice (some ⟨b13, 0, none⟩) 3 3)) 54, A.blk b13 (clC (xpC 0) ++ clC (xpC 1) ++ clC (xpC 2)) 72, A.blk b9 (lnC (xpL 0)) 66] w' → RdK w' (.slice (some ⟨b13, 0, none⟩) 3 3) 3 6 fun i => clC (xpC i) := fun w' hM =>
    RdK.of_blk (hM.blk (.tail _ (.head _))) fun i hi j u hu => by
      have hj : j < 6 := by
        have := (List.getElem?_eq_some_iff.1 hu).1
        simpa [clC] using this
      match i, hi with
      | 0, _ => rw [Nat.zero_mul, Nat.zero_add, List.append_assoc, List.getElem?_append_left (by simpa [clC] using hj)]; exact hu
      | 1, _ =>
        rw [List.append_assoc, List.getElem?_append_right (by simp [clC]), List.getElem?_append_left (by simp [clC]; omega)]
        have : 1 * 6 + j - (clC (xpC 0)).length = j := by simp [clC]
        rw [this]; exact hu
      | 2, _ =>
        rw [List.getElem?_append_right (by simp [clC])]
        have : 2 * 6 + j - (clC (xpC 0) ++ clC (xpC 1)).length = j := by simp [clC]
        rw [this]; exact hu
      | n + 3, h => omega
  refine hwF9 ?_
  refine HL.one (H1.ldAgg (b := b1) (vs := d4 (.slice (some ⟨b9, 0, none⟩) 1 1) (.slice (some ⟨b13, 0, none⟩) 3 3)) rfl memA rfl (fun i v hv => by rw [Nat.zero_add]; exact hv) rfl ?_)
  refine hwF9 ?_
  refine HL.one (H1.callx (u := .tuple #[zv 12, .bool true]) (vs := [_, _, _]) rfl rfl (fun w' hM => cvalue_fn _ _ w' (hL w' hM) (hC w' hM)) ?_)
  refine hwF9 ?_
  refine HL.one (H1.ldAgg (b := b1) (vs := d4 (.slice (some ⟨b9, 0, none⟩) 1 1) (.slice (some ⟨b13, 0, none⟩) 3 3)) rfl memA rfl (fun i v hv => by rw [Nat.zero_add]; exact hv) rfl ?_)
  refine hwF9 ?_
  refine HL.one (H1.callx (u := .tuple #[.string xpB, zv 0]) (vs := [_, _]) rfl rfl (fun w' hM => cprop_fn _ _ w' (hL w' hM) (hC w' hM)) ?_)
  refine hwF9 ?_
  refine HL.build (cs := [zv 1, zv 0]) rfl rfl rfl ?_
  refine hwF9 ?_
  refine HL.one (H1.lit (cs := [zv 1, zv 0]) rfl rfl rfl rfl rfl rfl (fun b27 => ?_))
  refine hwF9 ?_
  refine HL.one (H1.callx (u := .tuple #[.string xpb, zv 0]) (vs := [_, _, _]) rfl rfl (fun w' hM => apply_fn _ w' (RdK.of_blk (hM.blk (b := b27) (cs := [zv 1, zv 0]) memA) fun i hi j u hu => by
    obtain rfl : i = 0 := by omega
    rw [Nat.zero_mul, Nat.zero_add]; exact hu)) ?_)
  refine hwF9 ?_
  exact HX.ret1 rfl rfl fun w' hM => ⟨rfl, hM.ext⟩
end Go.Sx
/- Chapter 21: slices of arrays of numbers; fields of records that are set. Plain. -/
namespace Go.Sx
open Go
/-- A slice of arrays of numbers. -/
def RdA (sz : Nat) (w : World) (v : Value) (rows : List (List Int)) : Prop :=
  ∃ (a : Option Addr) (c : Nat), v = .slice a rows.length c ∧ rows.length ≤ c ∧ (rows = [] ∨ ∃ b off, a = some ⟨b, off, none⟩ ∧ b < w.heap.size ∧ ∀ i rw j u, (rows.map ints)[i]? = some rw → rw[j]? = some u → w.cell? ⟨b, off + i * sz + j, none⟩ = some u)
theorem RdA.ext {sz : Nat} {w w' : World} {v : Value} {rows : List (List Int)} (h : RdA sz w v rows) (k : Ext w w') : RdA sz w' v rows := by
  obtain ⟨a, c, h1, h2, h3⟩ := h
  refine ⟨a, c, h1, h2, ?_⟩
  rcases h3 with h3 | ⟨b, off, h3, h5, h6⟩
  · exact .inl h3
  · exact .inr ⟨b, off, h3, Nat.lt_of_lt_of_le h5 k.size, fun i row j u hi hu => cell_ext k (h6 i row j u hi hu)⟩
theorem RdA.shape {sz : Nat} {w : World} {v : Value} {rows : List (List Int)} (h : RdA sz w v rows) : ∃ a c, v = .slice a rows.length c ∧ rows.length ≤ c := by
  obtain ⟨a, c, h1, h2, -⟩ := h
  exact ⟨a, c, h1, h2⟩
theorem RdA.at {sz : Nat} {w : World} {a : Option Addr} {n c : Nat} {rows : List (List Int)} (h : RdA sz w (.slice a n c) rows) (hne : rows ≠ []) :
    ∃ b off, a = some ⟨b, off, none⟩ ∧ b < w.heap.size ∧ ∀ i y, rows[i]? = some y → ∀ j u, (ints y)[j]? = some u → w.cell? ⟨b, off + i * sz + j, none⟩ = some u := by
  obtain ⟨a', c', h1, h2, h3⟩ := h
  cases h1
  rcases h3 with h3 | ⟨b, off, h4, h5, h6⟩
  · exact absurd h3 hne
  · exact ⟨b, off, h4, h5, fun i y hy j u hu => h6 i (ints y) j u (by rw [List.getElem?_map, hy]; rfl) hu⟩
/-- A record with another value of a field. -/
def Rc.setF (r : Rc) (i : Nat) (n : Int) : Rc :=
  match i with
  | 0 => { r with id := n }
  | 1 => { r with start := n }
  | 2 => { r with stop := n }
  | 3 => { r with pack := n }
  | 4 => { r with person := n }
  | 5 => { r with role := n }
  | 6 => { r with purpose := n }
  | 7 => { r with clause := n }
  | 8 => { r with adm := decide (n = 1) }
  | 9 => { r with party := n }
  | _ => r
theorem setF_get (r : Rc) {i j : Nat} (hi : i < 10) (hj : j < 10) (n : Int) (h8 : i = 8 → n = 0 ∨ n = 1) : (r.setF i n).get j = if i = j then n else r.get j := by
  rcases ten hi with rfl | rfl | rfl | rfl | rfl | rfl | rfl | rfl | rfl | rfl <;> rcases ten hj with rfl | rfl | rfl | rfl | rfl | rfl | rfl | rfl | rfl | rfl <;> first | rfl | (rcases h8 rfl with rfl | rfl <;> rfl)
theorem setF_same (r : Rc) (i : Nat) (n : Int) : (r.setF i n).kind = r.kind ∧ (r.setF i n).version = r.version ∧ (r.setF i n).day = r.day ∧ (r.setF i n).gone = r.gone ∧ (r.setF i n).text = r.text := by
  unfold Rc.setF
  split <;> exact ⟨rfl, rfl, rfl, rfl, rfl⟩
/-- A record of which some fields are set. -/
structure SomeI (L : List (Nat × Int × Int)) (r : Rc) : Prop where
  kind : 1 ≤ r.kind ∧ r.kind ≤ 8
  ver : 1 ≤ r.version ∧ r.version ≤ 3
  day : 0 ≤ r.day ∧ r.day ≤ 29
  text : r.text = ByteArray.mk #[]
  lim : ∀ p ∈ L, p.2.1 ≤ r.get p.1 ∧ r.get p.1 ≤ p.2.2
  zero : ∀ i, i < 10 → i ∉ L.map Prod.fst → r.get i = 0
  start : 0 ≤ r.start ∧ r.start ≤ 39
  span : 2 ∈ L.map Prod.fst → r.start ≤ r.stop
theorem SomeI.step {L : List (Nat × Int × Int)} {r : Rc} (h : SomeI L r) {p : Nat × Int × Int} (hp : p.1 < 10) (hno : p.1 ∉ L.map Prod.fst) {n : Int} (hn : p.2.1 ≤ n ∧ n ≤ p.2.2) (h8 : p.1 = 8 → n = 0 ∨ n = 1) (h1 : p.1 = 1 → (0 ≤ n ∧ n ≤ 39) ∧ 2 ∉ L.map Prod.fst) (h2 : p.1 = 2 → r.start ≤ n)
    (hl10 : ∀ q ∈ L, q.1 < 10) : SomeI (L ++ [p]) (r.setF p.1 n) := by
  obtain ⟨e1, e2, e3, e4, e5⟩ := setF_same r p.1 n
  have hg : ∀ j, j < 10 → (r.setF p.1 n).get j = if p.1 = j then n else r.get j := fun j hj => setF_get r hp hj n h8
  have hst : (r.setF p.1 n).start = if p.1 = 1 then n else r.start := hg 1 (by decide)
  have hsp : (r.setF p.1 n).stop = if p.1 = 2 then n else r.stop := hg 2 (by decide)
  refine ⟨by rw [e1]; exact h.kind, by rw [e2]; exact h.ver, by rw [e3]; exact h.day, by rw [e5]; exact h.text, fun q hq => ?_, fun i hi hm => ?_, ?_, fun hm => ?_⟩
  · rcases List.mem_append.1 hq with hq | hq
    · rw [hg q.1 (hl10 q hq), if_neg (fun e : p.1 = q.1 => hno (List.mem_map.2 ⟨q, hq, e.symm⟩))]
      exact h.lim q hq
    · obtain rfl := List.mem_singleton.1 hq
      rw [hg q.1 hp, if_pos rfl]; exact hn
  · rw [List.map_append, List.mem_append, not_or] at hm
    rw [hg i hi, if_neg (fun e => hm.2 (by simp [e]))]
    exact h.zero i hi hm.1
  · rw [hst]
    split
    · rename_i e; exact (h1 e).1
    · exact h.start
  · rw [hst, hsp]
    rw [List.map_append, List.mem_append] at hm
    by_cases e2' : p.1 = 2
    · have e1' : p.1 ≠ 1 := by omega
      rw [if_neg e1', if_pos e2']; exact h2 e2'
    · have hm2 : 2 ∈ L.map Prod.fst := hm.resolve_right fun hx => e2' ((List.mem_singleton.1 hx).symm)
      by_cases e1' : p.1 = 1
      · exact absurd hm2 (h1 e1').2
      · rw [if_neg e1', if_neg e2']; exact h.span hm2
/-- What Some makes. -/
structure SomeOk (r : Rc) : Prop where
  valid : ValidR r
  ver : r.version ≤ 3
  day : r.day ≤ 29
  text : r.text = ByteArray.mk #[]
theorem spec_two {k : Int} (h : 1 ≤ k ∧ k ≤ 8) (h6 : k ≠ 6) (h8 : k ≠ 8) : 2 ∈ (specF k).map Prod.fst := by
  rcases (show k = 1 ∨ k = 2 ∨ k = 3 ∨ k = 4 ∨ k = 5 ∨ k = 7 by omega) with rfl | rfl | rfl | rfl | rfl | rfl <;> decide
theorem SomeI.done {r : Rc} (h : SomeI (specF r.kind) r) (hc : r.kind = 2 → r.clause ≠ r.party) : SomeOk r :=
  ⟨⟨h.kind, ⟨h.ver.1, by have := h.ver.2; omega⟩, ⟨h.day.1, by have := h.day.2; omega⟩, by rw [h.text]; decide, ⟨fun h6 h8 => h.span (spec_two h.kind h6 h8), hc⟩, h.lim, h.zero⟩, h.ver.2, h.day.2, h.text⟩
theorem SomeI.done2 {r : Rc} (h : SomeI (specF r.kind) r) (hk : r.kind = 2) : SomeOk (r.setF 9 0) := by
  have hsp : specF r.kind = [(7, 1, 1000000), (1, 0, 100000), (2, 0, 100000), (3, 0, 1000000), (5, 0, 1000000), (6, 0, 1000000), (8, 0, 1), (9, 0, 1000000)] := by rw [hk]; rfl
  have hg : ∀ j, j < 10 → (r.setF 9 0).get j = if 9 = j then 0 else r.get j := fun j hj => setF_get r (by decide) hj 0 (by omega)
  have hcl := h.lim (7, 1, 1000000) (by rw [hsp]; decide)
  have h' : SomeI (specF (r.setF 9 0).kind) (r.setF 9 0) := by
    refine ⟨h.kind, h.ver, h.day, h.text, fun p hp => ?_, fun i hi hm => ?_, h.start, h.span⟩
    · have hp' : p ∈ specF r.kind := hp
      have hl := h.lim p hp'
      rw [hg p.1 (spec_lo hp').2]
      split
      · rename_i e
        rw [hsp] at hp'
        simp only [List.mem_cons, List.not_mem_nil, or_false] at hp'
        rcases hp' with rfl | rfl | rfl | rfl | rfl | rfl | rfl | rfl <;> first | exact absurd e (by decide) | exact ⟨Int.le_refl _, of_decide_eq_true rfl⟩
      · exact hl
    · rw [hg i hi]
      split
      · rfl
      · exact h.zero i hi hm
  refine h'.done fun _ => ?_
  show r.clause ≠ 0
  have : 1 ≤ r.clause := hcl.1
  omega
end Go.Sx
/- Chapter 21: equality of lists of records, of bases; picked numbers. -/
namespace Go.Sx
open Go Go.Proofs Go.RowKit
noncomputable def eqR (r s : Rc) : Bool := @decide (r = s) (Classical.propDecidable _)
noncomputable def eqLB (l m : List Rc) : Bool := @decide (l = m) (Classical.propDecidable _)
/-- A number, as an index. -/
def pickI21 (c n : Int) : Int := if c < 0 then (-(c + 1)) % n else c % n
theorem pickI21_lt (c : Int) {n : Int} (hn : 0 < n) : 0 ≤ pickI21 c n ∧ pickI21 c n < n := by
  unfold pickI21
  split
  · exact ⟨Int.emod_nonneg _ (by omega), Int.emod_lt_of_pos _ hn⟩
  · exact ⟨Int.emod_nonneg _ (by omega), Int.emod_lt_of_pos _ hn⟩
attribute [local irreducible] WC WL WX POp Then Again Fn NX W1 WA WO QL RP RA Yld LoopAt HC HL HX HN H1 HA HO HQ HB HP A.blk A.grow A.rd A.obj A.mp AgainH CutH
attribute [local irreducible] A.dfr A.loop
theorem pick20_fn (c n : Int) (h1 : -9223372036854775808 ≤ c) (h2 : c ≤ 9223372036854775807) (hn : 0 < n) (w : World) : Fn Tryz.prog 27 #[zv c, zv n] w fun v w' => v = zv (pickI21 c n) ∧ w = w' := by
  refine enter (l := [_, _]) rfl Tryz.ntmps27 rfl ?_
  by_cases h : c < 0
  · repeat' (first | apply WL.fold | apply WA.fold | apply WL.nil | apply WX.n_then | apply WC.seq | apply WC.region | refine WL.pa ?_ | refine WL.ga rfl ?_ | refine WL.na rfl ?_ | refine WL.nu rfl rfl ?_ | apply WC.block | apply WC.skip | apply WC.exit | apply WC.ret | apply WX.e_block | refine WX.e_other rfl ?_ | apply WX.e_then | apply WX.e_again | apply WX.n_block | apply WX.r_then | apply WX.r_block | apply WX.r_again | refine WC.cond_yes rfl ?_ | refine WC.cond_no rfl ?_ | refine WC.cond rfl (fun hc => ?_) (fun hc => ?_) | refine WC.cond_b rfl (fun hc => ?_) (fun hc => ?_))
    exact WX.ret1 rfl rfl ⟨by rw [pickI21, if_pos h], rfl⟩
  · repeat' (first | apply WL.fold | apply WA.fold | apply WL.nil | apply WX.n_then | apply WC.seq | apply WC.region | refine WL.pa ?_ | refine WL.ga rfl ?_ | refine WL.na rfl ?_ | refine WL.nu rfl rfl ?_ | apply WC.block | apply WC.skip | apply WC.exit | apply WC.ret | apply WX.e_block | refine WX.e_other rfl ?_ | apply WX.e_then | apply WX.e_again | apply WX.n_block | apply WX.r_then | apply WX.r_block | apply WX.r_again | refine WC.cond_yes rfl ?_ | refine WC.cond_no rfl ?_ | refine WC.cond rfl (fun hc => ?_) (fun hc => ?_) | refine WC.cond_b rfl (fun hc => ?_) (fun hc => ?_))
    exact WX.ret1 rfl rfl ⟨by rw [pickI21, if_neg h], rfl⟩
/-- Two bases are equal. -/
def EqB (A B : Nat → List Rc) : Prop := ∀ i, i < 8 → A i = B i
noncomputable def eqBB (A B : Nat → List Rc) : Bool := @decide (EqB A B) (Classical.propDecidable _)
end Go.Sx
/- Chapter 20's reference: Fields, Limits, Set. -/
namespace Go.Sx
open Go Go.Proofs Go.RowKit
theorem hwV2 {G G2 : Prop} (x : G2) (hwq : Hold G2 → G := by
    intro hQq
    repeat' (first | apply HL.fold | apply HA.fold | apply HL.nil | apply HX.n_then | apply HC.seq | apply HC.region | refine HL.pa ?_ | refine HL.ga rfl ?_ | refine HL.na rfl ?_ | refine HL.nu rfl rfl ?_ | apply HC.block | apply HC.skip | apply HC.exit | apply HC.ret | apply HX.e_block | refine HX.e_other rfl ?_ | apply HX.e_then | apply HX.e_again | apply HX.n_block | apply HX.r_then | apply HX.r_block | apply HX.r_again | refine HC.cond_yes rfl ?_ | refine HC.cond_no rfl ?_ | refine HL.one (H1.ldb rfl memA rfl rfl ?_) | refine HC.cond rfl (fun hc => ?_) (fun hc => ?_) | refine HC.cond_b rfl (fun hc => ?_) (fun hc => ?_))
    exact hQq.get) : G := hwq ⟨x⟩
def fldN (k : Int) : List Int := (specF k).map fun p => (p.1 : Int)
attribute [local irreducible] WC WL WX POp Then Again Fn NX W1 WA WO QL RP RA Yld LoopAt HC HL HX HN H1 HA HO HQ HB HP A.blk A.grow A.rd A.obj A.mp AgainH CutH
theorem Fields_fn (k : Int) (hk : 1 ≤ k ∧ k ≤ 8) (w : World) : Fn Tryz.prog 28 #[zv k] w fun v w' => ∃ b : Nat, True ∧ v = .slice (some ⟨b, 0, none⟩) (specF k).length (specF k).length ∧ Mm w [A.blk b (ints (fldN k)) 3] w' := by
  refine enterH (l := [_]) rfl Tryz.ntmps28 rfl ?_
  rcases (show k = 1 ∨ k = 2 ∨ k = 3 ∨ k = 4 ∨ k = 5 ∨ k = 6 ∨ k = 7 ∨ k = 8 by omega) with rfl | rfl | rfl | rfl | rfl | rfl | rfl | rfl
  · refine hwV2 ?_
    refine HL.one (H1.lit (cs := ints (fldN 1)) rfl rfl rfl rfl rfl rfl (fun b => ?_))
    refine hwV2 ?_
    exact HX.ret1 rfl rfl fun w' hM => ⟨b, trivial, rfl, hM⟩
  · refine hwV2 ?_
    refine HL.one (H1.lit (cs := ints (fldN 2)) rfl rfl rfl rfl rfl rfl (fun b => ?_))
    refine hwV2 ?_
    exact HX.ret1 rfl rfl fun w' hM => ⟨b, trivial, rfl, hM⟩
  · refine hwV2 ?_
    refine HL.one (H1.lit (cs := ints (fldN 3)) rfl rfl rfl rfl rfl rfl (fun b => ?_))
    refine hwV2 ?_
    exact HX.ret1 rfl rfl fun w' hM => ⟨b, trivial, rfl, hM⟩
  · refine hwV2 ?_
    refine HL.one (H1.lit (cs := ints (fldN 4)) rfl rfl rfl rfl rfl rfl (fun b => ?_))
    refine hwV2 ?_
    exact HX.ret1 rfl rfl fun w' hM => ⟨b, trivial, rfl, hM⟩
  · refine hwV2 ?_
    refine HL.one (H1.lit (cs := ints (fldN 5)) rfl rfl rfl rfl rfl rfl (fun b => ?_))
    refine hwV2 ?_
    exact HX.ret1 rfl rfl fun w' hM => ⟨b, trivial, rfl, hM⟩
  · refine hwV2 ?_
    refine HL.one (H1.lit (cs := ints (fldN 6)) rfl rfl rfl rfl rfl rfl (fun b => ?_))
    refine hwV2 ?_
    exact HX.ret1 rfl rfl fun w' hM => ⟨b, trivial, rfl, hM⟩
  · refine hwV2 ?_
    refine HL.one (H1.lit (cs := ints (fldN 7)) rfl rfl rfl rfl rfl rfl (fun b => ?_))
    refine hwV2 ?_
    exact HX.ret1 rfl rfl fun w' hM => ⟨b, trivial, rfl, hM⟩
  · refine hwV2 ?_
    refine HL.one (H1.lit (cs := ints (fldN 8)) rfl rfl rfl rfl rfl rfl (fun b => ?_))
    refine hwV2 ?_
    exact HX.ret1 rfl rfl fun w' hM => ⟨b, trivial, rfl, hM⟩
set_option maxHeartbeats 2000000 in
theorem Limits_fn (k : Int) (hk : 1 ≤ k ∧ k ≤ 8) (p : Nat × Int × Int) (hp : p ∈ specF k) (w : World) : Fn Tryz.prog 29 #[zv k, zv (p.1 : Int)] w fun v w' => v = .tuple #[zv p.2.1, zv p.2.2] ∧ Ext w w' := by
  refine enterH (l := [_, _]) rfl Tryz.ntmps29 rfl ?_
  rcases (show k = 1 ∨ k = 2 ∨ k = 3 ∨ k = 4 ∨ k = 5 ∨ k = 6 ∨ k = 7 ∨ k = 8 by omega) with rfl | rfl | rfl | rfl | rfl | rfl | rfl | rfl
  · change p ∈ [(0, (1 : Int), (1000000 : Int)), (1, 0, 100000), (2, 0, 100000), (4, 1, 1000000), (5, 1, 1000000)] at hp
    simp only [List.mem_cons, List.not_mem_nil, or_false] at hp
    rcases hp with rfl | rfl | rfl | rfl | rfl <;> ((refine hwV2 ?_); exact HX.ret2 rfl rfl rfl fun w' hM => ⟨rfl, hM.ext⟩)
  · change p ∈ [(7, (1 : Int), (1000000 : Int)), (1, 0, 100000), (2, 0, 100000), (3, 0, 1000000), (5, 0, 1000000), (6, 0, 1000000), (8, 0, 1), (9, 0, 1000000)] at hp
    simp only [List.mem_cons, List.not_mem_nil, or_false] at hp
    rcases hp with rfl | rfl | rfl | rfl | rfl | rfl | rfl | rfl <;> ((refine hwV2 ?_); exact HX.ret2 rfl rfl rfl fun w' hM => ⟨rfl, hM.ext⟩)
  · change p ∈ [(0, (1 : Int), (1000000 : Int)), (1, 0, 100000), (2, 0, 100000), (3, 1, 1000000), (6, 0, 1000000), (9, 1, 1000000)] at hp
    simp only [List.mem_cons, List.not_mem_nil, or_false] at hp
    rcases hp with rfl | rfl | rfl | rfl | rfl | rfl <;> ((refine hwV2 ?_); exact HX.ret2 rfl rfl rfl fun w' hM => ⟨rfl, hM.ext⟩)
  · change p ∈ [(0, (1 : Int), (1000000 : Int)), (1, 0, 100000), (2, 0, 100000), (3, 1, 1000000)] at hp
    simp only [List.mem_cons, List.not_mem_nil, or_false] at hp
    rcases hp with rfl | rfl | rfl | rfl <;> ((refine hwV2 ?_); exact HX.ret2 rfl rfl rfl fun w' hM => ⟨rfl, hM.ext⟩)
  · change p ∈ [(0, (1 : Int), (1000000 : Int)), (1, 0, 100000), (2, 0, 100000), (3, 0, 1000000)] at hp
    simp only [List.mem_cons, List.not_mem_nil, or_false] at hp
    rcases hp with rfl | rfl | rfl | rfl <;> ((refine hwV2 ?_); exact HX.ret2 rfl rfl rfl fun w' hM => ⟨rfl, hM.ext⟩)
  · change p ∈ [(9, (1 : Int), (1000000 : Int)), (1, 0, 100000)] at hp
    simp only [List.mem_cons, List.not_mem_nil, or_false] at hp
    rcases hp with rfl | rfl <;> ((refine hwV2 ?_); exact HX.ret2 rfl rfl rfl fun w' hM => ⟨rfl, hM.ext⟩)
  · change p ∈ [(0, (1 : Int), (1000000 : Int)), (1, 0, 100000), (2, 0, 100000), (3, 1, 1000000), (6, 0, 1000000), (7, 0, 63)] at hp
    simp only [List.mem_cons, List.not_mem_nil, or_false] at hp
    rcases hp with rfl | rfl | rfl | rfl | rfl | rfl <;> ((refine hwV2 ?_); exact HX.ret2 rfl rfl rfl fun w' hM => ⟨rfl, hM.ext⟩)
  · change p ∈ [(0, (1 : Int), (1000000 : Int)), (1, 0, 100000), (3, 1, 1000000), (7, 1, 1000000)] at hp
    simp only [List.mem_cons, List.not_mem_nil, or_false] at hp
    rcases hp with rfl | rfl | rfl | rfl <;> ((refine hwV2 ?_); exact HX.ret2 rfl rfl rfl fun w' hM => ⟨rfl, hM.ext⟩)
set_option maxHeartbeats 2000000 in
theorem Set_fn (r : Rc) (i : Nat) (hi : i < 10) (n : Int) (w : World) : Fn Tryz.prog 30 #[recV r, zv (i : Int), zv n] w fun v w' => v = recV (r.setF i n) ∧ Ext w w' := by
  refine enterH (l := [_, _, _]) rfl Tryz.ntmps30 rfl ?_
  refine hwV2 ?_
  refine HL.one (H1.boxAgg (cs := rcells r) rfl rfl (fun b3 => ?_))
  refine hwV2 ?_
  refine HL.one (H1.alloc (cs := rcells rcZ) rfl rfl (fun b6 => ?_))
  apply HL.fold
  rcases ten hi with rfl | rfl | rfl | rfl | rfl | rfl | rfl | rfl | rfl | rfl
  · refine hwV2 ?_
    refine HL.one (H1.st (b := b3) rfl rfl (by intro _ h; cases h) (by intro _ h; cases h) rplA (of_decide_eq_true rfl) ?_)
    refine hwV2 ?_
    refine HL.one (H1.ldAgg (vs := rcells (r.setF 0 n)) rfl memA rfl (fun i v hv => by simp only [Nat.zero_add]; exact hv) rfl ?_)
    refine hwV2 ?_
    refine HL.one (H1.stAgg (cs := rcells rcZ) (vs := rcells (r.setF 0 n)) rfl rfl rfl (rcells_one _) rplA rfl ?_)
    refine hwV2 ?_
    exact HX.retc1 (cs := rcells (r.setF 0 n)) rfl rfl memA rfl fun w' hM => ⟨rfl, hM.ext⟩
  · refine hwV2 ?_
    refine HL.one (H1.st (b := b3) rfl rfl (by intro _ h; cases h) (by intro _ h; cases h) rplA (of_decide_eq_true rfl) ?_)
    refine hwV2 ?_
    refine HL.one (H1.ldAgg (vs := rcells (r.setF 1 n)) rfl memA rfl (fun i v hv => by simp only [Nat.zero_add]; exact hv) rfl ?_)
    refine hwV2 ?_
    refine HL.one (H1.stAgg (cs := rcells rcZ) (vs := rcells (r.setF 1 n)) rfl rfl rfl (rcells_one _) rplA rfl ?_)
    refine hwV2 ?_
    exact HX.retc1 (cs := rcells (r.setF 1 n)) rfl rfl memA rfl fun w' hM => ⟨rfl, hM.ext⟩
  · refine hwV2 ?_
    refine HL.one (H1.st (b := b3) rfl rfl (by intro _ h; cases h) (by intro _ h; cases h) rplA (of_decide_eq_true rfl) ?_)
    refine hwV2 ?_
    refine HL.one (H1.ldAgg (vs := rcells (r.setF 2 n)) rfl memA rfl (fun i v hv => by simp only [Nat.zero_add]; exact hv) rfl ?_)
    refine hwV2 ?_
    refine HL.one (H1.stAgg (cs := rcells rcZ) (vs := rcells (r.setF 2 n)) rfl rfl rfl (rcells_one _) rplA rfl ?_)
    refine hwV2 ?_
    exact HX.retc1 (cs := rcells (r.setF 2 n)) rfl rfl memA rfl fun w' hM => ⟨rfl, hM.ext⟩
  · refine hwV2 ?_
    refine HL.one (H1.st (b := b3) rfl rfl (by intro _ h; cases h) (by intro _ h; cases h) rplA (of_decide_eq_true rfl) ?_)
    refine hwV2 ?_
    refine HL.one (H1.ldAgg (vs := rcells (r.setF 3 n)) rfl memA rfl (fun i v hv => by simp only [Nat.zero_add]; exact hv) rfl ?_)
    refine hwV2 ?_
    refine HL.one (H1.stAgg (cs := rcells rcZ) (vs := rcells (r.setF 3 n)) rfl rfl rfl (rcells_one _) rplA rfl ?_)
    refine hwV2 ?_
    exact HX.retc1 (cs := rcells (r.setF 3 n)) rfl rfl memA rfl fun w' hM => ⟨rfl, hM.ext⟩
  · refine hwV2 ?_
    refine HL.one (H1.st (b := b3) rfl rfl (by intro _ h; cases h) (by intro _ h; cases h) rplA (of_decide_eq_true rfl) ?_)
    refine hwV2 ?_
    refine HL.one (H1.ldAgg (vs := rcells (r.setF 4 n)) rfl memA rfl (fun i v hv => by simp only [Nat.zero_add]; exact hv) rfl ?_)
    refine hwV2 ?_
    refine HL.one (H1.stAgg (cs := rcells rcZ) (vs := rcells (r.setF 4 n)) rfl rfl rfl (rcells_one _) rplA rfl ?_)
    refine hwV2 ?_
    exact HX.retc1 (cs := rcells (r.setF 4 n)) rfl rfl memA rfl fun w' hM => ⟨rfl, hM.ext⟩
  · refine hwV2 ?_
    refine HL.one (H1.st (b := b3) rfl rfl (by intro _ h; cases h) (by intro _ h; cases h) rplA (of_decide_eq_true rfl) ?_)
    refine hwV2 ?_
    refine HL.one (H1.ldAgg (vs := rcells (r.setF 5 n)) rfl memA rfl (fun i v hv => by simp only [Nat.zero_add]; exact hv) rfl ?_)
    refine hwV2 ?_
    refine HL.one (H1.stAgg (cs := rcells rcZ) (vs := rcells (r.setF 5 n)) rfl rfl rfl (rcells_one _) rplA rfl ?_)
    refine hwV2 ?_
    exact HX.retc1 (cs := rcells (r.setF 5 n)) rfl rfl memA rfl fun w' hM => ⟨rfl, hM.ext⟩
  · refine hwV2 ?_
    refine HL.one (H1.st (b := b3) rfl rfl (by intro _ h; cases h) (by intro _ h; cases h) rplA (of_decide_eq_true rfl) ?_)
    refine hwV2 ?_
    refine HL.one (H1.ldAgg (vs := rcells (r.setF 6 n)) rfl memA rfl (fun i v hv => by simp only [Nat.zero_add]; exact hv) rfl ?_)
    refine hwV2 ?_
    refine HL.one (H1.stAgg (cs := rcells rcZ) (vs := rcells (r.setF 6 n)) rfl rfl rfl (rcells_one _) rplA rfl ?_)
    refine hwV2 ?_
    exact HX.retc1 (cs := rcells (r.setF 6 n)) rfl rfl memA rfl fun w' hM => ⟨rfl, hM.ext⟩
  · refine hwV2 ?_
    refine HL.one (H1.st (b := b3) rfl rfl (by intro _ h; cases h) (by intro _ h; cases h) rplA (of_decide_eq_true rfl) ?_)
    refine hwV2 ?_
    refine HL.one (H1.ldAgg (vs := rcells (r.setF 7 n)) rfl memA rfl (fun i v hv => by simp only [Nat.zero_add]; exact hv) rfl ?_)
    refine hwV2 ?_
    refine HL.one (H1.stAgg (cs := rcells rcZ) (vs := rcells (r.setF 7 n)) rfl rfl rfl (rcells_one _) rplA rfl ?_)
    refine hwV2 ?_
    exact HX.retc1 (cs := rcells (r.setF 7 n)) rfl rfl memA rfl fun w' hM => ⟨rfl, hM.ext⟩
  · refine hwV2 ?_
    refine HL.one (H1.st (b := b3) rfl rfl (by intro _ h; cases h) (by intro _ h; cases h) rplA (of_decide_eq_true rfl) ?_)
    refine hwV2 ?_
    refine HL.one (H1.ldAgg (vs := rcells (r.setF 8 n)) rfl memA rfl (fun i v hv => by simp only [Nat.zero_add]; exact hv) rfl ?_)
    refine hwV2 ?_
    refine HL.one (H1.stAgg (cs := rcells rcZ) (vs := rcells (r.setF 8 n)) rfl rfl rfl (rcells_one _) rplA rfl ?_)
    refine hwV2 ?_
    exact HX.retc1 (cs := rcells (r.setF 8 n)) rfl rfl memA rfl fun w' hM => ⟨rfl, hM.ext⟩
  · refine hwV2 ?_
    refine HL.one (H1.st (b := b3) rfl rfl (by intro _ h; cases h) (by intro _ h; cases h) rplA (of_decide_eq_true rfl) ?_)
    refine hwV2 ?_
    refine HL.one (H1.ldAgg (vs := rcells (r.setF 9 n)) rfl memA rfl (fun i v hv => by simp only [Nat.zero_add]; exact hv) rfl ?_)
    refine hwV2 ?_
    refine HL.one (H1.stAgg (cs := rcells rcZ) (vs := rcells (r.setF 9 n)) rfl rfl rfl (rcells_one _) rplA rfl ?_)
    refine hwV2 ?_
    exact HX.retc1 (cs := rcells (r.setF 9 n)) rfl rfl memA rfl fun w' hM => ⟨rfl, hM.ext⟩
end Go.Sx
