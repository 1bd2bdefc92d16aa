/- Chapter 1: numbers and strings that are read back: the walks. -/
import Derived.Test.YtionfblneloaiaaGreatDoorJP
import Derived.Test.YtionfblneloaiaaGreatDoorDW
namespace Go.Sx
open Go Go.Proofs Go.RowKit
theorem bits_and_u8 (a b : Nat) (ha : a < 256) (hb : b < 256) : bits .and .u8 (a : Int) (b : Int) = ((a &&& b : Nat) : Int) := by
  show IntKind.u8.wrap (((BitVec.ofInt 8 a &&& BitVec.ofInt 8 b).toNat : Nat) : Int) = _
  have h1 : (BitVec.ofInt 8 (a : Int)).toNat = a := by simp; omega
  have h2 : (BitVec.ofInt 8 (b : Int)).toNat = b := by simp; omega
  have h3 : a &&& b < 256 := Nat.lt_of_le_of_lt Nat.and_le_left ha
  rw [BitVec.toNat_and, h1, h2]
  exact wrap_u8 (by omega) (by omega)
theorem POp.and8 {P : Program} {N : Nat} {ds : List Deferred} {E : Env} {t t' ty : TypeId} {x y : Operand} {m n : Int} {a b : Nat} (hx : Env.ev E x = some (.int .u8 m)) (hy : Env.ev E y = some (.int .u8 n)) (em : m = (a : Int)) (en : n = (b : Int)) (h1 : a < 256) (h2 : b < 256) :
    POp P N ds E (.binOp .and t x y t') ty (.int .u8 ((a &&& b : Nat) : Int)) := POp.bin hx hy guard_int fun w => by
  subst em; subst en
  rw [binOp_and, intBits_and, bits_and_u8 a b h1 h2]; rfl
theorem bits_zz {a : Nat} (ha : a < 9223372036854775808) : bits .xor .i64 (a : Int) (-1) = -(a : Int) - 1 := by
  show IntKind.i64.wrap (((BitVec.ofInt 64 a ^^^ BitVec.ofInt 64 (-1)).toNat : Nat) : Int) = _
  rw [show BitVec.ofInt 64 (-1) = BitVec.allOnes 64 from by decide, BitVec.xor_allOnes]
  have h1 : (BitVec.ofInt 64 (a : Int)).toNat = a := ofInt_toNat a (by omega)
  rw [BitVec.toNat_not, h1]
  simp [IntKind.wrap, IntKind.bits, IntKind.signed]
  omega
theorem POp.zz {P : Program} {N : Nat} {ds : List Deferred} {E : Env} {t t' ty : TypeId} {x y : Operand} {z : Nat} (hx : Env.ev E x = some (zv ((z / 2 : Nat) : Int))) (hy : Env.ev E y = some (zv (-((z % 2 : Nat) : Int)))) (hz : z < 18446744073709551616) :
    POp P N ds E (.binOp .xor t x y t') ty (zv (unz z)) := POp.bin hx hy guard_int fun w => by
  unfold unz
  by_cases h : z % 2 = 0
  · rw [if_pos h, h]
    have e : bits .xor .i64 ((z / 2 : Nat) : Int) (-((0 : Nat) : Int)) = ((z / 2 : Nat) : Int) := by
      have := bits_xor_nat (z / 2) 0 (by omega) (by omega)
      rw [Nat.xor_zero] at this
      exact this
    rw [binOp_xor, intBits_xor, e]; rfl
  · have h1 : z % 2 = 1 := by omega
    rw [if_neg h, h1]
    have e : bits .xor .i64 ((z / 2 : Nat) : Int) (-((1 : Nat) : Int)) = -((z / 2 : Nat) : Int) - 1 := bits_zz (by omega)
    rw [binOp_xor, intBits_xor, e]; rfl
theorem or_shl {z g k : Nat} (h : z < 2 ^ k) : z ||| (g <<< k) = z + g * 2 ^ k := by
  have e := Nat.two_pow_add_eq_or_of_lt (i := k) (b := z) h g
  rw [Nat.shiftLeft_eq, Nat.or_comm, Nat.mul_comm g, ← e, Nat.add_comm]
def intV : Option (Nat × Nat) → Value
  | some (z, q) => .tuple #[zv (unz z), zv (q : Int), zv 0]
  | none => .tuple #[zv 0, zv 0, zv 10]
def strV : Option (List UInt8 × Nat) → Value
  | some (r, q) => .tuple #[.string (mkBA r), zv (q : Int), zv 0]
  | none => .tuple #[.string (mkBA []), zv 0, zv 10]
theorem WX.ret3 {P : Program} {N : Nat} {E : Env} {w : World} {fn : Func} {t1 t2 t3 : Nat} {v1 v2 v3 : Value} {R : Value → World → Prop} (hr : fn.results = #[.tmp t1, .tmp t2, .tmp t3]) (h1 : Env.g E t1 = some v1) (h2 : Env.g E t2 = some v2) (h3 : Env.g E t3 = some v3) (h : R (.tuple #[v1, v2, v3]) w) :
    WX N [] .ret (bodyPost P fn (RetP R)) E w := fun a ha => by
  refine ⟨ha.defers, .tuple #[v1, v2, v3], ?_, ⟨_, rfl, h⟩⟩
  have e1 : a.tmps.getD t1 undef = v1 := by rw [Array.getD_eq_getD_getElem?, ha.get _ _ h1]; rfl
  have e2 : a.tmps.getD t2 undef = v2 := by rw [Array.getD_eq_getD_getElem?, ha.get _ _ h2]; rfl
  have e3 : a.tmps.getD t3 undef = v3 := by rw [Array.getD_eq_getD_getElem?, ha.get _ _ h3]; rfl
  have e1' : a.tmps[t1]?.getD undef = v1 := by simpa using e1
  have e2' : a.tmps[t2]?.getD undef = v2 := by simpa using e2
  have e3' : a.tmps[t3]?.getD undef = v3 := by simpa using e3
  simp [results, hr, e1', e2', e3']
attribute [local irreducible] WC WL WX POp Then Again Fn NX W1 WA WO QL RP RA Yld LoopAt HC HL HX HN H1 HA HO HQ HB HP A.blk A.grow A.rd A.obj A.mp AgainH CutH
attribute [local irreducible] unz
set_option maxHeartbeats 4000000 in
theorem int_fn (s : ByteArray) (p : Nat) (hp : p ≤ s.size) (hs : s.size ≤ 5000000) (w : World) : Fn Tryz.prog 161 #[.string s, zv (p : Int)] w fun v w' => v = intV (decI s.data.toList p) ∧ w = w' := by
  have hlen : s.data.toList.length = s.size := by rw [Array.length_toList]; rfl
  refine enter (l := [_, _]) rfl Tryz.ntmps161 rfl ?_
  repeat' (first | apply WL.fold | apply WA.fold | apply WL.nil | apply WX.n_then | apply WC.seq | apply WC.region | refine WL.pa ?_ | refine WL.ga rfl ?_ | refine WL.na rfl ?_ | refine WL.nu rfl rfl ?_ | apply WC.block | apply WC.skip | apply WC.exit | apply WC.ret | apply WX.e_block | refine WX.e_other rfl ?_ | apply WX.e_then | apply WX.e_again | apply WX.n_block | apply WX.r_then | apply WX.r_block | apply WX.r_again | refine WC.cond_yes rfl ?_ | refine WC.cond_no rfl ?_ | refine WC.cond rfl (fun hc => ?_) (fun hc => ?_) | refine WC.cond_b rfl (fun hc => ?_) (fun hc => ?_))
  refine WC.loop (α := Nat × Nat) (fun x => [(0, .string s), (1, zv (p : Int)), (7, .int .u64 (x.2 : Int)), (19, zv (x.1 : Int))])
    (fun x w' => w' = w ∧ x.1 ≤ 9 ∧ x.2 < 2 ^ (7 * x.1) ∧ decG s.data.toList p x.1 x.2 = decI s.data.toList p) (fun x => 9 - x.1) (0, 0) esA ⟨rfl, by omega, by decide, rfl⟩ ?_
  rintro ⟨i, z⟩ w' ⟨rfl, hi, hz, hd⟩
  dsimp only at hi hz hd ⊢
  by_cases hlt : i < 9
  · by_cases hin : p + i < s.size
    · have hin' : p + i < s.data.toList.length := by omega
      have hge : ¬ ((s.size : Int) ≤ (p : Int) + (i : Int)) := by omega
      obtain ⟨b, hb⟩ : ∃ b, b = (s.data.toList.getD (p + i) 0).toNat := ⟨_, rfl⟩
      have hbl : b < 256 := by rw [hb]; exact UInt8.toNat_lt _
      have hsb : sb s (p + i) = b := hb.symm
      have hpw : 2 ^ (7 * i) ≤ 2 ^ 56 := Nat.pow_le_pow_right (by decide) (by omega)
      have hmul : b % 128 * 2 ^ (7 * i) ≤ 127 * 2 ^ 56 := Nat.mul_le_mul (by omega) hpw
      have hand : b &&& 127 = b % 128 := Nat.and_two_pow_sub_one_eq_mod b 7
      have hor : z ||| (b % 128) <<< (7 * i) = z + b % 128 * 2 ^ (7 * i) := or_shl hz
      have hz2 : z + b % 128 * 2 ^ (7 * i) < 2 ^ (7 * (i + 1)) := by
        have e : 2 ^ (7 * (i + 1)) = 128 * 2 ^ (7 * i) := by rw [Nat.mul_add, Nat.pow_add, Nat.mul_comm]
        have h2 : b % 128 * 2 ^ (7 * i) ≤ 127 * 2 ^ (7 * i) := Nat.mul_le_mul_right _ (by omega)
        omega
      have hz3 : z + b % 128 * 2 ^ (7 * i) < 9223372036854775808 := by
        have h2 : 2 ^ (7 * (i + 1)) ≤ 2 ^ 63 := Nat.pow_le_pow_right (by decide) (by omega)
        omega
      have hshl : (b % 128) <<< (7 * i) < 18446744073709551616 := by rw [Nat.shiftLeft_eq]; omega
      have on := decG_on (s := s.data.toList) (p := p) (z := z) hlt hin'
      have no := decG_no (s := s.data.toList) (p := p) (z := z) hlt hin'
      have yes := decG_yes (s := s.data.toList) (p := p) (z := z) hlt hin'
      rw [← hb] at on no yes
      generalize hz' : z + b % 128 * 2 ^ (7 * i) = z' at hor hz2 hz3 on no yes
      repeat' (first | apply WL.fold | apply WA.fold | apply WL.nil | apply WX.n_then | apply WC.seq | apply WC.region | refine WL.pa ?_ | refine WL.ga rfl ?_ | refine WL.na rfl ?_ | refine WL.nu rfl rfl ?_ | apply WC.block | apply WC.skip | apply WC.exit | apply WC.ret | apply WX.e_block | refine WX.e_other rfl ?_ | apply WX.e_then | apply WX.e_again | apply WX.n_block | apply WX.r_then | apply WX.r_block | apply WX.r_again | refine WC.cond_yes rfl ?_ | refine WC.cond_no rfl ?_ | refine WC.cond rfl (fun hc => ?_) (fun hc => ?_) | refine WC.cond_b rfl (fun hc => ?_) (fun hc => ?_))
      rw [hsb]
      refine WL.pa ?_ (POp.and8 (a := b) (b := 127) rfl rfl rfl rfl hbl (by decide))
      rw [hand]
      repeat' (first | apply WL.fold | apply WA.fold | apply WL.nil | apply WX.n_then | apply WC.seq | apply WC.region | refine WL.pa ?_ | refine WL.ga rfl ?_ | refine WL.na rfl ?_ | refine WL.nu rfl rfl ?_ | apply WC.block | apply WC.skip | apply WC.exit | apply WC.ret | apply WX.e_block | refine WX.e_other rfl ?_ | apply WX.e_then | apply WX.e_again | apply WX.n_block | apply WX.r_then | apply WX.r_block | apply WX.r_again | refine WC.cond_yes rfl ?_ | refine WC.cond_no rfl ?_ | refine WC.cond rfl (fun hc => ?_) (fun hc => ?_) | refine WC.cond_b rfl (fun hc => ?_) (fun hc => ?_))
      refine WL.pa ?_ ((POp.conv (k' := .u64) rfl).of (v' := .int .u64 ((b % 128 : Nat) : Int)) (by rw [wrap_u64 (by omega)]))
      repeat' (first | apply WL.fold | apply WA.fold | apply WL.nil | apply WX.n_then | apply WC.seq | apply WC.region | refine WL.pa ?_ | refine WL.ga rfl ?_ | refine WL.na rfl ?_ | refine WL.nu rfl rfl ?_ | apply WC.block | apply WC.skip | apply WC.exit | apply WC.ret | apply WX.e_block | refine WX.e_other rfl ?_ | apply WX.e_then | apply WX.e_again | apply WX.n_block | apply WX.r_then | apply WX.r_block | apply WX.r_again | refine WC.cond_yes rfl ?_ | refine WC.cond_no rfl ?_ | refine WC.cond rfl (fun hc => ?_) (fun hc => ?_) | refine WC.cond_b rfl (fun hc => ?_) (fun hc => ?_))
      refine WL.pa ?_ (POp.shl64 (a := b % 128) (b := 7 * i) rfl rfl rfl (by omega) (by omega) hshl)
      repeat' (first | apply WL.fold | apply WA.fold | apply WL.nil | apply WX.n_then | apply WC.seq | apply WC.region | refine WL.pa ?_ | refine WL.ga rfl ?_ | refine WL.na rfl ?_ | refine WL.nu rfl rfl ?_ | apply WC.block | apply WC.skip | apply WC.exit | apply WC.ret | apply WX.e_block | refine WX.e_other rfl ?_ | apply WX.e_then | apply WX.e_again | apply WX.n_block | apply WX.r_then | apply WX.r_block | apply WX.r_again | refine WC.cond_yes rfl ?_ | refine WC.cond_no rfl ?_ | refine WC.cond rfl (fun hc => ?_) (fun hc => ?_) | refine WC.cond_b rfl (fun hc => ?_) (fun hc => ?_))
      refine WL.pa ?_ (POp.or64 (a := z) (b := (b % 128) <<< (7 * i)) rfl rfl rfl rfl (by omega) hshl)
      rw [hor]
      by_cases h128 : 128 ≤ b
      · have h128' : (128 : Int) ≤ (b : Int) := by omega
        repeat' (first | apply WL.fold | apply WA.fold | apply WL.nil | apply WX.n_then | apply WC.seq | apply WC.region | refine WL.pa ?_ | refine WL.ga rfl ?_ | refine WL.na rfl ?_ | refine WL.nu rfl rfl ?_ | apply WC.block | apply WC.skip | apply WC.exit | apply WC.ret | apply WX.e_block | refine WX.e_other rfl ?_ | apply WX.e_then | apply WX.e_again | apply WX.n_block | apply WX.r_then | apply WX.r_block | apply WX.r_again | refine WC.cond_yes rfl ?_ | refine WC.cond_no rfl ?_ | refine WC.cond rfl (fun hc => ?_) (fun hc => ?_) | refine WC.cond_b rfl (fun hc => ?_) (fun hc => ?_))
        exact WX.again (i + 1, z') ⟨rfl, hlt, hz2, by rw [← on h128]; exact hd⟩ (by show 9 - (i + 1) < 9 - i; omega) esA
      · have h128' : ¬ (128 : Int) ≤ (b : Int) := by omega
        have hand1 : z' &&& 1 = z' % 2 := Nat.and_two_pow_sub_one_eq_mod z' 1
        have hshr : z' >>> 1 = z' / 2 := Nat.shiftRight_eq_div_pow z' 1
        repeat' (first | apply WL.fold | apply WA.fold | apply WL.nil | apply WX.n_then | apply WC.seq | apply WC.region | refine WL.pa ?_ | refine WL.ga rfl ?_ | refine WL.na rfl ?_ | refine WL.nu rfl rfl ?_ | apply WC.block | apply WC.skip | apply WC.exit | apply WC.ret | apply WX.e_block | refine WX.e_other rfl ?_ | apply WX.e_then | apply WX.e_again | apply WX.n_block | apply WX.r_then | apply WX.r_block | apply WX.r_again | refine WC.cond_yes rfl ?_ | refine WC.cond_no rfl ?_ | refine WC.cond rfl (fun hc => ?_) (fun hc => ?_) | refine WC.cond_b rfl (fun hc => ?_) (fun hc => ?_))
        refine WL.pa ?_ (POp.shr64 (a := z') (b := 1) rfl rfl rfl rfl (by decide))
        rw [hshr]
        repeat' (first | apply WL.fold | apply WA.fold | apply WL.nil | apply WX.n_then | apply WC.seq | apply WC.region | refine WL.pa ?_ | refine WL.ga rfl ?_ | refine WL.na rfl ?_ | refine WL.nu rfl rfl ?_ | apply WC.block | apply WC.skip | apply WC.exit | apply WC.ret | apply WX.e_block | refine WX.e_other rfl ?_ | apply WX.e_then | apply WX.e_again | apply WX.n_block | apply WX.r_then | apply WX.r_block | apply WX.r_again | refine WC.cond_yes rfl ?_ | refine WC.cond_no rfl ?_ | refine WC.cond rfl (fun hc => ?_) (fun hc => ?_) | refine WC.cond_b rfl (fun hc => ?_) (fun hc => ?_))
        refine WL.pa ?_ (POp.and64 (a := z') (b := 1) rfl rfl rfl rfl (by omega) (by decide))
        rw [hand1]
        repeat' (first | apply WL.fold | apply WA.fold | apply WL.nil | apply WX.n_then | apply WC.seq | apply WC.region | refine WL.pa ?_ | refine WL.ga rfl ?_ | refine WL.na rfl ?_ | refine WL.nu rfl rfl ?_ | apply WC.block | apply WC.skip | apply WC.exit | apply WC.ret | apply WX.e_block | refine WX.e_other rfl ?_ | apply WX.e_then | apply WX.e_again | apply WX.n_block | apply WX.r_then | apply WX.r_block | apply WX.r_again | refine WC.cond_yes rfl ?_ | refine WC.cond_no rfl ?_ | refine WC.cond rfl (fun hc => ?_) (fun hc => ?_) | refine WC.cond_b rfl (fun hc => ?_) (fun hc => ?_))
        refine WL.pa ?_ (POp.zz (z := z') rfl rfl (by omega))
        by_cases hb0 : (b : Int) = 0
        · by_cases hi0 : (0 : Int) < (i : Int)
          · have hno := no h128 (.inl ⟨by omega, by omega⟩)
            repeat' (first | apply WL.fold | apply WA.fold | apply WL.nil | apply WX.n_then | apply WC.seq | apply WC.region | refine WL.pa ?_ | refine WL.ga rfl ?_ | refine WL.na rfl ?_ | refine WL.nu rfl rfl ?_ | apply WC.block | apply WC.skip | apply WC.exit | apply WC.ret | apply WX.e_block | refine WX.e_other rfl ?_ | apply WX.e_then | apply WX.e_again | apply WX.n_block | apply WX.r_then | apply WX.r_block | apply WX.r_again | refine WC.cond_yes rfl ?_ | refine WC.cond_no rfl ?_ | refine WC.cond rfl (fun hc => ?_) (fun hc => ?_) | refine WC.cond_b rfl (fun hc => ?_) (fun hc => ?_))
            exact WX.ret3 (P := Tryz.prog) rfl rfl rfl rfl ⟨by rw [← hd, hno]; rfl, rfl⟩
          · by_cases hu : unz z' < -4611686018427387903
            · have hno := no h128 (.inr hu)
              repeat' (first | apply WL.fold | apply WA.fold | apply WL.nil | apply WX.n_then | apply WC.seq | apply WC.region | refine WL.pa ?_ | refine WL.ga rfl ?_ | refine WL.na rfl ?_ | refine WL.nu rfl rfl ?_ | apply WC.block | apply WC.skip | apply WC.exit | apply WC.ret | apply WX.e_block | refine WX.e_other rfl ?_ | apply WX.e_then | apply WX.e_again | apply WX.n_block | apply WX.r_then | apply WX.r_block | apply WX.r_again | refine WC.cond_yes rfl ?_ | refine WC.cond_no rfl ?_ | refine WC.cond rfl (fun hc => ?_) (fun hc => ?_) | refine WC.cond_b rfl (fun hc => ?_) (fun hc => ?_))
              exact WX.ret3 (P := Tryz.prog) rfl rfl rfl rfl ⟨by rw [← hd, hno]; rfl, rfl⟩
            · have hyes := yes h128 (by omega)
              repeat' (first | apply WL.fold | apply WA.fold | apply WL.nil | apply WX.n_then | apply WC.seq | apply WC.region | refine WL.pa ?_ | refine WL.ga rfl ?_ | refine WL.na rfl ?_ | refine WL.nu rfl rfl ?_ | apply WC.block | apply WC.skip | apply WC.exit | apply WC.ret | apply WX.e_block | refine WX.e_other rfl ?_ | apply WX.e_then | apply WX.e_again | apply WX.n_block | apply WX.r_then | apply WX.r_block | apply WX.r_again | refine WC.cond_yes rfl ?_ | refine WC.cond_no rfl ?_ | refine WC.cond rfl (fun hc => ?_) (fun hc => ?_) | refine WC.cond_b rfl (fun hc => ?_) (fun hc => ?_))
              exact WX.ret3 (P := Tryz.prog) rfl rfl rfl rfl ⟨by rw [← hd, hyes]; rfl, rfl⟩
        · by_cases hu : unz z' < -4611686018427387903
          · have hno := no h128 (.inr hu)
            repeat' (first | apply WL.fold | apply WA.fold | apply WL.nil | apply WX.n_then | apply WC.seq | apply WC.region | refine WL.pa ?_ | refine WL.ga rfl ?_ | refine WL.na rfl ?_ | refine WL.nu rfl rfl ?_ | apply WC.block | apply WC.skip | apply WC.exit | apply WC.ret | apply WX.e_block | refine WX.e_other rfl ?_ | apply WX.e_then | apply WX.e_again | apply WX.n_block | apply WX.r_then | apply WX.r_block | apply WX.r_again | refine WC.cond_yes rfl ?_ | refine WC.cond_no rfl ?_ | refine WC.cond rfl (fun hc => ?_) (fun hc => ?_) | refine WC.cond_b rfl (fun hc => ?_) (fun hc => ?_))
            exact WX.ret3 (P := Tryz.prog) rfl rfl rfl rfl ⟨by rw [← hd, hno]; rfl, rfl⟩
          · have hyes := yes h128 (by omega)
            repeat' (first | apply WL.fold | apply WA.fold | apply WL.nil | apply WX.n_then | apply WC.seq | apply WC.region | refine WL.pa ?_ | refine WL.ga rfl ?_ | refine WL.na rfl ?_ | refine WL.nu rfl rfl ?_ | apply WC.block | apply WC.skip | apply WC.exit | apply WC.ret | apply WX.e_block | refine WX.e_other rfl ?_ | apply WX.e_then | apply WX.e_again | apply WX.n_block | apply WX.r_then | apply WX.r_block | apply WX.r_again | refine WC.cond_yes rfl ?_ | refine WC.cond_no rfl ?_ | refine WC.cond rfl (fun hc => ?_) (fun hc => ?_) | refine WC.cond_b rfl (fun hc => ?_) (fun hc => ?_))
            exact WX.ret3 (P := Tryz.prog) rfl rfl rfl rfl ⟨by rw [← hd, hyes]; rfl, rfl⟩
    · have hge : ((s.size : Int) ≤ (p : Int) + (i : Int)) := by omega
      have hno := decG_end (s := s.data.toList) (p := p) (i := i) (z := z) (by omega)
      repeat' (first | apply WL.fold | apply WA.fold | apply WL.nil | apply WX.n_then | apply WC.seq | apply WC.region | refine WL.pa ?_ | refine WL.ga rfl ?_ | refine WL.na rfl ?_ | refine WL.nu rfl rfl ?_ | apply WC.block | apply WC.skip | apply WC.exit | apply WC.ret | apply WX.e_block | refine WX.e_other rfl ?_ | apply WX.e_then | apply WX.e_again | apply WX.n_block | apply WX.r_then | apply WX.r_block | apply WX.r_again | refine WC.cond_yes rfl ?_ | refine WC.cond_no rfl ?_ | refine WC.cond rfl (fun hc => ?_) (fun hc => ?_) | refine WC.cond_b rfl (fun hc => ?_) (fun hc => ?_))
      exact WX.ret3 (P := Tryz.prog) rfl rfl rfl rfl ⟨by rw [← hd, hno]; rfl, rfl⟩
  · obtain rfl : i = 9 := by omega
    have hno := decG_9 s.data.toList p z
    repeat' (first | apply WL.fold | apply WA.fold | apply WL.nil | apply WX.n_then | apply WC.seq | apply WC.region | refine WL.pa ?_ | refine WL.ga rfl ?_ | refine WL.na rfl ?_ | refine WL.nu rfl rfl ?_ | apply WC.block | apply WC.skip | apply WC.exit | apply WC.ret | apply WX.e_block | refine WX.e_other rfl ?_ | apply WX.e_then | apply WX.e_again | apply WX.n_block | apply WX.r_then | apply WX.r_block | apply WX.r_again | refine WC.cond_yes rfl ?_ | refine WC.cond_no rfl ?_ | refine WC.cond rfl (fun hc => ?_) (fun hc => ?_) | refine WC.cond_b rfl (fun hc => ?_) (fun hc => ?_))
    exact WX.ret3 (P := Tryz.prog) rfl rfl rfl rfl ⟨by rw [← hd, hno]; rfl, rfl⟩
end Go.Sx
/- Chapter 1: a string that is read back: the walk. -/
namespace Go.Sx
open Go Go.Proofs Go.RowKit
theorem ba_ext {s t : ByteArray} (h : s.data.toList = t.data.toList) : s = t := by
  cases s; cases t
  congr 1
  exact Array.toList_inj.1 h
theorem extract_L (s : ByteArray) (a b : Nat) : (s.extract a b).data.toList = (s.data.toList.drop a).take (b - a) := by
  rw [ByteArray.data_extract, Array.toList_extract]
theorem extract_mk (s : ByteArray) (a b : Nat) : s.extract a b = mkBA ((s.data.toList.drop a).take (b - a)) := ba_ext (by rw [extract_L]; rfl)
attribute [local irreducible] WC WL WX POp Then Again Fn NX W1 WA WO QL RP RA Yld LoopAt HC HL HX HN H1 HA HO HQ HB HP A.blk A.grow A.rd A.obj A.mp AgainH CutH
attribute [local irreducible] unz
set_option maxHeartbeats 2000000 in
theorem string_fn (s : ByteArray) (p : Nat) (hp : p ≤ s.size) (hs : s.size ≤ 5000000) (w : World) : Fn Tryz.prog 162 #[.string s, zv (p : Int)] w fun v w' => v = strV (decS s.data.toList p) ∧ w = w' := by
  have hlen : s.data.toList.length = s.size := by rw [Array.length_toList]; rfl
  have hint := int_fn s p hp hs w
  refine enter (l := [_, _]) rfl Tryz.ntmps162 rfl ?_
  unfold decS
  cases hd : decI s.data.toList p with
  | none =>
    rw [hd] at hint
    repeat' (first | apply WL.fold | apply WA.fold | apply WL.nil | apply WX.n_then | apply WC.seq | apply WC.region | refine WL.pa ?_ | refine WL.ga rfl ?_ | refine WL.na rfl ?_ | refine WL.nu rfl rfl ?_ | apply WC.block | apply WC.skip | apply WC.exit | apply WC.ret | apply WX.e_block | refine WX.e_other rfl ?_ | apply WX.e_then | apply WX.e_again | apply WX.n_block | apply WX.r_then | apply WX.r_block | apply WX.r_again | refine WC.cond_yes rfl ?_ | refine WC.cond_no rfl ?_ | refine WC.cond rfl (fun hc => ?_) (fun hc => ?_) | refine WC.cond_b rfl (fun hc => ?_) (fun hc => ?_))
    refine WL.call rfl rfl hint ?_
    rintro v w' ⟨rfl, rfl⟩
    unfold intV
    repeat' (first | apply WL.fold | apply WA.fold | apply WL.nil | apply WX.n_then | apply WC.seq | apply WC.region | refine WL.pa ?_ | refine WL.ga rfl ?_ | refine WL.na rfl ?_ | refine WL.nu rfl rfl ?_ | apply WC.block | apply WC.skip | apply WC.exit | apply WC.ret | apply WX.e_block | refine WX.e_other rfl ?_ | apply WX.e_then | apply WX.e_again | apply WX.n_block | apply WX.r_then | apply WX.r_block | apply WX.r_again | refine WC.cond_yes rfl ?_ | refine WC.cond_no rfl ?_ | refine WC.cond rfl (fun hc => ?_) (fun hc => ?_) | refine WC.cond_b rfl (fun hc => ?_) (fun hc => ?_))
    exact WX.ret3 (P := Tryz.prog) rfl rfl rfl rfl ⟨rfl, rfl⟩
  | some x =>
    obtain ⟨z, q⟩ := x
    rw [hd] at hint
    have hq := decG_le 9 0 0 (by omega) hd
    simp only at hq
    rw [hlen] at hq ⊢
    dsimp only
    repeat' (first | apply WL.fold | apply WA.fold | apply WL.nil | apply WX.n_then | apply WC.seq | apply WC.region | refine WL.pa ?_ | refine WL.ga rfl ?_ | refine WL.na rfl ?_ | refine WL.nu rfl rfl ?_ | apply WC.block | apply WC.skip | apply WC.exit | apply WC.ret | apply WX.e_block | refine WX.e_other rfl ?_ | apply WX.e_then | apply WX.e_again | apply WX.n_block | apply WX.r_then | apply WX.r_block | apply WX.r_again | refine WC.cond_yes rfl ?_ | refine WC.cond_no rfl ?_ | refine WC.cond rfl (fun hc => ?_) (fun hc => ?_) | refine WC.cond_b rfl (fun hc => ?_) (fun hc => ?_))
    refine WL.call rfl rfl hint ?_
    rintro v w' ⟨rfl, rfl⟩
    unfold intV
    obtain ⟨u, hu⟩ : ∃ u, u = unz z := ⟨_, rfl⟩
    rw [← hu]
    by_cases h1 : u < 0
    · rw [if_pos (.inl h1)]
      repeat' (first | apply WL.fold | apply WA.fold | apply WL.nil | apply WX.n_then | apply WC.seq | apply WC.region | refine WL.pa ?_ | refine WL.ga rfl ?_ | refine WL.na rfl ?_ | refine WL.nu rfl rfl ?_ | apply WC.block | apply WC.skip | apply WC.exit | apply WC.ret | apply WX.e_block | refine WX.e_other rfl ?_ | apply WX.e_then | apply WX.e_again | apply WX.n_block | apply WX.r_then | apply WX.r_block | apply WX.r_again | refine WC.cond_yes rfl ?_ | refine WC.cond_no rfl ?_ | refine WC.cond rfl (fun hc => ?_) (fun hc => ?_) | refine WC.cond_b rfl (fun hc => ?_) (fun hc => ?_))
      exact WX.ret3 (P := Tryz.prog) rfl rfl rfl rfl ⟨rfl, rfl⟩
    · by_cases h2 : u > 65536
      · rw [if_pos (.inr (.inl h2))]
        repeat' (first | apply WL.fold | apply WA.fold | apply WL.nil | apply WX.n_then | apply WC.seq | apply WC.region | refine WL.pa ?_ | refine WL.ga rfl ?_ | refine WL.na rfl ?_ | refine WL.nu rfl rfl ?_ | apply WC.block | apply WC.skip | apply WC.exit | apply WC.ret | apply WX.e_block | refine WX.e_other rfl ?_ | apply WX.e_then | apply WX.e_again | apply WX.n_block | apply WX.r_then | apply WX.r_block | apply WX.r_again | refine WC.cond_yes rfl ?_ | refine WC.cond_no rfl ?_ | refine WC.cond rfl (fun hc => ?_) (fun hc => ?_) | refine WC.cond_b rfl (fun hc => ?_) (fun hc => ?_))
        exact WX.ret3 (P := Tryz.prog) rfl rfl rfl rfl ⟨rfl, rfl⟩
      · by_cases h3 : u > (s.size : Int) - (q : Int)
        · rw [if_pos (.inr (.inr h3))]
          repeat' (first | apply WL.fold | apply WA.fold | apply WL.nil | apply WX.n_then | apply WC.seq | apply WC.region | refine WL.pa ?_ | refine WL.ga rfl ?_ | refine WL.na rfl ?_ | refine WL.nu rfl rfl ?_ | apply WC.block | apply WC.skip | apply WC.exit | apply WC.ret | apply WX.e_block | refine WX.e_other rfl ?_ | apply WX.e_then | apply WX.e_again | apply WX.n_block | apply WX.r_then | apply WX.r_block | apply WX.r_again | refine WC.cond_yes rfl ?_ | refine WC.cond_no rfl ?_ | refine WC.cond rfl (fun hc => ?_) (fun hc => ?_) | refine WC.cond_b rfl (fun hc => ?_) (fun hc => ?_))
          exact WX.ret3 (P := Tryz.prog) rfl rfl rfl rfl ⟨rfl, rfl⟩
        · rw [if_neg (by omega)]
          obtain ⟨n, rfl⟩ := Int.eq_ofNat_of_zero_le (show 0 ≤ u by omega)
          have e1 : ((q : Int) + (n : Int)).toNat = q + n := by omega
          have e2 := extract_mk s q (q + n)
          rw [show q + n - q = n from by omega] at e2
          repeat' (first | apply WL.fold | apply WA.fold | apply WL.nil | apply WX.n_then | apply WC.seq | apply WC.region | refine WL.pa ?_ | refine WL.ga rfl ?_ | refine WL.na rfl ?_ | refine WL.nu rfl rfl ?_ | apply WC.block | apply WC.skip | apply WC.exit | apply WC.ret | apply WX.e_block | refine WX.e_other rfl ?_ | apply WX.e_then | apply WX.e_again | apply WX.n_block | apply WX.r_then | apply WX.r_block | apply WX.r_again | refine WC.cond_yes rfl ?_ | refine WC.cond_no rfl ?_ | refine WC.cond rfl (fun hc => ?_) (fun hc => ?_) | refine WC.cond_b rfl (fun hc => ?_) (fun hc => ?_))
          refine WX.ret3 (P := Tryz.prog) rfl rfl rfl rfl ⟨?_, rfl⟩
          rw [← hu, e1, Int.toNat_natCast, Int.toNat_natCast, e2]
          rfl
end Go.Sx

