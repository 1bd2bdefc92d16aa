/- Chapter 2 in plain words: the digest of a string. -/
import Derived.Test.YtlihcenahjgnmaaGreatDoorHd
import Derived.Test.YtlihcenahjgnmaaGreatDoorHe
namespace Go.Sx
def rot (x : UInt32) (n : Nat) : UInt32 := x <<< UInt32.ofNat (32 - n) ||| x >>> UInt32.ofNat n
def mixW (x : UInt32) (l : List Nat) : UInt32 := l.foldl (fun o n => o ^^^ rot x n) 0
def bt (b : List UInt8) (i : Nat) : UInt32 := (b.getD i 0).toUInt32
def wordAt (b : List UInt8) (i : Nat) : UInt32 := bt b (4 * i) <<< UInt32.ofNat 24 ||| bt b (4 * i + 1) <<< UInt32.ofNat 16 ||| bt b (4 * i + 2) <<< UInt32.ofNat 8 ||| bt b (4 * i + 3)
/-- The words of a block. -/
def wW (b : List UInt8) (i : Nat) : UInt32 :=
  if i < 16 then wordAt b i
  else wW b (i - 16) + (mixW (wW b (i - 15)) [7, 18] ^^^ wW b (i - 15) >>> UInt32.ofNat 3) + wW b (i - 7) + (mixW (wW b (i - 2)) [17, 19] ^^^ wW b (i - 2) >>> UInt32.ofNat 10)
termination_by i
decreasing_by all_goals omega
theorem wW_lo {b : List UInt8} {i : Nat} (h : i < 16) : wW b i = wordAt b i := by rw [wW, if_pos h]
theorem wW_hi {b : List UInt8} {i : Nat} (h : ¬ i < 16) : wW b i = wW b (i - 16) + (mixW (wW b (i - 15)) [7, 18] ^^^ wW b (i - 15) >>> UInt32.ofNat 3) + wW b (i - 7) + (mixW (wW b (i - 2)) [17, 19] ^^^ wW b (i - 2) >>> UInt32.ofNat 10) := by
  rw [wW, if_neg h]
structure S8 where
  a : UInt32
  b : UInt32
  c : UInt32
  d : UInt32
  e : UInt32
  f : UInt32
  g : UInt32
  h : UInt32
def S8.l (s : S8) : List UInt32 := [s.a, s.b, s.c, s.d, s.e, s.f, s.g, s.h]
def kL : List UInt32 := [
  0x428a2f98, 0x71374491, 0xb5c0fbcf, 0xe9b5dba5, 0x3956c25b, 0x59f111f1, 0x923f82a4, 0xab1c5ed5,
  0xd807aa98, 0x12835b01, 0x243185be, 0x550c7dc3, 0x72be5d74, 0x80deb1fe, 0x9bdc06a7, 0xc19bf174,
  0xe49b69c1, 0xefbe4786, 0x0fc19dc6, 0x240ca1cc, 0x2de92c6f, 0x4a7484aa, 0x5cb0a9dc, 0x76f988da,
  0x983e5152, 0xa831c66d, 0xb00327c8, 0xbf597fc7, 0xc6e00bf3, 0xd5a79147, 0x06ca6351, 0x14292967,
  0x27b70a85, 0x2e1b2138, 0x4d2c6dfc, 0x53380d13, 0x650a7354, 0x766a0abb, 0x81c2c92e, 0x92722c85,
  0xa2bfe8a1, 0xa81a664b, 0xc24b8b70, 0xc76c51a3, 0xd192e819, 0xd6990624, 0xf40e3585, 0x106aa070,
  0x19a4c116, 0x1e376c08, 0x2748774c, 0x34b0bcb5, 0x391c0cb3, 0x4ed8aa4a, 0x5b9cca4f, 0x682e6ff3,
  0x748f82ee, 0x78a5636f, 0x84c87814, 0x8cc70208, 0x90befffa, 0xa4506ceb, 0xbef9a3f7, 0xc67178f2]
def kW (i : Nat) : UInt32 := kL.getD i 0
def rT (k w : UInt32) (s : S8) : UInt32 := s.h + mixW s.e [6, 11, 25] + (s.e &&& s.f ^^^ ~~~s.e &&& s.g) + k + w
def rU (s : S8) : UInt32 := mixW s.a [2, 13, 22] + (s.a &&& s.b ^^^ s.a &&& s.c ^^^ s.b &&& s.c)
def rnd (k w : UInt32) (s : S8) : S8 := ⟨rT k w s + rU s, s.a, s.b, s.c, s.d + rT k w s, s.e, s.f, s.g⟩
def rnds (b : List UInt8) (s : S8) : Nat → S8
  | 0 => s
  | i + 1 => rnd (kW i) (wW b i) (rnds b s i)
def S8.add (s t : S8) : S8 := ⟨s.a + t.a, s.b + t.b, s.c + t.c, s.d + t.d, s.e + t.e, s.f + t.f, s.g + t.g, s.h + t.h⟩
def comp (s : S8) (b : List UInt8) : S8 := s.add (rnds b s 64)
def shaI : S8 := ⟨0x6a09e667, 0xbb67ae85, 0x3c6ef372, 0xa54ff53a, 0x510e527f, 0x9b05688c, 0x1f83d9ab, 0x5be0cd19⟩
def by4 (x : UInt32) : List UInt8 := [(x >>> UInt32.ofNat 24).toUInt8, (x >>> UInt32.ofNat 16).toUInt8, (x >>> UInt32.ofNat 8).toUInt8, (x >>> UInt32.ofNat 0).toUInt8]
def digL (s : S8) : List UInt8 := s.l.flatMap by4
theorem digL_len (s : S8) : (digL s).length = 32 := rfl
def shaZ (n : Nat) : Nat := (119 - n % 64) % 64
def shaT (n j : Nat) : UInt8 := UInt8.ofNat ((8 * n) >>> (8 * (7 - j)))
def shaP (s : List UInt8) : List UInt8 := s ++ [128] ++ List.replicate (shaZ s.length) 0 ++ (List.range 8).map (shaT s.length)
theorem shaP_len (s : List UInt8) : (shaP s).length = s.length + 1 + shaZ s.length + 8 := by
  unfold shaP; simp only [List.length_append, List.length_replicate, List.length_map, List.length_range, List.length_cons, List.length_nil]
theorem shaP_mod (s : List UInt8) : (shaP s).length % 64 = 0 := by
  rw [shaP_len]; unfold shaZ; omega
/-- The digest of the first i blocks. -/
def sums (b : List UInt8) : Nat → S8
  | 0 => shaI
  | i + 1 => comp (sums b i) ((b.drop (64 * i)).take 64)
def sumL (s : List UInt8) : List UInt8 := digL (sums (shaP s) ((shaP s).length / 64))
theorem sumL_len (s : List UInt8) : (sumL s).length = 32 := digL_len _
def sumS (s : ByteArray) : ByteArray := ⟨(sumL s.data.toList).toArray⟩
theorem sumS_size (s : ByteArray) : (sumS s).size = 32 := by
  show (sumL s.data.toList).toArray.size = 32
  rw [List.size_toArray, sumL_len]
end Go.Sx
/- The layer with atoms: words of 32 bits. -/
namespace Go.Sx
open Go Go.RowKit
abbrev w32 (x : UInt32) : Value := .int .u32 (x.toNat : Int)
abbrev b8 (x : UInt8) : Value := .int .u8 (x.toNat : Int)
theorem wrap_u32 (n : Int) : IntKind.u32.wrap n = n % 4294967296 := by
  simp [IntKind.wrap, IntKind.bits, IntKind.signed]
theorem wrap_w32 (x : UInt32) : IntKind.u32.wrap (x.toNat : Int) = (x.toNat : Int) := by
  have := x.toNat_lt
  rw [wrap_u32]; omega
theorem wrap_u8m (n : Int) : IntKind.u8.wrap n = n % 256 := by
  simp [IntKind.wrap, IntKind.bits, IntKind.signed]
theorem ofInt32 (x : UInt32) : BitVec.ofInt 32 (x.toNat : Int) = x.toBitVec := by
  rw [BitVec.ofInt_natCast]; exact BitVec.eq_of_toNat_eq (by simp)
section
variable {P : Program} {r : Option Nat} {N : Nat} {ds : List Deferred} {E : Env} {t t' ty : TypeId} {x y : Operand} {k k' : IntKind} {a b : UInt32} {n : Int}
theorem POp.xor32 (hx : Env.ev E x = some (w32 a)) (hy : Env.ev E y = some (w32 b)) : POp P N ds E (.binOp .xor t x y t') ty (w32 (a ^^^ b)) := POp.bin hx hy guard_int fun w => by
  have e : bits .xor .u32 (a.toNat : Int) (b.toNat : Int) = ((a ^^^ b).toNat : Int) := by
    show IntKind.u32.wrap (((BitVec.ofInt 32 a.toNat ^^^ BitVec.ofInt 32 b.toNat).toNat : Nat) : Int) = _
    rw [ofInt32, ofInt32]; exact wrap_w32 (a ^^^ b)
  rw [binOp_xor, intBits_xor, e]; rfl
theorem POp.and32 (hx : Env.ev E x = some (w32 a)) (hy : Env.ev E y = some (w32 b)) : POp P N ds E (.binOp .and t x y t') ty (w32 (a &&& b)) := POp.bin hx hy guard_int fun w => by
  have e : bits .and .u32 (a.toNat : Int) (b.toNat : Int) = ((a &&& b).toNat : Int) := by
    show IntKind.u32.wrap (((BitVec.ofInt 32 a.toNat &&& BitVec.ofInt 32 b.toNat).toNat : Nat) : Int) = _
    rw [ofInt32, ofInt32]; exact wrap_w32 (a &&& b)
  rw [binOp_and, intBits_and, e]; rfl
theorem POp.or32 (hx : Env.ev E x = some (w32 a)) (hy : Env.ev E y = some (w32 b)) : POp P N ds E (.binOp .or t x y t') ty (w32 (a ||| b)) := POp.bin hx hy guard_int fun w => by
  have e : bits .or .u32 (a.toNat : Int) (b.toNat : Int) = ((a ||| b).toNat : Int) := by
    show IntKind.u32.wrap (((BitVec.ofInt 32 a.toNat ||| BitVec.ofInt 32 b.toNat).toNat : Nat) : Int) = _
    rw [ofInt32, ofInt32]; exact wrap_w32 (a ||| b)
  rw [binOp_or, intBits_or, e]; rfl
theorem POp.add32 (hx : Env.ev E x = some (w32 a)) (hy : Env.ev E y = some (w32 b)) : POp P N ds E (.binOp .add t x y t') ty (w32 (a + b)) := (POp.add' hx hy).of (by
  rw [wrap_u32]
  have : (a + b).toNat = (a.toNat + b.toNat) % 4294967296 := UInt32.toNat_add a b
  unfold w32
  rw [this]; simp)
theorem POp.not32 (hx : Env.ev E x = some (w32 a)) : POp P N ds E (.unOp .xor t x) ty (w32 (~~~a)) := fun c ha d pos af g w => by
  have e : bits .xor .u32 IntKind.u32.max (a.toNat : Int) = ((~~~a).toNat : Int) := by
    show IntKind.u32.wrap (((BitVec.ofInt 32 IntKind.u32.max ^^^ BitVec.ofInt 32 a.toNat).toNat : Nat) : Int) = _
    rw [ofInt32, show BitVec.ofInt 32 IntKind.u32.max = BitVec.allOnes 32 from by decide, BitVec.allOnes_xor]; exact wrap_w32 (~~~a)
  have e2 : (if IntKind.u32.signed = true then (-1 : Int) else IntKind.u32.max) = IntKind.u32.max := rfl
  simp only [execOp, ha.ev hx, Op.unary, e2, intBits_xor, e]; rfl
theorem sh32 {s : Nat} (h : s < 32) : (UInt32.ofNat s).toNat % 32 = s := by
  rw [UInt32.toNat_ofNat']; omega
theorem POp.shl32 {s : Nat} (hx : Env.ev E x = some (w32 a)) (hy : Env.ev E y = some (.int k' n)) (en : n = (s : Int)) (h : s < 32) : POp P N ds E (.binOp .shl t x y t') ty (w32 (a <<< UInt32.ofNat s)) := POp.bin hx hy guard_int fun w => by
  subst en
  have e : ((a.toNat : Int) * 2 ^ ((s : Int).toNat)) = ((a.toNat <<< s : Nat) : Int) := by rw [Nat.shiftLeft_eq]; simp
  have e2 : (a <<< UInt32.ofNat s).toNat = a.toNat <<< s % 4294967296 := by
    rw [UInt32.toNat_shiftLeft, sh32 h]
  rw [binOp_shl, shift_shl .u32 k' a.toNat s (by omega) (by simp [IntKind.bits]; omega), e, wrap_u32, w32, e2]; simp [Sem.run_pure]
theorem POp.shr32 {s : Nat} (hx : Env.ev E x = some (w32 a)) (hy : Env.ev E y = some (.int k' n)) (en : n = (s : Int)) (h : s < 32) : POp P N ds E (.binOp .shr t x y t') ty (w32 (a >>> UInt32.ofNat s)) := POp.bin hx hy guard_int fun w => by
  subst en
  have e2 : (a >>> UInt32.ofNat s).toNat = a.toNat >>> s := by
    rw [UInt32.toNat_shiftRight, sh32 h]
  rw [binOp_shr, shift_shr .u32 k' a.toNat s (by omega) (by simp [IntKind.bits]; omega), w32, e2, Nat.shiftRight_eq_div_pow]; simp
theorem POp.conv832 {c : UInt8} {src dst : TypeId} {d' : TypeDesc} [hs : UTy P src d'] [hd : UTy P dst (.int .u32)] (hx : Env.ev E x = some (b8 c)) : POp P N ds E (.convert src dst x) ty (w32 c.toUInt32) := (POp.conv (k' := .u32) hx).of (by
  have := c.toNat_lt
  rw [wrap_u32, w32, UInt8.toNat_toUInt32]; congr 1; omega)
theorem POp.conv328 {src dst : TypeId} {d' : TypeDesc} [hs : UTy P src d'] [hd : UTy P dst (.int .u8)] (hx : Env.ev E x = some (w32 a)) : POp P N ds E (.convert src dst x) ty (b8 a.toUInt8) := (POp.conv (k' := .u8) hx).of (by
  rw [wrap_u8m, b8, UInt32.toNat_toUInt8]; congr 1)
theorem POp.conv648 {m : Nat} {src dst : TypeId} {d' : TypeDesc} [hs : UTy P src d'] [hd : UTy P dst (.int .u8)] (hx : Env.ev E x = some (.int .i64 (m : Int))) : POp P N ds E (.convert src dst x) ty (b8 (UInt8.ofNat m)) := (POp.conv (k' := .u8) hx).of (by
  rw [wrap_u8m, b8, UInt8.toNat_ofNat']; congr 1)
end
end Go.Sx

