/- Chapter 2 in plain words: the digest of a string. -/
import Derived.Test.YtdfkohdcoigofaaGreatDoorQH04
import Derived.Laws.CopyRow
import Derived.RecoverIn
import Derived.Lib.FrozenHead
import Derived.Laws.Externs
import Derived.Laws.IdiomCopy
namespace Go.Sx
def rot (x : UInt32) (n : Nat) : UInt32 := x <<< UInt32.ofNat (32 - n) ||| x >>> UInt32.ofNat n
def mixW (x : UInt32) (l : List Nat) : UInt32 := l.foldl (fun o n => o ^^^ rot x n) 0
def bt (b : List UInt8) (i : Nat) : UInt32 := (b.getD i 0).toUInt32
def wordAt (b : List UInt8) (i : Nat) : UInt32 := bt b (4 * i) <<< UInt32.ofNat 24 ||| bt b (4 * i + 1) <<< UInt32.ofNat 16 ||| bt b (4 * i + 2) <<< UInt32.ofNat 8 ||| bt b (4 * i + 3)
/-- The words of a block. -/
def wW (b : List UInt8) (i : Nat) : UInt32 :=
  if i < 16 then wordAt b i
  else wW b (i - 16) + (mixW (wW b (i - 15)) [7, 18] ^^^ wW b (i - 15) >>> UInt32.ofNat 3) + wW b (i - 7) + (mixW (wW b (i - 2)) [17, 19] ^^^ wW b (i - 2) >>> UInt32.ofNat 10)
termination_by i
decreasing_by all_goals omega
theorem wW_lo {b : List UInt8} {i : Nat} (h : i < 16) : wW b i = wordAt b i := by rw [wW, if_pos h]
theorem wW_hi {b : List UInt8} {i : Nat} (h : ¬ i < 16) : wW b i = wW b (i - 16) + (mixW (wW b (i - 15)) [7, 18] ^^^ wW b (i - 15) >>> UInt32.ofNat 3) + wW b (i - 7) + (mixW (wW b (i - 2)) [17, 19] ^^^ wW b (i - 2) >>> UInt32.ofNat 10) := by
  rw [wW, if_neg h]
structure S8 where
  a : UInt32
  b : UInt32
  c : UInt32
  d : UInt32
  e : UInt32
  f : UInt32
  g : UInt32
  h : UInt32
def S8.l (s : S8) : List UInt32 := [s.a, s.b, s.c, s.d, s.e, s.f, s.g, s.h]
def kL : List UInt32 := [
  0x428a2f98, 0x71374491, 0xb5c0fbcf, 0xe9b5dba5, 0x3956c25b, 0x59f111f1, 0x923f82a4, 0xab1c5ed5,
  0xd807aa98, 0x12835b01, 0x243185be, 0x550c7dc3, 0x72be5d74, 0x80deb1fe, 0x9bdc06a7, 0xc19bf174,
  0xe49b69c1, 0xefbe4786, 0x0fc19dc6, 0x240ca1cc, 0x2de92c6f, 0x4a7484aa, 0x5cb0a9dc, 0x76f988da,
  0x983e5152, 0xa831c66d, 0xb00327c8, 0xbf597fc7, 0xc6e00bf3, 0xd5a79147, 0x06ca6351, 0x14292967,
  0x27b70a85, 0x2e1b2138, 0x4d2c6dfc, 0x53380d13, 0x650a7354, 0x766a0abb, 0x81c2c92e, 0x92722c85,
  0xa2bfe8a1, 0xa81a664b, 0xc24b8b70, 0xc76c51a3, 0xd192e819, 0xd6990624, 0xf40e3585, 0x106aa070,
  0x19a4c116, 0x1e376c08, 0x2748774c, 0x34b0bcb5, 0x391c0cb3, 0x4ed8aa4a, 0x5b9cca4f, 0x682e6ff3,
  0x748f82ee, 0x78a5636f, 0x84c87814, 0x8cc70208, 0x90befffa, 0xa4506ceb, 0xbef9a3f7, 0xc67178f2]
def kW (i : Nat) : UInt32 := kL.getD i 0
def rT (k w : UInt32) (s : S8) : UInt32 := s.h + mixW s.e [6, 11, 25] + (s.e &&& s.f ^^^ ~~~s.e &&& s.g) + k + w
def rU (s : S8) : UInt32 := mixW s.a [2, 13, 22] + (s.a &&& s.b ^^^ s.a &&& s.c ^^^ s.b &&& s.c)
def rnd (k w : UInt32) (s : S8) : S8 := ⟨rT k w s + rU s, s.a, s.b, s.c, s.d + rT k w s, s.e, s.f, s.g⟩
def rnds (b : List UInt8) (s : S8) : Nat → S8
  | 0 => s
  | i + 1 => rnd (kW i) (wW b i) (rnds b s i)
def S8.add (s t : S8) : S8 := ⟨s.a + t.a, s.b + t.b, s.c + t.c, s.d + t.d, s.e + t.e, s.f + t.f, s.g + t.g, s.h + t.h⟩
def comp (s : S8) (b : List UInt8) : S8 := s.add (rnds b s 64)
def shaI : S8 := ⟨0x6a09e667, 0xbb67ae85, 0x3c6ef372, 0xa54ff53a, 0x510e527f, 0x9b05688c, 0x1f83d9ab, 0x5be0cd19⟩
def by4 (x : UInt32) : List UInt8 := [(x >>> UInt32.ofNat 24).toUInt8, (x >>> UInt32.ofNat 16).toUInt8, (x >>> UInt32.ofNat 8).toUInt8, (x >>> UInt32.ofNat 0).toUInt8]
def digL (s : S8) : List UInt8 := s.l.flatMap by4
theorem digL_len (s : S8) : (digL s).length = 32 := rfl
def shaZ (n : Nat) : Nat := (119 - n % 64) % 64
def shaT (n j : Nat) : UInt8 := UInt8.ofNat ((8 * n) >>> (8 * (7 - j)))
def shaP (s : List UInt8) : List UInt8 := s ++ [128] ++ List.replicate (shaZ s.length) 0 ++ (List.range 8).map (shaT s.length)
theorem shaP_len (s : List UInt8) : (shaP s).length = s.length + 1 + shaZ s.length + 8 := by
  unfold shaP; simp only [List.length_append, List.length_replicate, List.length_map, List.length_range, List.length_cons, List.length_nil]
theorem shaP_mod (s : List UInt8) : (shaP s).length % 64 = 0 := by
  rw [shaP_len]; unfold shaZ; omega
/-- The digest of the first i blocks. -/
def sums (b : List UInt8) : Nat → S8
  | 0 => shaI
  | i + 1 => comp (sums b i) ((b.drop (64 * i)).take 64)
def sumL (s : List UInt8) : List UInt8 := digL (sums (shaP s) ((shaP s).length / 64))
theorem sumL_len (s : List UInt8) : (sumL s).length = 32 := digL_len _
def sumS (s : ByteArray) : ByteArray := ⟨(sumL s.data.toList).toArray⟩
theorem sumS_size (s : ByteArray) : (sumS s).size = 32 := by
  show (sumL s.data.toList).toArray.size = 32
  rw [List.size_toArray, sumL_len]
end Go.Sx
/- The layer with atoms: words of 32 bits. -/
namespace Go.Sx
open Go Go.RowKit
abbrev w32 (x : UInt32) : Value := .int .u32 (x.toNat : Int)
abbrev b8 (x : UInt8) : Value := .int .u8 (x.toNat : Int)
theorem wrap_u32 (n : Int) : IntKind.u32.wrap n = n % 4294967296 := by
  simp [IntKind.wrap, IntKind.bits, IntKind.signed]
theorem wrap_w32 (x : UInt32) : IntKind.u32.wrap (x.toNat : Int) = (x.toNat : Int) := by
  have := x.toNat_lt
  rw [wrap_u32]; omega
theorem wrap_u8m (n : Int) : IntKind.u8.wrap n = n % 256 := by
  simp [IntKind.wrap, IntKind.bits, IntKind.signed]
theorem ofInt32 (x : UInt32) : BitVec.ofInt 32 (x.toNat : Int) = x.toBitVec := by
  rw [BitVec.ofInt_natCast]; exact BitVec.eq_of_toNat_eq (by simp)
section
variable {P : Program} {r : Option Nat} {N : Nat} {ds : List Deferred} {E : Env} {t t' ty : TypeId} {x y : Operand} {k k' : IntKind} {a b : UInt32} {n : Int}
theorem POp.xor32 (hx : Env.ev E x = some (w32 a)) (hy : Env.ev E y = some (w32 b)) : POp P N ds E (.binOp .xor t x y t') ty (w32 (a ^^^ b)) := POp.bin hx hy guard_int fun w => by
  have e : bits .xor .u32 (a.toNat : Int) (b.toNat : Int) = ((a ^^^ b).toNat : Int) := by
    show IntKind.u32.wrap (((BitVec.ofInt 32 a.toNat ^^^ BitVec.ofInt 32 b.toNat).toNat : Nat) : Int) = _
    rw [ofInt32, ofInt32]; exact wrap_w32 (a ^^^ b)
  rw [binOp_xor, intBits_xor, e]; rfl
theorem POp.and32 (hx : Env.ev E x = some (w32 a)) (hy : Env.ev E y = some (w32 b)) : POp P N ds E (.binOp .and t x y t') ty (w32 (a &&& b)) := POp.bin hx hy guard_int fun w => by
  have e : bits .and .u32 (a.toNat : Int) (b.toNat : Int) = ((a &&& b).toNat : Int) := by
    show IntKind.u32.wrap (((BitVec.ofInt 32 a.toNat &&& BitVec.ofInt 32 b.toNat).toNat : Nat) : Int) = _
    rw [ofInt32, ofInt32]; exact wrap_w32 (a &&& b)
  rw [binOp_and, intBits_and, e]; rfl
theorem POp.or32 (hx : Env.ev E x = some (w32 a)) (hy : Env.ev E y = some (w32 b)) : POp P N ds E (.binOp .or t x y t') ty (w32 (a ||| b)) := POp.bin hx hy guard_int fun w => by
  have e : bits .or .u32 (a.toNat : Int) (b.toNat : Int) = ((a ||| b).toNat : Int) := by
    show IntKind.u32.wrap (((BitVec.ofInt 32 a.toNat ||| BitVec.ofInt 32 b.toNat).toNat : Nat) : Int) = _
    rw [ofInt32, ofInt32]; exact wrap_w32 (a ||| b)
  rw [binOp_or, intBits_or, e]; rfl
theorem POp.add32 (hx : Env.ev E x = some (w32 a)) (hy : Env.ev E y = some (w32 b)) : POp P N ds E (.binOp .add t x y t') ty (w32 (a + b)) := (POp.add' hx hy).of (by
  rw [wrap_u32]
  have : (a + b).toNat = (a.toNat + b.toNat) % 4294967296 := UInt32.toNat_add a b
  unfold w32
  rw [this]; simp)
theorem POp.not32 (hx : Env.ev E x = some (w32 a)) : POp P N ds E (.unOp .xor t x) ty (w32 (~~~a)) := fun c ha d pos af g w => by
  have e : bits .xor .u32 IntKind.u32.max (a.toNat : Int) = ((~~~a).toNat : Int) := by
    show IntKind.u32.wrap (((BitVec.ofInt 32 IntKind.u32.max ^^^ BitVec.ofInt 32 a.toNat).toNat : Nat) : Int) = _
    rw [ofInt32, show BitVec.ofInt 32 IntKind.u32.max = BitVec.allOnes 32 from by decide, BitVec.allOnes_xor]; exact wrap_w32 (~~~a)
  have e2 : (if IntKind.u32.signed = true then (-1 : Int) else IntKind.u32.max) = IntKind.u32.max := rfl
  simp only [execOp, ha.ev hx, Op.unary, e2, intBits_xor, e]; rfl
theorem sh32 {s : Nat} (h : s < 32) : (UInt32.ofNat s).toNat % 32 = s := by
  rw [UInt32.toNat_ofNat']; omega
theorem POp.shl32 {s : Nat} (hx : Env.ev E x = some (w32 a)) (hy : Env.ev E y = some (.int k' n)) (en : n = (s : Int)) (h : s < 32) : POp P N ds E (.binOp .shl t x y t') ty (w32 (a <<< UInt32.ofNat s)) := POp.bin hx hy guard_int fun w => by
  subst en
  have e : ((a.toNat : Int) * 2 ^ ((s : Int).toNat)) = ((a.toNat <<< s : Nat) : Int) := by rw [Nat.shiftLeft_eq]; simp
  have e2 : (a <<< UInt32.ofNat s).toNat = a.toNat <<< s % 4294967296 := by
    rw [UInt32.toNat_shiftLeft, sh32 h]
  rw [binOp_shl, shift_shl .u32 k' a.toNat s (by omega) (by simp [IntKind.bits]; omega), e, wrap_u32, w32, e2]; simp [Sem.run_pure]
theorem POp.shr32 {s : Nat} (hx : Env.ev E x = some (w32 a)) (hy : Env.ev E y = some (.int k' n)) (en : n = (s : Int)) (h : s < 32) : POp P N ds E (.binOp .shr t x y t') ty (w32 (a >>> UInt32.ofNat s)) := POp.bin hx hy guard_int fun w => by
  subst en
  have e2 : (a >>> UInt32.ofNat s).toNat = a.toNat >>> s := by
    rw [UInt32.toNat_shiftRight, sh32 h]
  rw [binOp_shr, shift_shr .u32 k' a.toNat s (by omega) (by simp [IntKind.bits]; omega), w32, e2, Nat.shiftRight_eq_div_pow]; simp
theorem POp.conv832 {c : UInt8} {src dst : TypeId} {d' : TypeDesc} [hs : UTy P src d'] [hd : UTy P dst (.int .u32)] (hx : Env.ev E x = some (b8 c)) : POp P N ds E (.convert src dst x) ty (w32 c.toUInt32) := (POp.conv (k' := .u32) hx).of (by
  have := c.toNat_lt
  rw [wrap_u32, w32, UInt8.toNat_toUInt32]; congr 1; omega)
theorem POp.conv328 {src dst : TypeId} {d' : TypeDesc} [hs : UTy P src d'] [hd : UTy P dst (.int .u8)] (hx : Env.ev E x = some (w32 a)) : POp P N ds E (.convert src dst x) ty (b8 a.toUInt8) := (POp.conv (k' := .u8) hx).of (by
  rw [wrap_u8m, b8, UInt32.toNat_toUInt8]; congr 1)
theorem POp.conv648 {m : Nat} {src dst : TypeId} {d' : TypeDesc} [hs : UTy P src d'] [hd : UTy P dst (.int .u8)] (hx : Env.ev E x = some (.int .i64 (m : Int))) : POp P N ds E (.convert src dst x) ty (b8 (UInt8.ofNat m)) := (POp.conv (k' := .u8) hx).of (by
  rw [wrap_u8m, b8, UInt8.toNat_ofNat']; congr 1)
end
end Go.Sx
/-
  The layer with atoms: arrays by value, slices of arrays, copies into a block.
-/
namespace Go.Sx
open Go Go.RowKit
section
variable {P : Program} {r : Option Nat} {N : Nat} {ds : List Deferred} {ol rest : List Oper} {Q : Post} {E : Env} {w0 : World} {H : List Atom} {next : Act → World → Prop} {g : Option (Nat × Bool)}
variable {d : Nat} {t t' ty : TypeId} {pos : String} {af : Array Edge} {x y lo hi : Operand} {k k' : IntKind} {m n : Int}
theorem POp.index_agg {e : TypeId} {len bb i : Nat} {z v : Value} {cs : List Value} [h : UTy P t (.array len e)] [hi : ITy P e z 1 bb] [ha' : ATy P e false] (hx : Env.ev E x = some (.agg cs.toArray)) (hy : Env.ev E y = some (.int k n)) (ei : n = (i : Int)) (h1 : i < len) (hv : cs[i]? = some v) :
    POp P N ds E (.index t x y) ty v := fun a ha d pos af g w => by
  subst ei
  have h2 : (0 : Int) ≤ (i : Int) ∧ (i : Int) < (len : Int) := ⟨by omega, by omega⟩
  simp [execOp, ha.ev hx, ha.ev hy, Instr.index, asIntOf, run_underlying h.is, Sem.run_bind, h2, run_sizeOf, part, run_isAgg, hv]
  intro h; omega
theorem POp.arr_lo {e : TypeId} {len b off sz bb i : Nat} {z : Value} [h : UTy P t (.array len e)] [hi : ITy P e z sz bb] (hx : Env.ev E x = some (.pointer (some ⟨b, off, none⟩))) (hl : Env.ev E lo = some (.int k n)) (ei : n = (i : Int)) (h1 : i < len) :
    POp P N ds E (.slice t x (some lo) none none) ty (.slice (some ⟨b, off + i * sz, none⟩) (len - i) (len - i)) := fun a ha d pos af g w => by
  subst ei
  have hne : ¬ len = i := by omega
  simp [execOp, ha.ev hx, ha.ev hl, Instr.sliceAt, Instr.sureAddr, run_underlying h.is, Instr.sliceBounds, run_bound (show (0 : Int) ≤ i by omega) (show (i : Int) ≤ ((len : Nat) : Int) by omega), Sem.run_bind, run_sizeOf, hne, add_lit]
theorem POp.arr_hi {e : TypeId} {len b off sz bb i : Nat} {z : Value} [h : UTy P t (.array len e)] [hi' : ITy P e z sz bb] (hx : Env.ev E x = some (.pointer (some ⟨b, off, none⟩))) (hl : Env.ev E hi = some (.int k n)) (ei : n = (i : Int)) (h1 : i ≤ len) :
    POp P N ds E (.slice t x none (some hi) none) ty (.slice (some ⟨b, off, none⟩) i len) := fun a ha d pos af g w => by
  subst ei
  by_cases hne : len = 0
  · subst hne
    simp [execOp, ha.ev hx, ha.ev hl, Instr.sliceAt, Instr.sureAddr, run_underlying h.is, Instr.sliceBounds, run_bound (show (0 : Int) ≤ i by omega) (show (i : Int) ≤ ((0 : Nat) : Int) by omega), Sem.run_bind, run_sizeOf]
  · simp [execOp, ha.ev hx, ha.ev hl, Instr.sliceAt, Instr.sureAddr, run_underlying h.is, Instr.sliceBounds, run_bound (show (0 : Int) ≤ i by omega) (show (i : Int) ≤ ((len : Nat) : Int) by omega), Sem.run_bind, run_sizeOf, add_lit]
theorem POp.arr_all {e : TypeId} {len b off sz bb : Nat} {z : Value} [h : UTy P t (.array len e)] [hi' : ITy P e z sz bb] (hx : Env.ev E x = some (.pointer (some ⟨b, off, none⟩))) :
    POp P N ds E (.slice t x none none none) ty (.slice (some ⟨b, off, none⟩) len len) := fun a ha d pos af g w => by
  by_cases hne : len = 0
  · subst hne
    simp [execOp, ha.ev hx, Instr.sliceAt, Instr.sureAddr, run_underlying h.is, Instr.sliceBounds, Sem.run_bind, run_sizeOf]
  · simp [execOp, ha.ev hx, Instr.sliceAt, Instr.sureAddr, run_underlying h.is, Instr.sliceBounds, Sem.run_bind, run_sizeOf, add_lit]
/-- copy, into a block of the call's own. -/
theorem H1.copyB {e eb : TypeId} {z : Value} {bb b o dl dc sl sc : Nat} {ad : Addr} {cur cs cur' : List Value} {H' : List Atom} {t2 : TypeId} [h : UTy P t (.slice e)] [hi' : ITy P e z 1 bb] (hx : Env.ev E x = some (.slice (some ⟨b, o, none⟩) dl dc)) (hy : Env.ev E y = some (.slice (some ad) sl sc))
    (hn : cs.length = min sl dl) (hsrc : ∀ w, Mm w0 H w → ∀ j v, cs[j]? = some v → w.cell? (ad.add j) = some v) (h1 : ∀ v ∈ cs, v.oneCell' = true) (hfit : o + cs.length ≤ cur.length) (he : cur.take o ++ cs ++ cur.drop (o + cs.length) = cur')
    (hr : Rpl (A.blk b cur eb) (A.blk b cur' eb) H H') (hd : Nat.blt d N = true) (hn' : HN N ds next ((d, zv (cs.length : Int)) :: E) w0 H') :
    H1 P r N ds next ⟨some d, .call ⟨.builtin .copy, #[x, y], #[t, t2]⟩, ty, pos, af, g⟩ Q E w0 H := fun w hM => by
  subst he
  obtain ⟨i, hi1, hi2, hi3, hi4⟩ := hi'.parts
  have hb : w.heap[b]? = some (.cells cur.toArray eb (0, 0)) := hM.blk hr.mem
  have hrun := run_copy_row P w t t2 ty e b o dl dc ad sl sc cur.toArray eb cs h.is (by rw [hi1, Option.map_some, hi3]) hb hn (hsrc w hM) (by simpa using hfit) h1
  refine W1.run (v := zv (cs.length : Int)) (w' := w.setRow b (cur.take o ++ cs ++ cur.drop (o + cs.length)).toArray) (fun a ha => ?_) rfl hd (hn' _ (hM.turn hr rfl rfl rfl (by simp [World.setRow]) (fun q hq hq' => ?_) ?_ (by simp [A.blk]) fun b' hb' => .inl hb'))
  · simp only [execOp, resolve, invoke, Go.builtin, Sem.run_bind, Sem.run_pure, Result.andThen, List.map_toArray, List.map_cons, List.map_nil, ha.ev hx, ha.ev hy, hrun]; rfl
  · have hne : ¬ b = q := fun e => hq' (by simp [A.blk, e])
    simp [World.setRow, Array.getElem?_modify, hne]
  · show (w.setRow b _).heap[b]? = _
    simp [World.setRow, Array.getElem?_modify, hb]
/-- A call that turns own atoms. -/
theorem H1.callk {α : Type} {V : α → Value} {H' : α → List Atom} {I : α → Prop} {d : Option Nat} {f : FuncId} {args : List Operand} {ats : Array TypeId} {vs : List Value}
    [hf : CallOk P f] (hd : dOk d N = true) (ha : Env.evs E args = some vs) (hc : ∀ w, Mm w0 H w → Fn P f vs.toArray w fun v w' => ∃ z, I z ∧ v = V z ∧ Mm w0 (H' z) w')
    (h : ∀ z, I z → HN N ds next (putE d (V z) E) w0 (H' z)) :
    H1 P r N ds next ⟨d, .call ⟨.value (.func f), args.toArray, ats⟩, ty, pos, af, g⟩ Q E w0 H := fun w hM => W1.call hd ha (hc w hM) (by
    rintro v w' ⟨z, hz, rfl, hn⟩; exact h z hz w' hn)
variable {e : TypeId}
theorem run_equalIn_pnil [h : UTy P t (.pointer e)] (w : World) (d : Nat) (a : Option Addr) : (Op.equalIn (d + 1) t (.pointer a) (.pointer none)).run P w = .ok a.isNone w := by
  cases a <;> simp [Op.equalIn, Sem.run_bind, run_underlying h.is, Result.andThen]
theorem POp.pnil1 [h : UTy P t (.pointer e)] (hx : Env.ev E x = some (.pointer none)) (hy : Env.ev E y = some (.pointer none)) : POp P N ds E (.binOp .eql t x y t') ty (.bool true) :=
  POp.bin hx hy (fun w => by rw [eqGuard_at_pointer]; rfl) fun w => by
    have e1 := run_equalIn_pnil (P := P) (t := t) w 9999 none
    show ((Op.equalIn (9999 + 1) t (.pointer none) (.pointer none)) >>= fun r => pure (Value.bool r)).run P w = _
    rw [Sem.run_bind, e1]; rfl
theorem POp.pnil0 {a : Addr} [h : UTy P t (.pointer e)] (hx : Env.ev E x = some (.pointer (some a))) (hy : Env.ev E y = some (.pointer none)) : POp P N ds E (.binOp .eql t x y t') ty (.bool false) :=
  POp.bin hx hy (fun w => by rw [eqGuard_at_pointer]; rfl) fun w => by
    have e1 := run_equalIn_pnil (P := P) (t := t) w 9999 (some a)
    show ((Op.equalIn (9999 + 1) t (.pointer (some a)) (.pointer none)) >>= fun r => pure (Value.bool r)).run P w = _
    rw [Sem.run_bind, e1]; rfl
end
end Go.Sx
/-
  The layer with atoms: calls that may panic, functions that panic, deferred closures that recover.
-/
namespace Go.Sx
open Go Go.RowKit
section
variable {P : Program} {r : Option Nat} {N : Nat} {ds : List Deferred} {ol rest : List Oper} {Q : Post} {E : Env} {w0 : World} {H : List Atom} {next : Act → World → Prop} {g : Option (Nat × Bool)}
variable {d : Option Nat} {ty : TypeId} {pos : String} {af : Array Edge} {x : Operand}
/-- A call that returns, or panics with one chain. -/
def EndP {α β : Type} (I : α → Prop) (V : α → Value) (Ha : α → List Atom) (J : β → Prop) (ch : List PanicEntry) (Hb : β → List Atom) (w0 : World) (e : Ending) (w' : World) : Prop :=
  (∃ z, I z ∧ e = .returned (V z) ∧ Mm w0 (Ha z) w') ∨ (∃ z, J z ∧ e = .panicked ch ∧ Mm w0 (Hb z) w')
/-- A function that defers one closure; what it hands back lies in two variables. -/
theorem enterD {f : FuncId} {fn : Func} {c : Code} {l : List Value} {R : Ending → World → Prop} {w : World} [hf : FnIs P f fn] (hM : Mm w0 H w) (hb : fn.body = some c) (hN : fn.ntmps = N) (hl : Nat.ble l.length N = true)
    (h : HC P none N [] c (bodyPostDIn Fence.wide 0 P fn R) (Env.of 0 l) w0 H) : Calls P f l.toArray w R := by
  refine (callsIn_wide (n := 0)).1 (callsIn_of_wp_defers hf.is hb trivial ?_ rfl)
  have hl' : l.length ≤ N := by simpa using hl
  refine h w hM _ ⟨by simp [hN]; omega, rfl, fun t v ht => ?_⟩
  obtain ⟨-, h2⟩ := Env.of_g l 0 t v ht
  have hlt : t < l.length := by
    rcases Nat.lt_or_ge t l.length with h | h
    · exact h
    · simp [List.getElem?_eq_none h] at h2
  rw [Array.getElem?_append_left (by simpa using hlt)]
  simpa using h2
/-- A call that is made at the door: what becomes of the frame below and of the world. -/
def DFn (P : Program) (f : FuncId) (args : Array Value) (u u' : FrameMode) (w : World) (R : World → Prop) : Prop :=
  CallsDIn Fence.wide 0 P f args u w fun e v w' => e = .returned (.tuple #[]) ∧ v = u' ∧ R w'
end
theorem wpS_of_HC {P : Program} {N : Nat} {c : Code} {Q : Exit → Act → List Frame → World → Prop} {a : Act} {cs : List Frame} {w w0 : World} {H : List Atom} {E : Env} (hM : Mm w0 H w) (hr : Rep N [] E a) (h : HC P none N [] c (fun e a' w' => Q e a' cs w') E w0 H) :
    c.wpSIn Fence.wide 0 P Q a cs w := wpSIn_of_wpIn rfl (h w hM a hr)
theorem HX.endS {P : Program} {N : Nat} {E : Env} {w0 : World} {H : List Atom} {fn : Func} {c₀ : Frame} {cs : List Frame} {u : FrameMode} {R : Ending → FrameMode → World → Prop} (hr : fn.results = #[]) (h : ∀ w, Mm w0 H w → R (.returned (.tuple #[])) u w) :
    HX N [] .normal (fun e a' w' => bodyPostS P fn c₀ cs R e a' ({ c₀ with mode := u } :: cs) w') E w0 H := fun w hM _ ha => ⟨ha.defers, u, rfl, _, results_none hr _ _ _, h w hM⟩
theorem frame_same {c : Frame} {u : FrameMode} (h : c.mode = u) : c = { c with mode := u } := by
  cases c; simp only at h; subst h; rfl
end Go.Sx
/- Chapter 20: strings.Builder inside of the writer; put. -/
namespace Go.Sx
open Go Go.Proofs Go.RowKit
theorem hwXJ {G G2 : Prop} (x : G2) (hwq : Hold G2 → G := by
    intro hQq
    repeat' (first | apply HL.fold | apply HA.fold | apply HL.nil | apply HX.n_then | apply HC.seq | apply HC.region | refine HL.pa ?_ | refine HL.ga rfl ?_ | refine HL.na rfl ?_ | refine HL.nu rfl rfl ?_ | apply HC.block | apply HC.skip | apply HC.exit | apply HC.ret | apply HX.e_block | refine HX.e_other rfl ?_ | apply HX.e_then | apply HX.e_again | apply HX.n_block | apply HX.r_then | apply HX.r_block | apply HX.r_again | refine HC.cond_yes rfl ?_ | refine HC.cond_no rfl ?_ | refine HL.one (H1.ldb rfl memA rfl rfl ?_) | refine HC.cond rfl (fun hc => ?_) (fun hc => ?_) | refine HC.cond_b rfl (fun hc => ?_) (fun hc => ?_))
    exact hQq.get) : G := hwq ⟨x⟩
section
variable {P : Program} {r : Option Nat} {N : Nat} {ds : List Deferred} {Q : Post} {E : Env} {w0 : World} {H : List Atom} {next : Act → World → Prop} {g : Option (Nat × Bool)}
variable {d : Nat} {t t' ty e : TypeId} {pos : String} {af : Array Edge} {x y : Operand}
theorem POp.pneq {a : Addr} {z : Value} {n bb : Nat} [h : UTy P t (.pointer e)] [hi : ITy P e z n bb] (hx : Env.ev E x = some (.pointer (some a))) (hy : Env.ev E y = some (.pointer (some a))) : POp P N ds E (.binOp .neq t x y t') ty (.bool false) :=
  POp.bin hx hy (fun w => by rw [eqGuard_at_pointer]; rfl) fun w => by
    obtain ⟨i, hi1, -⟩ := hi.parts
    exact Lib.run_neq_ptr_same w a h.is hi1
theorem H1.toUnsafe {src dst u eb : TypeId} {b n bb : Nat} {cs : List Value} {z : Value} [h1 : UTy P src (.pointer u)] [h2 : UTy P dst .unsafePointer] [h3 : ITy P u z n bb] (hx : Env.ev E x = some (.pointer (some ⟨b, 0, none⟩))) (hm : A.blk b cs eb ∈ H)
    (hn : Nat.beq n 0 = false) (hc : 0 < cs.length) (hd : Nat.blt d N = true) (h : HN N ds next ((d, .pointer (some ⟨b, 0, none⟩)) :: E) w0 H) : H1 P r N ds next ⟨some d, .convert src dst x, ty, pos, af, g⟩ Q E w0 H := fun w hM =>
  W1.run (fun a ha => by
    obtain ⟨i, hi1, -, hi3, -⟩ := h3.parts
    have hb : w.heap[b]? = some (.cells cs.toArray eb (0, 0)) := hM.blk hm
    have := Lib.run_to_unsafe w ⟨b, 0, none⟩ h1.is h2.is hi1 (by rw [hi3]; intro e; subst e; cases hn) (show w.shape? b = some (eb, cs.length) by simp [World.shape?, hb]) hc
    simp only [execOp, ha.ev hx, Sem.run_bind, this, Result.andThen, Sem.run_pure]) rfl hd (h w hM)
theorem H1.fromUnsafe {src dst u eb : TypeId} {b n bb : Nat} {cs : List Value} {z : Value} [h1 : UTy P src .unsafePointer] [h2 : UTy P dst (.pointer u)] [h3 : ITy P u z n bb] (hx : Env.ev E x = some (.pointer (some ⟨b, 0, none⟩))) (hm : A.blk b cs eb ∈ H)
    (hl : liesAt P P.depth eb (cs.length / P.cellsOf eb) 0 u 1 = true) (hd : Nat.blt d N = true) (h : HN N ds next ((d, .pointer (some ⟨b, 0, none⟩)) :: E) w0 H) : H1 P r N ds next ⟨some d, .convert src dst x, ty, pos, af, g⟩ Q E w0 H := fun w hM =>
  W1.run (fun a ha => by
    obtain ⟨i, hi1, -, hi3, -⟩ := h3.parts
    have hb : w.heap[b]? = some (.cells cs.toArray eb (0, 0)) := hM.blk hm
    have := Lib.run_from_unsafe w ⟨b, 0, none⟩ h1.is h2.is hi1 (show w.shape? b = some (eb, cs.length) by simp [World.shape?, hb]) hl
    simp only [execOp, ha.ev hx, Sem.run_bind, this, Result.andThen, Sem.run_pure]) rfl hd (h w hM)
theorem H1.noEscape {f : FuncId} {fn : Func} {v : Value} {ats : Array TypeId} (hf : P.funcs[f]? = some fn) (hname : (fn.name == "runtime.NumGoroutine") = false) (hb : fn.body.isNone = true) (hn : Extern.findNext fn = none) (he : Extern.find fn = some Extern.AbiNoEscape.same)
    (hx : Env.ev E x = some v) (hd : Nat.blt d N = true) (h : HN N ds next ((d, v) :: E) w0 H) : H1 P r N ds next ⟨some d, .call ⟨.value (.func f), #[x], ats⟩, ty, pos, af, g⟩ Q E w0 H := fun w hM =>
  W1.run (fun a ha => by
    have h1 := run_callFunc_extern hf hname hb hn he #[v] w
    rw [Lib.run_noEscape] at h1
    have h2 := ha.ev hx
    show ((resolve a.eval ⟨.value (.func f), #[x], ats⟩ ty) >>= fun df => invoke df.target df.args).run P w = _
    simp only [resolve, List.map_toArray, List.map_cons, List.map_nil, h2]
    exact h1) rfl hd (h w hM)
theorem run_append_str2 {w : World} {u : TypeId} (i : TypeInfo) (ht : P.underlying t = some (.slice e)) (hu : P.underlying u = some .string) (hi : P.info? e = some i) (hz : i.zero = some (.int .u8 0)) (hsize : i.size = 1) (hby : i.bytes = 1)
    (v : Value) (n : Nat) (xs : List Value) (hown : w.ownsRow 0 e 1 v n xs) (s : ByteArray) (h6 : n + s.size ≤ 1000000) :
    ∃ a' c' w', (Builtin.append_ #[t, u] ty #[v, .string s]).run P w = .ok (.slice a' (n + s.size) c') w' ∧ w'.ownsRow 0 e 1 (.slice a' (n + s.size) c') (n + s.size) (xs ++ Lib.strCells s) ∧ w.grownBy w' v.ownBlock ∧
      (∀ b, (Value.slice a' (n + s.size) c').ownBlock = some b → v.ownBlock = some b ∨ w.heap.size ≤ b) := by
  have h63 : n + s.size ≤ maxLen := by simp only [maxLen]; omega
  have h48 : n + s.size ≤ 140737488355328 := by omega
  obtain ⟨v', w', hr, h2, h3, -⟩ := Lib.run_append_own_string (P := P) (w := w) 0 t u ty e i ht hu hi hz hsize hby v n xs hown s h63 h48 (Nat.zero_le _)
  have hnew : ∀ b, v'.ownBlock = some b → v.ownBlock = some b ∨ w.heap.size ≤ b := by
    intro b hb
    rcases hown.2 with ⟨rfl, rfl⟩ | ⟨g, cap, cur, rfl, hbg, hg, hnc, hcm, hcs, htake⟩
    · have hx : xs = [] := List.eq_nil_of_length_eq_zero (by simpa using hown.1)
      subst hx
      obtain ⟨v'', w'', hr', h2', -, -⟩ := Lib.run_append_own_string (P := P) (w := w) w.heap.size t u ty e i ht hu hi hz hsize hby _ 0 [] (World.ownsRow_nil w w.heap.size e 1) s h63 h48 (Nat.le_refl _)
      rw [hr] at hr'
      cases hr'
      exact .inr (h2'.lt b hb).1
    · by_cases hroom : n + s.size ≤ cap
      · have hr' := Lib.run_append_room_string (P := P) (w := w) t u ty e i ht hu hi hsize g n cap cur hg s hroom (by omega)
        rw [hr] at hr'
        cases hr'
        exact .inl hb
      · have holds : ∀ j u, xs[j]? = some u → w.cell? ((⟨g, 0, none⟩ : Addr).add j) = some u := hown.cells (g := g) rfl
        have hr' := Lib.run_append_grow_string (P := P) (w := w) t u ty e i (.int .u8 0) ht hu hi hz ⟨g, 0, none⟩ n cap xs (by rw [hown.1, hsize]) holds s (by omega) (by omega) (growslice_fits (by omega) (by rw [hby]; omega))
        rw [hr] at hr'
        cases hr'
        right
        simp only [Value.ownBlock, Option.some.injEq] at hb
        subst hb
        simp
  rcases h2.2 with ⟨rfl, h0⟩ | ⟨g, cap, cur, rfl, hbg, hg, hnc, hcm, hcs, htake⟩
  · refine ⟨none, 0, w', ?_, ?_, h3, ?_⟩ <;> rw [h0]
    · exact hr
    · rwa [h0] at h2
    · exact hnew
  · exact ⟨_, cap, w', hr, h2, h3, hnew⟩
theorem ub_str (ys : List UInt8) (s : ByteArray) : ub ys ++ Lib.strCells s = ub (ys ++ s.data.toList) := by
  unfold ub
  rw [List.map_append]; rfl
theorem str_len (ys : List UInt8) (s : ByteArray) : (ys ++ s.data.toList).length = ys.length + s.size := by
  rw [List.length_append, Array.length_toList]; rfl
/-- append of a string, onto a slice of the call's own. -/
theorem H1.appS {u : TypeId} {c : Nat} {a : Option Addr} {ys : List UInt8} {s : ByteArray} {H' : Option Addr → Nat → List Atom} [h : UTy P t (.slice e)] [h2 : UTy P u .string] [hi : ITy P e (.int .u8 0) 1 1]
    (hx : Env.ev E x = some (.slice a ys.length c)) (hy : Env.ev E y = some (.string s)) (hr : ∀ a' c', Rpl (A.grow e 1 a c ys.length (ub ys)) (A.grow e 1 a' c' (ys ++ s.data.toList).length (ub (ys ++ s.data.toList))) H (H' a' c'))
    (hnm : ys.length + s.size ≤ 1000000) (hd : Nat.blt d N = true)
    (hn : ∀ a' c', HN N ds next ((d, .slice a' (ys ++ s.data.toList).length c') :: E) w0 (H' a' c')) :
    H1 P r N ds next ⟨some d, .call ⟨.builtin .append, #[x, y], #[t, u]⟩, ty, pos, af, g⟩ Q E w0 H := fun w hM => by
  obtain ⟨i, hi1, hi2, hi3, hi4⟩ := hi.parts
  obtain ⟨a', c', w', hrun, h3, h4, h5⟩ := run_append_str2 (P := P) (ty := ty) (w := w) i h.is h2.is hi1 hi2 hi3 hi4 (.slice a ys.length c) ys.length (ub ys) (hM.own (hr none 0).mem) s hnm
  rw [ub_str, ← str_len] at h3
  rw [← str_len] at hrun h5
  refine W1.run (v := .slice a' (ys ++ s.data.toList).length c') (w' := w') (fun b ha => ?_) rfl hd (hn a' c' w' (hM.turn (hr a' c') h4.os h4.tape h4.output h4.size (fun k hk hk' => h4.block k hk fun e => hk' (by simp [A.grow, ← e])) h3 ?_ fun b hb => ?_))
  · simp only [execOp, resolve, invoke, Go.builtin, Sem.run_bind, Sem.run_pure, Result.andThen, List.map_toArray, List.map_cons, List.map_nil, ha.ev hx, ha.ev hy, hrun]
  · show (Option.toList _).Nodup
    cases (Value.slice a' (ys ++ s.data.toList).length c').ownBlock <;> simp
  · have hb' : (Value.slice a' (ys ++ s.data.toList).length c').ownBlock = some b := by simpa [A.grow] using hb
    rcases h5 b hb' with h6 | h6
    · left; simp only [A.grow, h6]; simp
    · exact .inr ⟨h6, (h3.lt b hb').2⟩
theorem POp.sliceData {b n c : Nat} {ats : Array TypeId} (hx : Env.ev E x = some (.slice (some ⟨b, 0, none⟩) n c)) (hc : c ≠ 0) : POp P N ds E (.call ⟨.builtin .unsafeSliceData, #[x], ats⟩) ty (.pointer (some ⟨b, 0, none⟩)) := fun a ha d pos af g w => by
  have h1 : (Builtin.unsafeSliceData_ ats ty #[.slice (some ⟨b, 0, none⟩) n c]).run P w = .ok (.pointer (some ⟨b, 0, none⟩)) w := Lib.run_unsafeSliceData_row _ _ _ _ _ _ hc
  simp only [execOp, resolve, invoke, Go.builtin, Sem.run_bind, Sem.run_pure, Result.andThen, List.map_toArray, List.map_cons, List.map_nil, ha.ev hx, h1]
theorem HC.capOfG {co : Code} {n c : Nat} {a : Option Addr} {xs : List Value} (hm : A.grow e 1 a c n xs ∈ H) (h : n ≤ c → HC P r N ds co Q E w0 H) : HC P r N ds co Q E w0 H := fun w hM => by
  refine h ?_ w hM
  rcases (hM.own hm).2 with ⟨h1, rfl⟩ | ⟨g, cap, cur, hv, -, -, hnc, -⟩
  · exact Nat.zero_le _
  · cases hv; exact hnc
theorem H1.unsafeStr {pt it : TypeId} {b c : Nat} {ys : List UInt8} {H' : List Atom} [hp : UTy P pt (.pointer e)] (hc : P.cellsOf e = 1) (hx : Env.ev E x = some (.pointer (some ⟨b, 0, none⟩))) (hy : Env.ev E y = some (zv (ys.length : Int))) (h0 : ys ≠ [])
    (hm : Pick (A.grow e 1 (some ⟨b, 0, none⟩) c ys.length (ub ys)) H H') (hd : Nat.blt d N = true) (hn : HN N ds next ((d, .string ⟨ys.toArray⟩) :: E) w0 H') :
    H1 P r N ds next ⟨some d, .call ⟨.builtin .unsafeString, #[x, y], #[pt, it]⟩, ty, pos, af, g⟩ Q E w0 H := fun w hM => by
  have hM2 := hM.perm hm.perm
  have hown := hM2.own (List.Mem.head _)
  obtain ⟨g', cap, cur, hv, -, hg, hnc, hcm, hcs, htake⟩ : ∃ g' cap cur, (Value.slice (some ⟨b, 0, none⟩) ys.length c) = .slice (some ⟨g', 0, none⟩) ys.length cap ∧ 0 ≤ g' ∧ w.heap[g']? = some (.cells cur e (0, 0)) ∧ ys.length ≤ cap ∧ cap ≤ maxLen ∧ cur.size = cap * 1 ∧ cur.toList.take (ys.length * 1) = ub ys := by
    rcases hown.2 with ⟨hv, -⟩ | h
    · cases hv
    · exact h
  cases hv
  have hrun := Lib.run_unsafeString_row (P := P) w pt it ty e hp.is hc b cur.size (by simp [World.shape?, hg]) ys h0 (by omega) (by simp only [maxLen] at hcm; omega) (fun j x hx => by
    rw [add_lit, Nat.zero_add]
    exact ownsRow_cell hown (by simp [ub, hx]))
  refine W1.run (v := .string ⟨ys.toArray⟩) (w' := w.freeze ⟨b, 0, none⟩ ys.length) (fun a ha => ?_) rfl hd (hn _ (hM2.drop1 (l := b) rfl ?_))
  · simp only [execOp, resolve, invoke, Go.builtin, Sem.run_bind, Sem.run_pure, Result.andThen, List.map_toArray, List.map_cons, List.map_nil, ha.ev hx, ha.ev hy, hrun]
  · unfold World.freeze
    by_cases hz : ys.length = 0
    · rw [if_pos hz]; exact ⟨rfl, rfl, rfl, rfl, fun _ _ => rfl⟩
    · rw [if_neg hz]
      refine ⟨rfl, rfl, rfl, by simp, fun k hk => ?_⟩
      simp only [Array.getElem?_modify]
      rw [if_neg (fun e => hk e.symm)]
end
def putL (l : List Int) : List UInt8 := (l.map fun n => putN n.toNat).flatten
abbrev bldH (b : Nat) (p : Option Addr) (a : Option Addr) (c : Nat) (ys : List UInt8) (H : List Atom) : List Atom := A.blk b [.pointer p, .slice a ys.length c] 232 :: A.grow 5 1 a c ys.length (ub ys) :: H
attribute [local irreducible] WC WL WX POp Then Again Fn NX W1 WA WO QL RP RA Yld LoopAt HC HL HX HN H1 HA HO HQ HB HP A.blk A.grow A.rd A.obj A.mp AgainH CutH
theorem copyCheck_fn {w0 w : World} {H : List Atom} {b : Nat} {p : Option Addr} {s : Value} (hM : Mm w0 (A.blk b [.pointer p, s] 232 :: H) w) (hp : p = none ∨ p = some ⟨b, 0, none⟩) :
    Fn Tryz.prog 252 #[.pointer (some ⟨b, 0, none⟩)] w fun v w' => v = .tuple #[] ∧ Mm w0 (A.blk b [.pointer (some ⟨b, 0, none⟩), s] 232 :: H) w' := by
  refine enterK (l := [_]) hM rfl Tryz.ntmps252 rfl ?_
  rcases hp with rfl | rfl
  · refine hwXJ ?_
    refine HL.pa ?_ (POp.nilCheck rfl)
    refine hwXJ ?_
    refine HL.pa ?_ (POp.pnil1 rfl rfl)
    refine hwXJ ?_
    refine HL.one (H1.toUnsafe (cs := [.pointer none, s]) rfl memA rfl (Nat.zero_lt_succ 1) rfl ?_)
    refine hwXJ ?_
    refine HL.one (H1.noEscape Tryz.func272 (by kernel_rfl) (by kernel_rfl) (by kernel_rfl) (by kernel_rfl) rfl rfl ?_)
    refine hwXJ ?_
    refine HL.one (H1.fromUnsafe (cs := [.pointer none, s]) rfl memA (by kernel_rfl) rfl ?_)
    refine hwXJ ?_
    refine HL.pa ?_ (POp.nilCheck rfl)
    refine hwXJ ?_
    refine HL.one (H1.st rfl rfl (by intro _ h; cases h) (by intro _ h; cases h) rplA (by simp) ?_)
    refine hwXJ ?_
    exact HX.end0 rfl fun w' hM => ⟨rfl, hM⟩
  · refine hwXJ ?_
    refine HL.pa ?_ (POp.nilCheck rfl)
    refine hwXJ ?_
    refine HL.pa ?_ (POp.pnil0 rfl rfl)
    refine hwXJ ?_
    refine HL.pa ?_ (POp.nilCheck rfl)
    refine hwXJ ?_
    refine HL.pa ?_ (POp.pneq rfl rfl)
    refine hwXJ ?_
    exact HX.end0 rfl fun w' hM => ⟨rfl, hM⟩
theorem writeString_fn {w0 w : World} {H : List Atom} {b c : Nat} {p a : Option Addr} {ys : List UInt8} (s : ByteArray) (hM : Mm w0 (bldH b p a c ys H) w) (hp : p = none ∨ p = some ⟨b, 0, none⟩) (hs : ys.length + s.size ≤ 1000000) :
    Fn Tryz.prog 190 #[.pointer (some ⟨b, 0, none⟩), .string s] w fun v w' => ∃ q : Option Addr × Nat, True ∧ v = .tuple #[zv (s.size : Int), .nilIface] ∧ Mm w0 (bldH b (some ⟨b, 0, none⟩) q.1 q.2 (ys ++ s.data.toList) H) w' := by
  refine enterK (l := [_, _]) hM rfl Tryz.ntmps190 rfl ?_
  refine hwXJ ?_
  refine HL.one (H1.callk (α := Unit) (V := fun _ => .tuple #[]) (I := fun _ => True) (H' := fun _ => bldH b (some ⟨b, 0, none⟩) a c ys H) (vs := [.pointer (some ⟨b, 0, none⟩)]) rfl rfl (fun w' hM => (copyCheck_fn hM hp).mono fun v w' h => ⟨(), trivial, h⟩) ?_)
  rintro - -
  refine hwXJ ?_
  refine HL.pa ?_ (POp.nilCheck rfl)
  refine hwXJ ?_
  refine HL.one (H1.appS rfl rfl (fun _ _ => by first | ((repeat (first | with_reducible exact Rpl.here | with_reducible apply Rpl.there)); done) | (repeat (first | exact Rpl.here | apply Rpl.there))) hs rfl (fun a' c' => ?_))
  refine hwXJ ?_
  refine HL.pa ?_ (POp.nilCheck rfl)
  refine hwXJ ?_
  refine HL.one (H1.st rfl rfl (by intro _ h; cases h) (by intro _ h; cases h) rplA (by simp) ?_)
  refine hwXJ ?_
  exact HX.ret2 rfl rfl rfl fun w' hM => ⟨(a', c'), trivial, rfl, hM⟩
theorem putL_take {l : List Int} {j : Nat} (h : j < l.length) : putL (l.take (j + 1)) = putL (l.take j) ++ putN (at' l j).toNat := by
  unfold putL
  rw [take_at h, List.map_append, List.flatten_append]
  simp
theorem putL_len {l : List Int} (h : ∀ x ∈ l, 0 ≤ x ∧ x ≤ 1099511627776) : (putL l).length ≤ 9 * l.length := by
  induction l with
  | nil => simp [putL]
  | cons x l ih =>
    have h1 := ih fun y hy => h y (List.mem_cons_of_mem _ hy)
    have h2 := h x (List.mem_cons_self ..)
    have h3 : (putN x.toNat).length ≤ 9 := strN_size (n := x.toNat) (by omega)
    have e : putL (x :: l) = putN x.toNat ++ putL l := rfl
    rw [e, List.length_append, List.length_cons]; omega
theorem put_fn {w0 w : World} {H : List Atom} {b bl c : Nat} {p a : Option Addr} {ys : List UInt8} (l : List Int) (hM : Mm w0 (bldH b p a c ys (A.blk bl (ints l) 3 :: H)) w) (hp : p = none ∨ p = some ⟨b, 0, none⟩) (hl : ∀ x ∈ l, 0 ≤ x ∧ x ≤ 1099511627776) (hlen : ys.length + 9 * l.length ≤ 1000000) :
    Fn Tryz.prog 152 #[.pointer (some ⟨b, 0, none⟩), .slice (some ⟨bl, 0, none⟩) l.length l.length] w fun v w' => ∃ q : Option Addr × Option Addr × Nat, (q.1 = none ∨ q.1 = some ⟨b, 0, none⟩) ∧ v = .tuple #[] ∧ Mm w0 (bldH b q.1 q.2.1 q.2.2 (ys ++ putL l) H) w' := by
  refine enterK (l := [_, _]) hM rfl Tryz.ntmps152 rfl ?_
  refine hwXJ ?_
  refine HC.loop (α := Nat × Option Addr × Option Addr × Nat) (fun z => [(0, .pointer (some ⟨b, 0, none⟩)), (8, .slice (some ⟨bl, 0, none⟩) l.length l.length), (9, zv (l.length : Int)), (10, zv (z.1 : Int))])
    (fun z => bldH b z.2.1 z.2.2.1 z.2.2.2 (ys ++ putL (l.take z.1)) (A.blk bl (ints l) 3 :: H)) (fun z => z.1 ≤ l.length ∧ (z.2.1 = none ∨ z.2.1 = some ⟨b, 0, none⟩)) (fun z => l.length - z.1) (0, p, a, c) ⟨Nat.zero_le _, hp⟩ esA
    (by show Hs (bldH b p a c ys _) (bldH b p a c (ys ++ putL (l.take 0)) _); rw [List.take_zero, show putL [] = [] from rfl, List.append_nil]; exact Hs.refl _) ?_
  rintro ⟨j, p', a', c'⟩ ⟨hj, hp'⟩
  dsimp only at hj hp' ⊢
  by_cases hlt : j < l.length
  · have hx := hl _ (at_mem hlt)
    have hget := ints_get hlt
    have htk := putL_take hlt
    obtain ⟨n, hn⟩ := Int.eq_ofNat_of_zero_le hx.1
    rw [hn] at hget htk hx
    rw [Int.toNat_natCast] at htk
    have hpl := putL_len (l := l.take j) fun x hx => hl x (List.mem_of_mem_take hx)
    rw [List.length_take, Nat.min_eq_left hj] at hpl
    have hsz := strN_size (n := n) (by omega)
    refine hwXJ ?_
    refine HL.one (H1.ldb (v := zv (n : Int)) rfl memA hget rfl ?_)
    refine hwXJ ?_
    refine HL.one (H1.callx (vs := [zv (n : Int)]) rfl rfl (fun w' _ => putInt_fn n (by omega) w') ?_)
    refine hwXJ ?_
    refine HL.pa ?_ (POp.nilCheck rfl)
    refine hwXJ ?_
    refine HL.one (H1.callk (α := Option Addr × Nat) (V := fun _ => .tuple #[zv ((strN n).size : Int), .nilIface]) (I := fun _ => True) (H' := fun q => bldH b (some ⟨b, 0, none⟩) q.1 q.2 (ys ++ putL (l.take j) ++ (strN n).data.toList) (A.blk bl (ints l) 3 :: H)) (vs := [.pointer (some ⟨b, 0, none⟩), .string (strN n)]) rfl rfl
      (fun w' hM => writeString_fn (strN n) hM hp' (by rw [List.length_append]; omega)) ?_)
    rintro ⟨a2, c2⟩ -
    dsimp only
    rw [List.append_assoc, show (strN n).data.toList = putN n from rfl, ← htk]
    refine hwXJ ?_
    exact HX.again (j + 1, some ⟨b, 0, none⟩, a2, c2) ⟨hlt, .inr rfl⟩ (by show l.length - (j + 1) < l.length - j; omega) esA (Hs.refl _)
  · obtain rfl : j = l.length := by omega
    rw [List.take_length]
    refine hwXJ ?_
    exact HX.end0 rfl fun w' hM => ⟨(p', a', c'), hp', rfl, hM.sub (Hs.cons Pick.here (Hs.cons Pick.here (Hs.refl _).skip))⟩
set_option maxHeartbeats 1000000 in
theorem builderString_fn {w0 w : World} {H : List Atom} {b c : Nat} {p a : Option Addr} {ys : List UInt8} (hM : Mm w0 (bldH b p a c ys H) w) (h0 : ys ≠ []) :
    Fn Tryz.prog 68 #[.pointer (some ⟨b, 0, none⟩)] w fun v w' => v = .string ⟨ys.toArray⟩ ∧ Mm w0 H w' := by
  have hne : ys.length ≠ 0 := by simpa using h0
  refine enterK (l := [_]) hM rfl Tryz.ntmps68 rfl ?_
  refine HC.openg (e := 5) (a := a) (xs := ub ys) memA hne ?_
  rintro g rfl
  refine hwXJ ?_
  refine HC.capOfG (e := 5) (xs := ub ys) memA fun hcap => ?_
  have hc0 : c ≠ 0 := by omega
  refine HC.anyC ([(⟨b, 1, none⟩, .slice (some ⟨g, 0, none⟩) ys.length c)]) rfl ?_
  refine HB.pa 0 rfl ?_
  refine HB.pa 1 rfl ?_ (POp.nilCheck rfl)
  refine HB.pa 2 rfl ?_
  refine HB.ld 3 rfl rfl memD ?_
  refine HB.pa 4 rfl ?_ (POp.sliceData rfl hc0)
  refine HB.pa 5 rfl ?_
  refine HB.pa 6 rfl ?_ (POp.nilCheck rfl)
  refine HB.pa 7 rfl ?_
  refine HB.ld 8 rfl rfl memD ?_
  refine HB.pa 9 rfl ?_
  refine HB.all (by repeat (first | exact Keep.nil | refine Keep.blk (by (repeat (first | exact List.Mem.head _ | apply List.Mem.tail)); done) rfl ?_ | refine Keep.grow (by (repeat (first | exact List.Mem.head _ | apply List.Mem.tail)); done) (by assumption) ?_ | refine Keep.base (by assumption) ?_)) [10] (by kernel_rfl) rfl ⟨⟨_, rfl, ?_⟩, trivial⟩
  refine HP.one ?_
  refine H1.unsafeStr (b := g) (c := c) (ys := ys) (by kernel_rfl) rfl rfl h0 (Pick.there Pick.here) rfl ?_
  apply HB.fold
  refine HB.pa 11 rfl ?_
  refine HB.done (by repeat (first | exact Keep.nil | refine Keep.blk (by (repeat (first | exact List.Mem.head _ | apply List.Mem.tail)); done) rfl ?_ | refine Keep.grow (by (repeat (first | exact List.Mem.head _ | apply List.Mem.tail)); done) (by assumption) ?_ | refine Keep.base (by assumption) ?_)) (by kernel_rfl) ?_
  refine hwXJ ?_
  exact HX.ret1 rfl rfl fun w' hM => ⟨rfl, hM.tail⟩
end Go.Sx
/- Chapter 24: Valid: the walk. -/
namespace Go.Sx
open Go Go.Proofs Go.RowKit
section
variable {P : Program} {w : World} {t k e : TypeId} {q : IntKind} {b : Nat} {l : List (Int × Value)} {o : Obj} {z : Value} {sz bb : Nat}
theorem run_lookup_mq2 (ht : P.underlying t = some (.map k e)) (hk : P.underlying k = some (.int q)) [hi : ITy P e z sz bb] (hb : w.heap[b]? = some o) (ho : mqP q l o) (x : Int) :
    (Instr.lookup t (.map (some b)) (.int q x) true).run P w = .ok (.tuple #[(mget l x).getD z, .bool (mget l x).isSome]) w := by
  obtain ⟨es, clk, rfl, h⟩ := ho
  have hf := run_findKey_int (P := P) (w := w) hk x es.toList l h.ents
  unfold Instr.lookup
  simp only [Sem.run_bind, run_underlying ht, Result.andThen, run_getMap hb, Sem.run_pure, run_checkKey_int hk _ 9999 x, hf]
  rw [← midx_get]
  cases midx l x with
  | none => simp [run_zeroValue (h := hi)]
  | some p => simp
end
section
variable {P : Program} {r : Option Nat} {N : Nat} {ds : List Deferred} {ol rest : List Oper} {Q : Post} {E : Env} {w0 : World} {H : List Atom} {next : Act → World → Prop} {g : Option (Nat × Bool)}
variable {d : Nat} {t ty : TypeId} {pos : String} {af : Array Edge} {x y z : Operand}
theorem H1.mqget2 {b : Nat} {k e : TypeId} {q : IntKind} {l : List (Int × Value)} {n : Int} {zv : Value} {sz bb : Nat} [ht : UTy P t (.map k e)] [hk : UTy P k (.int q)] [hi : ITy P e zv sz bb] (hx : Env.ev E x = some (.map (some b))) (hy : Env.ev E y = some (.int q n))
    (hm : A.mq b q l ∈ H) (hd : Nat.blt d N = true) (h : HN N ds next ((d, .tuple #[(mget l n).getD zv, .bool (mget l n).isSome]) :: E) w0 H) : H1 P r N ds next ⟨some d, .lookup t x y true, ty, pos, af, g⟩ Q E w0 H := fun w hM => by
  obtain ⟨o, h1, h2⟩ : ∃ o, w.heap[b]? = some o ∧ mqP q l o := hM.all _ hm
  refine W1.run (v := .tuple #[(mget l n).getD zv, .bool (mget l n).isSome]) (w' := w) (fun a ha' => ?_) rfl hd (h w hM)
  simp only [execOp, ha'.ev hx, ha'.ev hy, Sem.run_bind, run_lookup_mq2 ht.is hk.is h1 h2 n, Result.andThen, Sem.run_pure]
end
theorem mget_mset2 (l : List (Int × Value)) (n : Int) (v : Value) (x : Int) : mget (mset l n v) x = if x = n then some v else mget l x := by
  induction l with
  | nil => rfl
  | cons p l ih =>
    obtain ⟨y, u⟩ := p
    show mget (if n = y then (n, v) :: l else (y, u) :: mset l n v) x = if x = n then some v else (if x = y then some u else mget l x)
    by_cases h : n = y
    · subst h
      rw [if_pos rfl]
      show (if x = n then some v else mget l x) = _
      by_cases h2 : x = n
      · rw [if_pos h2, if_pos h2]
      · rw [if_neg h2, if_neg h2, if_neg h2]
    · rw [if_neg h]
      show (if x = y then some u else mget (mset l n v) x) = _
      rw [ih]
      by_cases h2 : x = n
      · subst h2; rw [if_neg h, if_pos rfl, if_pos rfl]
      · rw [if_neg h2, if_neg h2]
/-- The map of the first nodes. -/
def trM (l : List Nd) (U : Nat → Value) : Nat → List (Int × Value)
  | 0 => []
  | i + 1 => mset (trM l U i) (ndAt l i).id (ndV (ndAt l i) (U i))
attribute [local irreducible] WC WL WX POp Then Again Fn NX W1 WA WO QL RP RA Yld LoopAt HC HL HX HN H1 HA HO HQ HB HP A.blk A.grow A.rd A.obj A.mp AgainH CutH
attribute [local irreducible] A.mq A.mit
end Go.Sx
/- content.Property at the fixed example of the top laws: the walk. -/
namespace Go.Sx
open Go Go.Proofs Go.RowKit
theorem hwF3 {G G2 : Prop} (x : G2) (hwq : Hold G2 → G := by
    intro hQq
    repeat' (first | refine HL.pa ?_ (POp.nilCheck rfl) | apply HL.fold | apply HA.fold | apply HL.nil | apply HX.n_then | apply HC.seq | apply HC.region | refine HL.pa ?_ | refine HL.ga rfl ?_ | refine HL.na rfl ?_ | refine HL.nu rfl rfl ?_ | apply HC.block | apply HC.skip | apply HC.exit | apply HC.ret | apply HX.e_block | refine HX.e_other rfl ?_ | apply HX.e_then | apply HX.e_again | apply HX.n_block | apply HX.r_then | apply HX.r_block | apply HX.r_again | refine HC.cond_yes rfl ?_ | refine HC.cond_no rfl ?_ | refine HL.one (H1.ldb rfl memA rfl rfl ?_) | refine HC.cond rfl (fun hc => ?_) (fun hc => ?_) | refine HC.cond_b rfl (fun hc => ?_) (fun hc => ?_))
    exact hQq.get) : G := hwq ⟨x⟩
abbrev bldE (eb : TypeId) (b : Nat) (p : Option Addr) (a : Option Addr) (c : Nat) (ys : List UInt8) (H : List Atom) : List Atom := A.blk b [.pointer p, .slice a ys.length c] eb :: A.grow 5 1 a c ys.length (ub ys) :: H
section
variable {P : Program} {r : Option Nat} {N : Nat} {ds : List Deferred} {Q : Post} {E : Env} {w0 : World} {H : List Atom} {next : Act → World → Prop} {g : Option (Nat × Bool)}
theorem H1.callvk {α : Type} {V : α → Value} {H' : α → List Atom} {I : α → Prop} {d : Option Nat} {x : Operand} {f : FuncId} {cap : List Value} {args : List Operand} {ats : Array TypeId} {ty : TypeId} {pos : String} {af : Array Edge} {vs : List Value}
    [hf : CallOk P f] (hd : dOk d N = true) (hx : Env.ev E x = some (.func (.func f) #[] cap.toArray)) (ha : Env.evs E args = some vs) (hc : ∀ w, Mm w0 H w → Fn P f (vs ++ cap).toArray w fun v w' => ∃ z, I z ∧ v = V z ∧ Mm w0 (H' z) w')
    (h : ∀ z, I z → HN N ds next (putE d (V z) E) w0 (H' z)) :
    H1 P r N ds next ⟨d, .call ⟨.value x, args.toArray, ats⟩, ty, pos, af, g⟩ Q E w0 H := fun w hM => W1.callv hd hx ha (hc w hM) (by
    rintro v w' ⟨z, hz, rfl, hn⟩; exact h z hz w' hn)
theorem H1.mqins {t : TypeId} {x y z : Operand} {ty : TypeId} {pos : String} {af : Array Edge} {b : Nat} {k e : TypeId} {q : IntKind} {l : List (Int × Value)} {n : Int} {v : Value} {H' : List Atom} [ht : UTy P t (.map k e)] [hk : UTy P k (.int q)] (hx : Env.ev E x = some (.map (some b))) (hy : Env.ev E y = some (.int q n)) (hz : Env.ev E z = some v)
    (hr : Rpl (A.mq b q l) (A.mq b q (mset l n v)) H H') (h : HN N ds next E w0 H') : H1 P r N ds next ⟨none, .insert t x y z, ty, pos, af, g⟩ Q E w0 H := fun w hM => by
  obtain ⟨o, hb, ho⟩ : ∃ o, w.heap[b]? = some o ∧ mqP q l o := hM.all _ hr.mem
  obtain ⟨o', hrun, ho'⟩ := run_mapUpdate_mq (P := P) ht.is hk.is hb ho n v
  have hlt := (Array.getElem?_eq_some_iff.1 hb).1
  refine W1.skip (w' := w.putObj b o') (fun a ha => ?_) rfl rfl (h _ (hM.turn hr rfl rfl rfl (by simp) (fun k _ hk' => ?_) ⟨o', World.putObj_heap_same hlt, ho'⟩ (by simp [A.mq, A.obj]) fun b' hb' => .inl hb'))
  · simp only [execOp, ha.ev hx, ha.ev hy, ha.ev hz, Sem.run_bind, hrun, Result.andThen, Sem.run_pure]
  · exact World.putObj_heap_other (by simpa [A.mq, A.obj] using hk')
theorem H1.mqyes {t : TypeId} {x y : Operand} {d : Nat} {ty : TypeId} {pos : String} {af : Array Edge} {b : Nat} {k e : TypeId} {q : IntKind} {l : List (Int × Value)} {n : Int} {v zv : Value} {sz bb : Nat} [ht : UTy P t (.map k e)] [hk : UTy P k (.int q)] [hi : ITy P e zv sz bb] (hx : Env.ev E x = some (.map (some b))) (hy : Env.ev E y = some (.int q n))
    (hm : A.mq b q l ∈ H) (hg : mget l n = some v) (hd : Nat.blt d N = true) (h : HN N ds next ((d, .tuple #[v, .bool true]) :: E) w0 H) : H1 P r N ds next ⟨some d, .lookup t x y true, ty, pos, af, g⟩ Q E w0 H :=
  H1.mqget2 (hi := hi) hx hy hm hd (by rw [hg]; exact h)
end
attribute [local irreducible] WC WL WX POp Then Again Fn NX W1 WA WO QL RP RA Yld LoopAt HC HL HX HN H1 HA HO HQ HB HP A.blk A.grow A.rd A.obj A.mp AgainH CutH
theorem copyCheckE_fn {w0 w : World} {H : List Atom} {b : Nat} {p : Option Addr} {s : Value} (hM : Mm w0 (A.blk b [.pointer p, s] 152 :: H) w) (hp : p = none ∨ p = some ⟨b, 0, none⟩) :
    Fn Tryz.prog 252 #[.pointer (some ⟨b, 0, none⟩)] w fun v w' => v = .tuple #[] ∧ Mm w0 (A.blk b [.pointer (some ⟨b, 0, none⟩), s] 152 :: H) w' := by
  refine enterK (l := [_]) hM rfl Tryz.ntmps252 rfl ?_
  rcases hp with rfl | rfl
  · refine hwF3 ?_
    refine HL.pa ?_ (POp.pnil1 rfl rfl)
    refine hwF3 ?_
    refine HL.one (H1.toUnsafe (cs := [.pointer none, s]) rfl memA rfl (Nat.zero_lt_succ 1) rfl ?_)
    refine hwF3 ?_
    refine HL.one (H1.noEscape Tryz.func272 (by kernel_rfl) (by kernel_rfl) (by kernel_rfl) (by kernel_rfl) rfl rfl ?_)
    refine hwF3 ?_
    refine HL.one (H1.fromUnsafe (cs := [.pointer none, s]) rfl memA (by kernel_rfl) rfl ?_)
    refine hwF3 ?_
    refine HL.one (H1.st rfl rfl (by intro _ h; cases h) (by intro _ h; cases h) rplA (by simp) ?_)
    refine hwF3 ?_
    exact HX.end0 rfl fun w' hM => ⟨rfl, hM⟩
  · refine hwF3 ?_
    refine HL.pa ?_ (POp.pnil0 rfl rfl)
    refine hwF3 ?_
    refine HL.pa ?_ (POp.pneq rfl rfl)
    refine hwF3 ?_
    exact HX.end0 rfl fun w' hM => ⟨rfl, hM⟩
theorem writeStringE_fn {w0 w : World} {H : List Atom} {b c : Nat} {p a : Option Addr} {ys : List UInt8} (s : ByteArray) (hM : Mm w0 (bldE 152 b p a c ys H) w) (hp : p = none ∨ p = some ⟨b, 0, none⟩) (hs : ys.length + s.size ≤ 1000000) :
    Fn Tryz.prog 190 #[.pointer (some ⟨b, 0, none⟩), .string s] w fun v w' => ∃ q : Option Addr × Nat, True ∧ v = .tuple #[zv (s.size : Int), .nilIface] ∧ Mm w0 (bldE 152 b (some ⟨b, 0, none⟩) q.1 q.2 (ys ++ s.data.toList) H) w' := by
  refine enterK (l := [_, _]) hM rfl Tryz.ntmps190 rfl ?_
  refine hwF3 ?_
  refine HL.one (H1.callk (α := Unit) (V := fun _ => .tuple #[]) (I := fun _ => True) (H' := fun _ => bldE 152 b (some ⟨b, 0, none⟩) a c ys H) (vs := [.pointer (some ⟨b, 0, none⟩)]) rfl rfl (fun w' hM => (copyCheckE_fn hM hp).mono fun v w' h => ⟨(), trivial, h⟩) ?_)
  rintro - -
  refine hwF3 ?_
  refine HL.one (H1.appS rfl rfl (fun _ _ => by first | ((repeat (first | with_reducible exact Rpl.here | with_reducible apply Rpl.there)); done) | (repeat (first | exact Rpl.here | apply Rpl.there))) hs rfl (fun a' c' => ?_))
  refine hwF3 ?_
  refine HL.one (H1.st rfl rfl (by intro _ h; cases h) (by intro _ h; cases h) rplA (by simp) ?_)
  refine hwF3 ?_
  exact HX.ret2 rfl rfl rfl fun w' hM => ⟨(a', c'), trivial, rfl, hM⟩
set_option maxHeartbeats 1000000 in
theorem builderStringE_fn {eb : TypeId} {w0 w : World} {H : List Atom} {b c : Nat} {p a : Option Addr} {ys : List UInt8} (hM : Mm w0 (bldE eb b p a c ys H) w) (h0 : ys ≠ []) :
    Fn Tryz.prog 68 #[.pointer (some ⟨b, 0, none⟩)] w fun v w' => v = .string ⟨ys.toArray⟩ ∧ Mm w0 H w' := by
  have hne : ys.length ≠ 0 := by simpa using h0
  refine enterK (l := [_]) hM rfl Tryz.ntmps68 rfl ?_
  refine HC.openg (e := 5) (a := a) (xs := ub ys) memA hne ?_
  rintro g rfl
  refine hwF3 ?_
  refine HC.capOfG (e := 5) (xs := ub ys) memA fun hcap => ?_
  have hc0 : c ≠ 0 := by omega
  refine HC.anyC ([(⟨b, 1, none⟩, .slice (some ⟨g, 0, none⟩) ys.length c)]) rfl ?_
  refine HB.pa 0 rfl ?_
  refine HB.pa 1 rfl ?_ (POp.nilCheck rfl)
  refine HB.pa 2 rfl ?_
  refine HB.ld 3 rfl rfl memD ?_
  refine HB.pa 4 rfl ?_ (POp.sliceData rfl hc0)
  refine HB.pa 5 rfl ?_
  refine HB.pa 6 rfl ?_ (POp.nilCheck rfl)
  refine HB.pa 7 rfl ?_
  refine HB.ld 8 rfl rfl memD ?_
  refine HB.pa 9 rfl ?_
  refine HB.all (by repeat (first | exact Keep.nil | refine Keep.blk (by (repeat (first | exact List.Mem.head _ | apply List.Mem.tail)); done) rfl ?_ | refine Keep.grow (by (repeat (first | exact List.Mem.head _ | apply List.Mem.tail)); done) (by assumption) ?_ | refine Keep.base (by assumption) ?_)) [10] (by kernel_rfl) rfl ⟨⟨_, rfl, ?_⟩, trivial⟩
  refine HP.one ?_
  refine H1.unsafeStr (b := g) (c := c) (ys := ys) (by kernel_rfl) rfl rfl h0 (Pick.there Pick.here) rfl ?_
  apply HB.fold
  refine HB.pa 11 rfl ?_
  refine HB.done (by repeat (first | exact Keep.nil | refine Keep.blk (by (repeat (first | exact List.Mem.head _ | apply List.Mem.tail)); done) rfl ?_ | refine Keep.grow (by (repeat (first | exact List.Mem.head _ | apply List.Mem.tail)); done) (by assumption) ?_ | refine Keep.base (by assumption) ?_)) (by kernel_rfl) ?_
  refine hwF3 ?_
  exact HX.ret1 rfl rfl fun w' hM => ⟨rfl, hM.tail⟩
set_option maxHeartbeats 1000000 in
theorem cnumbers_fn {w0 w : World} {H : List Atom} {b bl c : Nat} {p a : Option Addr} {ys : List UInt8} (n : Nat) (hn : n ≤ 1099511627776) (hM : Mm w0 (bldE 152 b p a c ys (A.blk bl [zv (n : Int)] 3 :: H)) w) (hp : p = none ∨ p = some ⟨b, 0, none⟩) (hlen : ys.length ≤ 900000) :
    Fn Tryz.prog 120 #[.pointer (some ⟨b, 0, none⟩), .slice (some ⟨bl, 0, none⟩) 1 1] w fun v w' => ∃ q : Option Addr × Nat, True ∧ v = .tuple #[] ∧ Mm w0 (bldE 152 b (some ⟨b, 0, none⟩) q.1 q.2 (ys ++ (strN n).data.toList) H) w' := by
  have hsz := strN_size (n := n) (by omega)
  have hszl : (strN n).data.toList.length = (strN n).size := by rw [Array.length_toList]; rfl
  refine enterK (l := [_, _]) hM rfl Tryz.ntmps120 rfl ?_
  refine hwF3 ?_
  refine HC.loop (α := Nat × Option Addr × Option Addr × Nat) (fun z => [(0, .pointer (some ⟨b, 0, none⟩)), (8, .slice (some ⟨bl, 0, none⟩) 1 1), (9, zv 1), (10, zv (z.1 : Int))])
    (fun z => bldE 152 b z.2.1 z.2.2.1 z.2.2.2 (if z.1 = 0 then ys else ys ++ (strN n).data.toList) (A.blk bl [zv (n : Int)] 3 :: H)) (fun z => z.1 ≤ 1 ∧ (z.2.1 = none ∨ z.2.1 = some ⟨b, 0, none⟩) ∧ (z.1 = 1 → z.2.1 = some ⟨b, 0, none⟩)) (fun z => 1 - z.1) (0, p, a, c) ⟨Nat.zero_le _, hp, fun h => (by cases h)⟩ esA
    (Hs.refl _) ?_
  rintro ⟨j, p', a', c'⟩ ⟨hj, hp', hp1⟩
  dsimp only at hj hp' hp1 ⊢
  by_cases h0 : j = 0
  · subst h0
    rw [if_pos rfl]
    refine hwF3 ?_
    refine HL.one (H1.callx (vs := [zv (n : Int)]) rfl rfl (fun w' _ => putInt_fn n (by omega) w') ?_)
    refine hwF3 ?_
    refine HL.one (H1.callk (α := Option Addr × Nat) (V := fun _ => .tuple #[zv ((strN n).size : Int), .nilIface]) (I := fun _ => True) (H' := fun q => bldE 152 b (some ⟨b, 0, none⟩) q.1 q.2 (ys ++ (strN n).data.toList) (A.blk bl [zv (n : Int)] 3 :: H)) (vs := [.pointer (some ⟨b, 0, none⟩), .string (strN n)]) rfl rfl
      (fun w' hM => writeStringE_fn (strN n) hM hp' (by omega)) ?_)
    rintro ⟨a2, c2⟩ -
    refine hwF3 ?_
    exact HX.again (1, some ⟨b, 0, none⟩, a2, c2) ⟨Nat.le_refl _, .inr rfl, fun _ => rfl⟩ (by show 1 - 1 < 1 - 0; decide) esA (Hs.refl _)
  · obtain rfl : j = 1 := by omega
    obtain rfl := hp1 rfl
    rw [if_neg (by decide)]
    refine hwF3 ?_
    exact HX.end0 rfl fun w' hM => ⟨(a', c'), trivial, rfl, hM.sub (Hs.cons Pick.here (Hs.cons Pick.here (Hs.refl _).skip))⟩
theorem ctext_fn {w0 w : World} {H : List Atom} {b c : Nat} {p a : Option Addr} {ys : List UInt8} (s : ByteArray) (hs : s.size ≤ 1000) (hM : Mm w0 (bldE 152 b p a c ys H) w) (hp : p = none ∨ p = some ⟨b, 0, none⟩) (hlen : ys.length ≤ 900000) :
    Fn Tryz.prog 121 #[.pointer (some ⟨b, 0, none⟩), .string s] w fun v w' => ∃ q : Option Addr × Nat, True ∧ v = .tuple #[] ∧ Mm w0 (bldE 152 b (some ⟨b, 0, none⟩) q.1 q.2 (ys ++ (strN s.size ++ s).data.toList) H) w' := by
  have hsz := strN_size (n := s.size) (by omega)
  have hsz2 : (strN s.size ++ s).size = (strN s.size).size + s.size := ByteArray.size_append
  refine enterK (l := [_, _]) hM rfl Tryz.ntmps121 rfl ?_
  refine hwF3 ?_
  refine HL.one (H1.callx (vs := [.string s]) rfl rfl (fun w' _ => putString_fn s (by omega) w') ?_)
  refine hwF3 ?_
  refine HL.one (H1.callk (α := Option Addr × Nat) (V := fun _ => .tuple #[zv ((strN s.size ++ s).size : Int), .nilIface]) (I := fun _ => True) (H' := fun q => bldE 152 b (some ⟨b, 0, none⟩) q.1 q.2 (ys ++ (strN s.size ++ s).data.toList) H) (vs := [.pointer (some ⟨b, 0, none⟩), .string (strN s.size ++ s)]) rfl rfl
    (fun w' hM => writeStringE_fn (strN s.size ++ s) hM hp (by omega)) ?_)
  rintro ⟨a2, c2⟩ -
  refine hwF3 ?_
  exact HX.end0 rfl fun w' hM => ⟨(a2, c2), trivial, rfl, hM⟩
def xpS1 : List UInt8 := [] ++ (strN 1).data.toList
def xpS2 : List UInt8 := xpS1 ++ (strN xpAb.size ++ xpAb).data.toList
set_option maxHeartbeats 2000000 in
theorem prop1_fn {w0 w : World} {H : List Atom} {b : Nat} (vl vc : Value) (hlv : vl.oneCell' = true) (hcv : vc.oneCell' = true) (hRl : ∀ w', Ext w0 w' → RdK w' vl 1 2 fun i => lnC (xpL i)) (hM : Mm w0 (bldE 152 b none none 0 [] H) w) :
    Fn Tryz.prog 119 #[.agg #[vl, vc, zv 0, .string ⟨#[]⟩], .pointer (some ⟨b, 0, none⟩)] w fun v w' => ∃ q : Option Addr × Nat, True ∧ v = .tuple #[] ∧ Mm w0 (bldE 152 b (some ⟨b, 0, none⟩) q.1 q.2 xpS2 H) w' := by
  obtain ⟨al, cl, rfl, -, -⟩ := id (hRl w0 (Ext.refl _))
  obtain ⟨bl0, offl, rfl, hb⟩ := (hRl w0 (Ext.refl _)).cell (show 0 < 1 by decide)
  have hx := hb 0 (by decide)
  have hl1 : xpS1.length ≤ 1000 := by decide +kernel
  refine enterK (l := [_, _]) hM rfl Tryz.ntmps119 rfl ?_
  refine hwF3 ?_
  refine HL.one (H1.boxAgg (cs := [.slice (some ⟨bl0, offl, none⟩) 1 cl, vc, zv 0, .string ⟨#[]⟩]) rfl rfl (fun b2 => ?_))
  refine hwF3 ?_
  refine HL.one (H1.lit (cs := [zv 1]) rfl rfl rfl rfl rfl rfl (fun b8 => ?_))
  refine hwF3 ?_
  refine HL.one (H1.callk (α := Option Addr × Nat) (V := fun _ => .tuple #[]) (I := fun _ => True) (H' := fun q => bldE 152 b (some ⟨b, 0, none⟩) q.1 q.2 xpS1 (A.blk b2 [.slice (some ⟨bl0, offl, none⟩) 1 cl, vc, zv 0, .string ⟨#[]⟩] 140 :: H)) (vs := [.pointer (some ⟨b, 0, none⟩), .slice (some ⟨b8, 0, none⟩) 1 1]) rfl rfl
    (fun w' hM => cnumbers_fn (p := none) (a := none) (c := 0) (ys := []) 1 (by decide) (hM.sub (Hs.cons (Pick.there (Pick.there Pick.here)) (Hs.cons (Pick.there (Pick.there Pick.here)) (Hs.cons Pick.here (Hs.cons Pick.here (Hs.refl _)))))) (.inl rfl) (by decide)) ?_)
  rintro ⟨a2, c2⟩ -
  dsimp only
  refine hwF3 ?_
  refine HC.loop (α := Nat × Option Addr × Nat) (fun z => [(1, .pointer (some ⟨b, 0, none⟩)), (15, .slice (some ⟨bl0, offl, none⟩) 1 cl), (16, zv 1), (17, zv (z.1 : Int))])
    (fun z => bldE 152 b (some ⟨b, 0, none⟩) z.2.1 z.2.2 (if z.1 = 0 then xpS1 else xpS2) (A.blk b2 [.slice (some ⟨bl0, offl, none⟩) 1 cl, vc, zv 0, .string ⟨#[]⟩] 140 :: H)) (fun z => z.1 ≤ 1) (fun z => 1 - z.1) (0, a2, c2) (Nat.zero_le _) esA (Hs.refl _) ?_
  rintro ⟨j, a', c'⟩ hj
  dsimp only at hj ⊢
  by_cases h0 : j = 0
  · subst h0
    rw [if_pos rfl]
    refine hwF3 ?_
    refine HL.one (H1.ldAggw (b := bl0) (off := offl + 0 * 2) (vs := lnC (xpL 0)) rfl rfl (fun w' hM i u hu => cell_ext hM.ext (hx i u hu)) rfl ?_)
    refine hwF3 ?_
    refine HL.one (H1.alloc (cs := [.string ⟨#[]⟩, zv 0]) rfl rfl (fun b5 => ?_))
    refine hwF3 ?_
    refine HL.one (H1.stAgg (b := b5) (cs := [.string ⟨#[]⟩, zv 0]) (vs := [.string xpAb, zv 2]) rfl rfl rfl (by intro v hv; simp only [List.mem_cons, List.not_mem_nil, or_false] at hv; rcases hv with rfl | rfl <;> rfl) rplA rfl ?_)
    refine hwF3 ?_
    refine HL.one (H1.callk (α := Option Addr × Nat) (V := fun _ => .tuple #[]) (I := fun _ => True) (H' := fun q => bldE 152 b (some ⟨b, 0, none⟩) q.1 q.2 xpS2 (A.blk b2 [.slice (some ⟨bl0, offl, none⟩) 1 cl, vc, zv 0, .string ⟨#[]⟩] 140 :: H)) (vs := [.pointer (some ⟨b, 0, none⟩), .string xpAb]) rfl rfl
      (fun w' hM => ctext_fn xpAb (by decide) (hM.sub (Hs.cons (Pick.there Pick.here) (Hs.cons (Pick.there Pick.here) (Hs.cons (Pick.there Pick.here) (Hs.refl _).skip)))) (.inr rfl) (by omega)) ?_)
    rintro ⟨a3, c3⟩ -
    refine hwF3 ?_
    exact HX.again (1, a3, c3) (Nat.le_refl _) (by show 1 - 1 < 1 - 0; decide) esA (Hs.refl _)
  · obtain rfl : j = 1 := by omega
    rw [if_neg (by decide)]
    refine hwF3 ?_
    exact HX.end0 rfl fun w' hM => ⟨(a', c'), trivial, rfl, hM.sub (Hs.cons Pick.here (Hs.cons Pick.here (Hs.refl _).skip))⟩
theorem xpS2_eq : (⟨xpS2.toArray⟩ : ByteArray) = ⟨#[2, 4, 65, 98]⟩ := by decide +kernel
def propL : List (Int × Value) := [(1, .func (.func 119) #[] #[]), (2, .func (.func 122) #[] #[]), (3, .func (.func 123) #[] #[]), (4, .func (.func 125) #[] #[]), (5, .func (.func 126) #[] #[]), (6, .func (.func 127) #[] #[]), (7, .func (.func 129) #[] #[]), (8, .func (.func 130) #[] #[])]
theorem props_fn (w : World) : Fn Tryz.prog 67 #[] w fun v w' => ∃ b : Nat, True ∧ v = .map (some b) ∧ Mm w [A.mq b .i64 propL] w' := by
  refine enterH (l := []) rfl Tryz.ntmps67 rfl ?_
  refine hwF3 ?_
  refine HL.one (H1.mkmq .i64 rfl (fun bm => ?_))
  refine hwF3 ?_
  refine HL.one (H1.mqins (H' := [A.mq bm .i64 [(1, .func (.func 119) #[] #[])]]) rfl rfl rfl Rpl.here ?_)
  refine hwF3 ?_
  refine HL.one (H1.mqins (H' := [A.mq bm .i64 [(1, .func (.func 119) #[] #[]), (2, .func (.func 122) #[] #[])]]) rfl rfl rfl Rpl.here ?_)
  refine hwF3 ?_
  refine HL.one (H1.mqins (H' := [A.mq bm .i64 [(1, .func (.func 119) #[] #[]), (2, .func (.func 122) #[] #[]), (3, .func (.func 123) #[] #[])]]) rfl rfl rfl Rpl.here ?_)
  refine hwF3 ?_
  refine HL.one (H1.mqins (H' := [A.mq bm .i64 [(1, .func (.func 119) #[] #[]), (2, .func (.func 122) #[] #[]), (3, .func (.func 123) #[] #[]), (4, .func (.func 125) #[] #[])]]) rfl rfl rfl Rpl.here ?_)
  refine hwF3 ?_
  refine HL.one (H1.mqins (H' := [A.mq bm .i64 [(1, .func (.func 119) #[] #[]), (2, .func (.func 122) #[] #[]), (3, .func (.func 123) #[] #[]), (4, .func (.func 125) #[] #[]), (5, .func (.func 126) #[] #[])]]) rfl rfl rfl Rpl.here ?_)
  refine hwF3 ?_
  refine HL.one (H1.mqins (H' := [A.mq bm .i64 [(1, .func (.func 119) #[] #[]), (2, .func (.func 122) #[] #[]), (3, .func (.func 123) #[] #[]), (4, .func (.func 125) #[] #[]), (5, .func (.func 126) #[] #[]), (6, .func (.func 127) #[] #[])]]) rfl rfl rfl Rpl.here ?_)
  refine hwF3 ?_
  refine HL.one (H1.mqins (H' := [A.mq bm .i64 [(1, .func (.func 119) #[] #[]), (2, .func (.func 122) #[] #[]), (3, .func (.func 123) #[] #[]), (4, .func (.func 125) #[] #[]), (5, .func (.func 126) #[] #[]), (6, .func (.func 127) #[] #[]), (7, .func (.func 129) #[] #[])]]) rfl rfl rfl Rpl.here ?_)
  refine hwF3 ?_
  refine HL.one (H1.mqins (H' := [A.mq bm .i64 [(1, .func (.func 119) #[] #[]), (2, .func (.func 122) #[] #[]), (3, .func (.func 123) #[] #[]), (4, .func (.func 125) #[] #[]), (5, .func (.func 126) #[] #[]), (6, .func (.func 127) #[] #[]), (7, .func (.func 129) #[] #[]), (8, .func (.func 130) #[] #[])]]) rfl rfl rfl Rpl.here ?_)
  refine hwF3 ?_
  exact HX.ret1 rfl rfl fun w' hM => ⟨bm, trivial, rfl, hM⟩
end Go.Sx
/- content.Property at the fixed example: the walk, whole. -/
namespace Go.Sx
open Go Go.Proofs Go.RowKit
theorem hwF4 {G G2 : Prop} (x : G2) (hwq : Hold G2 → G := by
    intro hQq
    repeat' (first | refine HL.pa ?_ (POp.nilCheck rfl) | apply HL.fold | apply HA.fold | apply HL.nil | apply HX.n_then | apply HC.seq | apply HC.region | refine HL.pa ?_ | refine HL.ga rfl ?_ | refine HL.na rfl ?_ | refine HL.nu rfl rfl ?_ | apply HC.block | apply HC.skip | apply HC.exit | apply HC.ret | apply HX.e_block | refine HX.e_other rfl ?_ | apply HX.e_then | apply HX.e_again | apply HX.n_block | apply HX.r_then | apply HX.r_block | apply HX.r_again | refine HC.cond_yes rfl ?_ | refine HC.cond_no rfl ?_ | refine HL.one (H1.ldb rfl memA rfl rfl ?_) | refine HC.cond rfl (fun hc => ?_) (fun hc => ?_) | refine HC.cond_b rfl (fun hc => ?_) (fun hc => ?_))
    exact hQq.get) : G := hwq ⟨x⟩
attribute [local irreducible] WC WL WX POp Then Again Fn NX W1 WA WO QL RP RA Yld LoopAt HC HL HX HN H1 HA HO HQ HB HP A.blk A.grow A.rd A.obj A.mp AgainH CutH
attribute [local irreducible] A.mq A.mit
set_option maxHeartbeats 2000000 in
theorem cprop_fn (vl vc : Value) (w : World) (hRl : RdK w vl 1 2 fun i => lnC (xpL i)) (hRc : RdK w vc 3 6 fun i => clC (xpC i)) :
    Fn Tryz.prog 24 #[.agg #[vl, vc, zv 0, .string ⟨#[]⟩], zv 1] w fun u w' => u = .tuple #[.string ⟨#[2, 4, 65, 98]⟩, zv 0] ∧ Ext w w' := by
  obtain ⟨al, cl, rfl, -, -⟩ := id hRl
  obtain ⟨ac, cc, rfl, -, -⟩ := id hRc
  have hne : xpS2 ≠ [] := by decide +kernel
  refine enterH (l := [_, _]) rfl Tryz.ntmps24 rfl ?_
  refine hwF4 ?_
  refine HL.one (H1.boxAgg (cs := [.slice al 1 cl, .slice ac 3 cc, zv 0, .string ⟨#[]⟩]) rfl rfl (fun b2 => ?_))
  refine hwF4 ?_
  refine HL.one (H1.callz (vs := []) rfl rfl (fun w' _ => props_fn w') ?_)
  rintro bm -
  refine hwF4 ?_
  refine HL.one (H1.mqyes (b := bm) (l := propL) (q := .i64) rfl rfl memA (v := .func (.func 119) #[] #[]) rfl rfl ?_)
  refine hwF4 ?_
  refine HL.one (H1.ldAgg (b := b2) (vs := [.slice al 1 cl, .slice ac 3 cc, zv 0, .string ⟨#[]⟩]) rfl memA rfl (fun i v hv => by rw [Nat.zero_add]; exact hv) rfl ?_)
  refine hwF4 ?_
  refine HL.one (H1.callx (vs := [_]) rfl rfl (fun w' hM => cvalid_fn (by decide) (by decide) (fun i _ => xpL_ok i) (fun i _ => xpC_ok i) xpC_asc w' (hRl.ext hM.ext) (hRc.ext hM.ext)) ?_)
  refine hwF4 ?_
  refine HL.build (parts := []) (pv := []) (cs := [.pointer none, .slice none 0 0]) rfl rfl rfl ?_
  refine hwF4 ?_
  refine HL.one (H1.boxAgg (cs := [.pointer none, .slice none 0 0]) rfl rfl (fun b8 => ?_))
  refine hwF4 ?_
  refine HL.one (H1.ldAgg (b := b2) (vs := [.slice al 1 cl, .slice ac 3 cc, zv 0, .string ⟨#[]⟩]) rfl memA rfl (fun i v hv => by rw [Nat.zero_add]; exact hv) rfl ?_)
  refine hwF4 ?_
  refine HL.build (cs := [.slice al 1 cl, .slice ac 3 cc, zv 0, .string ⟨#[]⟩]) rfl rfl rfl ?_
  refine hwF4 ?_
  refine HL.one (H1.callvk (α := Option Addr × Nat) (V := fun _ => .tuple #[]) (I := fun _ => True) (H' := fun q => bldE 152 b8 (some ⟨b8, 0, none⟩) q.1 q.2 xpS2 []) (cap := []) (vs := [.agg #[.slice al 1 cl, .slice ac 3 cc, zv 0, .string ⟨#[]⟩], .pointer (some ⟨b8, 0, none⟩)]) rfl rfl rfl
    (fun w' hM => prop1_fn (.slice al 1 cl) (.slice ac 3 cc) rfl rfl (fun w2 hx => hRl.ext hx) ((hM.grow0 5 1).sub (by repeat (first | exact Hs.nil _ | (refine Hs.cons pickA ?_))))) ?_)
  rintro ⟨a2, c2⟩ -
  dsimp only
  refine hwF4 ?_
  refine HL.one (H1.callk (α := Unit) (V := fun _ => .string ⟨xpS2.toArray⟩) (I := fun _ => True) (H' := fun _ => []) (vs := [.pointer (some ⟨b8, 0, none⟩)]) rfl rfl (fun w' hM => (builderStringE_fn hM hne).mono fun v w'' h => ⟨(), trivial, h.1, h.2⟩) ?_)
  rintro - -
  rw [xpS2_eq]
  refine hwF4 ?_
  exact HX.ret2 rfl rfl rfl fun w' hM => ⟨rfl, hM.ext⟩
end Go.Sx
/- abstraction.Apply at the fixed example of the top laws: the layer, and the small functions. -/
namespace Go.Sx
open Go Go.Proofs Go.RowKit
theorem hwF5 {G G2 : Prop} (x : G2) (hwq : Hold G2 → G := by
    intro hQq
    repeat' (first | refine HL.pa ?_ (POp.nilCheck rfl) | apply HL.fold | apply HA.fold | apply HL.nil | apply HX.n_then | apply HC.seq | apply HC.region | refine HL.pa ?_ | refine HL.ga rfl ?_ | refine HL.na rfl ?_ | refine HL.nu rfl rfl ?_ | apply HC.block | apply HC.skip | apply HC.exit | apply HC.ret | apply HX.e_block | refine HX.e_other rfl ?_ | apply HX.e_then | apply HX.e_again | apply HX.n_block | apply HX.r_then | apply HX.r_block | apply HX.r_again | refine HC.cond_yes rfl ?_ | refine HC.cond_no rfl ?_ | refine HL.one (H1.ldb rfl memA rfl rfl ?_) | refine HC.cond rfl (fun hc => ?_) (fun hc => ?_) | refine HC.cond_b rfl (fun hc => ?_) (fun hc => ?_))
    exact hQq.get) : G := hwq ⟨x⟩
section
variable {P : Program} {r : Option Nat} {N : Nat} {ds : List Deferred} {ol rest : List Oper} {Q : Post} {E : Env} {w0 : World} {H : List Atom}
/-- A function is deferred with its arguments. -/
theorem HL.deferA {f : FuncId} {args : List Operand} {ats : Array TypeId} {ty : TypeId} {pos : String} {af : Array Edge} {vs : List Value} (ha : Env.evs E args = some vs) (h : HL P none N ({ target := .fn (.func f) #[], args := vs.toArray } :: ds) ol rest Q E w0 H) :
    HL P none N ds ol (⟨none, .defer ⟨.value (.func f), args.toArray, ats⟩, ty, pos, af, none⟩ :: rest) Q E w0 H := fun w hM a hr => by
  refine wpListIn_plain rfl (fun K hK => ?_)
  refine ⟨fun _ _ => trivial, ?_⟩
  have hm : Array.map a.eval args.toArray = vs.toArray := by simp [hr.evs ha]
  have hrun : (execOp a.eval ⟨none, .defer ⟨.value (.func f), args.toArray, ats⟩, ty, pos, af, none⟩).run P w = .ok (.defer { target := .fn (.func f) #[], args := vs.toArray }) w := by
    simp [execOp, resolve, hm, Act.eval, Deferred.ofValue]
  show Oper.uponIn _ _ _ _ _ _ _ ((Oper.semAt none a.eval _).run P w)
  rw [Oper.semAt_none, hrun]
  refine hK _ _ (h w hM _ ⟨hr.size, ?_, hr.get⟩)
  show _ :: a.defers = _
  rw [hr.defers]
theorem leaves_oneA {fn : Func} {f : FuncId} {vs : List Value} {u u' : FrameMode} {w : World} {tmps : Array Value} {R : Ending → World → Prop} {R' : World → Prop} [hf : CallOk P f] (hu : u ≠ .run) (hs : settle u' = .returning) (hD : DFn P f vs.toArray u u' w R')
    (h : ∀ w', R' w' → ∃ v, (results fn tmps).run P w' = .ok v w' ∧ R (.returned v) w') : LeavesIn Fence.wide 0 P fn tmps R [{ target := .fn (.func f) #[], args := vs.toArray }] u w := by
  refine leavesIn_cons (f := f) (args := vs.toArray) hu (by simp [Fence.wide]) (by
    have : vs.toArray ++ (#[] : Array Value) = vs.toArray := by simp
    simp [invoke, hf.run]) (fun _ _ => trivial) (hD.mono ?_)
  rintro e v w' ⟨rfl, rfl, hR⟩
  dsimp only
  rw [hs]
  exact h w' hR
theorem HX.doorA {fn : Func} {f : FuncId} {vs : List Value} {u' : FrameMode} {R : Ending → World → Prop} {R' : World → World → Prop} [hf : CallOk P f] (hs : settle u' = .returning) (hD : ∀ w, Mm w0 H w → DFn P f vs.toArray .returning u' w (R' w))
    (h : ∀ w w', Mm w0 H w → R' w w' → ∀ a, Rep N [{ target := .fn (.func f) #[], args := vs.toArray }] E a → ∃ v, (results fn a.tmps).run P w' = .ok v w' ∧ R (.returned v) w') :
    HX N [{ target := .fn (.func f) #[], args := vs.toArray }] .ret (bodyPostDIn Fence.wide 0 P fn R) E w0 H := fun w hM a ha => by
  simp only [bodyPostDIn, ha.defers]
  exact leaves_oneA (by intro e; cases e) hs (hD w hM) fun w' hR => h w w' hM hR a ha
theorem res_cellsT {fn : Func} {a : Act} {w : World} {p q : Nat} {t1 t2 : TypeId} {b4 b5 : Nat} {v1 v2 : Value} [h1 : ATy P t1 false] [h2 : ATy P t2 false] (hr : fn.results = #[.cell p t1, .cell q t2]) (ha : Rep N ds E a)
    (e1 : Env.g E p = some (.pointer (some ⟨b4, 0, none⟩))) (e2 : Env.g E q = some (.pointer (some ⟨b5, 0, none⟩))) (c1 : w.cell? ⟨b4, 0, none⟩ = some v1) (c2 : w.cell? ⟨b5, 0, none⟩ = some v2) :
    (results fn a.tmps).run P w = .ok (.tuple #[v1, v2]) w := by
  have g1 : a.tmps[p]?.getD undef = .pointer (some ⟨b4, 0, none⟩) := by rw [ha.get _ _ e1]; rfl
  have g2 : a.tmps[q]?.getD undef = .pointer (some ⟨b5, 0, none⟩) := by rw [ha.get _ _ e2]; rfl
  have l1 : (loadVar t1 ⟨b4, 0, none⟩).run P w = .ok v1 w := by
    simp only [loadVar, Sem.run_bind, run_isAgg]
    simp [Result.andThen, c1]
  have l2 : (loadVar t2 ⟨b5, 0, none⟩).run P w = .ok v2 w := by
    simp only [loadVar, Sem.run_bind, run_isAgg]
    simp [Result.andThen, c2]
  simp [results, hr, g1, g2, asAddr, l1, l2]
theorem Rep.consT {a : Act} (h : Rep N ds E a) {k : Nat} {v : Value} (hk : a.tmps[k]? = some v) : Rep N ds ((k, v) :: E) a := by
  refine ⟨h.size, h.defers, fun t u ht => ?_⟩
  simp only [Env.g] at ht
  by_cases e : k = t
  · subst e
    rw [beq_same, cond_true] at ht
    rw [hk]; exact ht
  · rw [beq_ne e, cond_false] at ht
    exact h.get t u ht
theorem Rep.nilT {a : Act} (h : a.tmps.size = N) (hd : a.defers = []) : Rep N [] [] a := ⟨h, hd, fun t v h => by simp [Env.g] at h⟩
end
theorem POp.ifaceNil {N : Nat} {ds : List Deferred} {E : Env} {k : Nat} {t' ty : TypeId} (hx : Env.ev E (.tmp k) = some .nilIface) : POp Tryz.prog N ds E (.binOp .eql 20 (.tmp k) (.const .nilIface) t') ty (.bool true) :=
  POp.bin hx rfl (fun w => by kernel_rfl) fun w => by kernel_rfl
attribute [local irreducible] WC WL WX POp Then Again Fn NX W1 WA WO QL RP RA Yld LoopAt HC HL HX HN H1 HA HO HQ HB HP A.blk A.grow A.rd A.obj A.mp AgainH CutH
set_option maxHeartbeats 1000000 in
theorem caught_no {w : World} (b6 b7 : Nat) : DFn Tryz.prog 69 #[.pointer (some ⟨b6, 0, none⟩), .pointer (some ⟨b7, 0, none⟩)] .returning .returning w (fun w' => Ext w w') := by
  refine callsDIn_of_wpSIn Tryz.func69 rfl trivial fun c₀ cs hu => ?_
  apply wpSIn_seq
  apply wpSIn_region
  have hrec : recoverD (c₀ :: cs) = none := by simp [recoverD, hu]
  simp [wpOpsSIn, go_sem, hrec, Tryz.ntmps69, Exit.thenS, Region.wanted]
  have hc : c₀ = { c₀ with mode := .returning } := frame_same hu
  rw [hc]
  refine wpS_of_HC (N := 18) (E := [(7, .nilIface)]) (Mm.refl w) (Rep.consT (Rep.nilT (by simp) rfl) (by rfl)) ?_
  refine hwF5 ?_
  refine HL.pa ?_ (POp.ifaceNil rfl)
  refine hwF5 ?_
  exact HX.endS rfl fun w' hM => ⟨rfl, rfl, hM.ext⟩
theorem awithin_yes {n lo hi : Int} (h1 : lo ≤ n) (h2 : n ≤ hi) (w : World) : Fn Tryz.prog 131 #[zv n, zv lo, zv hi] w fun u w' => u = .bool true ∧ Ext w w' := by
  refine enterH (l := [_, _, _]) rfl Tryz.ntmps131 rfl ?_
  refine hwF5 ?_
  exact HX.ret1 rfl rfl fun w' hM => ⟨by rw [decide_eq_true h2], hM.ext⟩
theorem amust_yes (w : World) : Fn Tryz.prog 70 #[.bool true] w fun u w' => u = .tuple #[] ∧ Ext w w' := by
  refine enterH (l := [_]) rfl Tryz.ntmps70 rfl ?_
  refine hwF5 ?_
  exact HX.end0 rfl fun w' hM => ⟨rfl, hM.ext⟩
theorem anone_yes (w : World) : Fn Tryz.prog 138 #[zv 0] w fun u w' => u = .bool true ∧ Ext w w' := by
  refine enterH (l := [_]) rfl Tryz.ntmps138 rfl ?_
  refine hwF5 ?_
  exact HX.ret1 rfl rfl fun w' hM => ⟨rfl, hM.ext⟩
theorem each_fn (g : FuncId) (w : World) : Fn Tryz.prog 139 #[.func (.func g) #[] #[]] w fun u w' => ∃ b : Nat, True ∧ u = .func (.func 208) #[] #[.pointer (some ⟨b, 0, none⟩)] ∧ Mm w [A.blk b [.func (.func g) #[] #[]] 218] w' := by
  refine enterH (l := [_]) rfl Tryz.ntmps139 rfl ?_
  refine hwF5 ?_
  refine HL.one (H1.box rfl rfl rfl (fun b1 => ?_))
  refine hwF5 ?_
  exact HX.ret1 rfl rfl fun w' hM => ⟨b1, trivial, rfl, hM⟩
theorem index1_fn (b : Nat) (w : World) (hc : w.cell? ⟨b, 0, none⟩ = some (zv 1)) : Fn Tryz.prog 174 #[.slice (some ⟨b, 0, none⟩) 1 1, zv 1] w fun u w' => u = zv 0 ∧ Ext w w' := by
  refine enterH (l := [_, _]) rfl Tryz.ntmps174 rfl ?_
  refine hwF5 ?_
  refine HC.loop (α := Unit) (fun _ => [(0, .slice (some ⟨b, 0, none⟩) 1 1), (1, zv 1), (7, zv 1), (8, zv 0)]) (fun _ => []) (fun _ => True) (fun _ => 0) () trivial esA (by repeat (first | exact Hs.nil _ | (refine Hs.cons pickA ?_))) ?_
  rintro - -
  refine hwF5 ?_
  refine HL.one (H1.ld0 rfl hc rfl ?_)
  refine hwF5 ?_
  exact HX.ret1 rfl rfl fun w' hM => ⟨rfl, hM.ext⟩
theorem contains1_fn (b : Nat) (w : World) (hc : w.cell? ⟨b, 0, none⟩ = some (zv 1)) : Fn Tryz.prog 98 #[.slice (some ⟨b, 0, none⟩) 1 1, zv 1] w fun u w' => u = .bool true ∧ Ext w w' := by
  refine enterH (l := [_, _]) rfl Tryz.ntmps98 rfl ?_
  refine hwF5 ?_
  refine HL.one (H1.callx (vs := [_, _]) rfl rfl (fun w' hM => index1_fn b w' (cell_ext hM.ext hc)) ?_)
  refine hwF5 ?_
  exact HX.ret1 rfl rfl fun w' hM => ⟨rfl, hM.ext⟩
end Go.Sx
/- abstraction.kinds and abstraction.Valid at the fixed example: the walks. -/
namespace Go.Sx
open Go Go.Proofs Go.RowKit
theorem hwF6 {G G2 : Prop} (x : G2) (hwq : Hold G2 → G := by
    intro hQq
    repeat' (first | refine HL.pa ?_ (POp.nilCheck rfl) | apply HL.fold | apply HA.fold | apply HL.nil | apply HX.n_then | apply HC.seq | apply HC.region | refine HL.pa ?_ | refine HL.ga rfl ?_ | refine HL.na rfl ?_ | refine HL.nu rfl rfl ?_ | apply HC.block | apply HC.skip | apply HC.exit | apply HC.ret | apply HX.e_block | refine HX.e_other rfl ?_ | apply HX.e_then | apply HX.e_again | apply HX.n_block | apply HX.r_then | apply HX.r_block | apply HX.r_again | refine HC.cond_yes rfl ?_ | refine HC.cond_no rfl ?_ | refine HL.one (H1.ldb rfl memA rfl rfl ?_) | refine HC.cond rfl (fun hc => ?_) (fun hc => ?_) | refine HC.cond_b rfl (fun hc => ?_) (fun hc => ?_))
    exact hQq.get) : G := hwq ⟨x⟩
def kC (s e : Nat) (R : List Value) : List Value := .slice none 0 0 :: .nilFunc :: .nilFunc :: .slice (some ⟨s, 0, none⟩) 1 1 :: .func (.func 138) #[] #[] :: .func (.func 208) #[] #[.pointer (some ⟨e, 0, none⟩)] :: R
theorem kC_len {s e : Nat} {R : List Value} (h : R.length = 15) : (kC s e R).length = 21 := by simp [kC, h]
theorem kC_one {s e : Nat} {R : List Value} (h : ∀ v ∈ R, v.oneCell' = true) : ∀ v ∈ kC s e R, v.oneCell' = true := by
  intro v hv
  simp only [kC, List.mem_cons] at hv
  rcases hv with rfl | rfl | rfl | rfl | rfl | rfl | hv
  any_goals rfl
  exact h v hv
attribute [local irreducible] WC WL WX POp Then Again Fn NX W1 WA WO QL RP RA Yld LoopAt HC HL HX HN H1 HA HO HQ HB HP A.blk A.grow A.rd A.obj A.mp AgainH CutH
attribute [local irreducible] A.mq A.mit
set_option maxHeartbeats 4000000 in
theorem kinds_fn (w : World) : Fn Tryz.prog 73 #[] w fun u w' => ∃ z : Nat × Nat × List Value, (z.2.2.length = 15 ∧ ∀ v ∈ z.2.2, v.oneCell' = true) ∧ u = .agg (kC z.1 z.2.1 z.2.2).toArray ∧ Mm w [A.blk z.1 [zv 1] 3, A.blk z.2.1 [.func (.func 140) #[] #[]] 218] w' := by
  refine enterH (l := []) rfl Tryz.ntmps73 rfl ?_
  refine hwF6 ?_
  refine HL.one (H1.alloc (cs := [.slice none 0 0, .nilFunc, .nilFunc, .slice none 0 0, .nilFunc, .nilFunc, .slice none 0 0, .nilFunc, .nilFunc, .slice none 0 0, .nilFunc, .nilFunc, .slice none 0 0, .nilFunc, .nilFunc, .slice none 0 0, .nilFunc, .nilFunc, .slice none 0 0, .nilFunc, .nilFunc]) rfl rfl (fun b0 => ?_))
  refine hwF6 ?_
  refine HL.one (H1.lit (cs := [zv 1]) rfl rfl rfl rfl rfl rfl (fun s0 => ?_))
  refine hwF6 ?_
  refine HL.one (H1.callz (vs := [.func (.func 140) #[] #[]]) rfl rfl (fun w' _ => each_fn 140 w') ?_)
  rintro e0 -
  refine hwF6 ?_
  refine HL.build (cs := [.slice (some ⟨s0, 0, none⟩) 1 1, .func (.func 138) #[] #[], .func (.func 208) #[] #[.pointer (some ⟨e0, 0, none⟩)]]) rfl rfl rfl ?_
  refine hwF6 ?_
  refine HL.one (H1.lit (cs := [zv 1]) rfl rfl rfl rfl rfl rfl (fun s1 => ?_))
  refine hwF6 ?_
  refine HL.one (H1.callz (vs := [.func (.func 141) #[] #[]]) rfl rfl (fun w' _ => each_fn 141 w') ?_)
  rintro e1 -
  refine hwF6 ?_
  refine HL.build (cs := [.slice (some ⟨s1, 0, none⟩) 1 1, .func (.func 138) #[] #[], .func (.func 208) #[] #[.pointer (some ⟨e1, 0, none⟩)]]) rfl rfl rfl ?_
  refine hwF6 ?_
  refine HL.one (H1.lit (cs := [zv 3, zv 5]) rfl rfl rfl rfl rfl rfl (fun s2 => ?_))
  refine hwF6 ?_
  refine HL.one (H1.callz (vs := [.func (.func 143) #[] #[]]) rfl rfl (fun w' _ => each_fn 143 w') ?_)
  rintro e2 -
  refine hwF6 ?_
  refine HL.build (cs := [.slice (some ⟨s2, 0, none⟩) 2 2, .func (.func 142) #[] #[], .func (.func 208) #[] #[.pointer (some ⟨e2, 0, none⟩)]]) rfl rfl rfl ?_
  refine hwF6 ?_
  refine HL.one (H1.lit (cs := [zv 2]) rfl rfl rfl rfl rfl rfl (fun s3 => ?_))
  refine hwF6 ?_
  refine HL.one (H1.callz (vs := [.func (.func 145) #[] #[]]) rfl rfl (fun w' _ => each_fn 145 w') ?_)
  rintro e3 -
  refine hwF6 ?_
  refine HL.build (cs := [.slice (some ⟨s3, 0, none⟩) 1 1, .func (.func 144) #[] #[], .func (.func 208) #[] #[.pointer (some ⟨e3, 0, none⟩)]]) rfl rfl rfl ?_
  refine hwF6 ?_
  refine HL.one (H1.lit (cs := [zv 6, zv 7]) rfl rfl rfl rfl rfl rfl (fun s4 => ?_))
  refine hwF6 ?_
  refine HL.build (cs := [.slice (some ⟨s4, 0, none⟩) 2 2, .func (.func 138) #[] #[], .func (.func 146) #[] #[]]) rfl rfl rfl ?_
  refine hwF6 ?_
  refine HL.one (H1.lit (cs := [zv 1, zv 2, zv 3, zv 4, zv 5, zv 6, zv 7, zv 8]) rfl rfl rfl rfl rfl rfl (fun s5 => ?_))
  refine hwF6 ?_
  refine HL.build (cs := [.slice (some ⟨s5, 0, none⟩) 8 8, .func (.func 138) #[] #[], .func (.func 147) #[] #[]]) rfl rfl rfl ?_
  refine hwF6 ?_
  refine HL.build (cs := [.slice none 0 0, .nilFunc, .nilFunc, .slice (some ⟨s0, 0, none⟩) 1 1, .func (.func 138) #[] #[], .func (.func 208) #[] #[.pointer (some ⟨e0, 0, none⟩)], .slice (some ⟨s1, 0, none⟩) 1 1, .func (.func 138) #[] #[], .func (.func 208) #[] #[.pointer (some ⟨e1, 0, none⟩)], .slice (some ⟨s2, 0, none⟩) 2 2, .func (.func 142) #[] #[], .func (.func 208) #[] #[.pointer (some ⟨e2, 0, none⟩)], .slice (some ⟨s3, 0, none⟩) 1 1, .func (.func 144) #[] #[], .func (.func 208) #[] #[.pointer (some ⟨e3, 0, none⟩)], .slice (some ⟨s4, 0, none⟩) 2 2, .func (.func 138) #[] #[], .func (.func 146) #[] #[], .slice (some ⟨s5, 0, none⟩) 8 8, .func (.func 138) #[] #[], .func (.func 147) #[] #[]]) rfl rfl rfl ?_
  refine hwF6 ?_
  have h1 : ∀ v ∈ ([.slice (some ⟨s1, 0, none⟩) 1 1, .func (.func 138) #[] #[], .func (.func 208) #[] #[.pointer (some ⟨e1, 0, none⟩)], .slice (some ⟨s2, 0, none⟩) 2 2, .func (.func 142) #[] #[], .func (.func 208) #[] #[.pointer (some ⟨e2, 0, none⟩)], .slice (some ⟨s3, 0, none⟩) 1 1, .func (.func 144) #[] #[], .func (.func 208) #[] #[.pointer (some ⟨e3, 0, none⟩)], .slice (some ⟨s4, 0, none⟩) 2 2, .func (.func 138) #[] #[], .func (.func 146) #[] #[], .slice (some ⟨s5, 0, none⟩) 8 8, .func (.func 138) #[] #[], .func (.func 147) #[] #[]] : List Value), v.oneCell' = true := by
    intro v hv
    simp only [List.mem_cons, List.not_mem_nil, or_false] at hv
    rcases hv with rfl | rfl | rfl | rfl | rfl | rfl | rfl | rfl | rfl | rfl | rfl | rfl | rfl | rfl | rfl <;> rfl
  refine HL.one (H1.stAgg (b := b0) (cs := [.slice none 0 0, .nilFunc, .nilFunc, .slice none 0 0, .nilFunc, .nilFunc, .slice none 0 0, .nilFunc, .nilFunc, .slice none 0 0, .nilFunc, .nilFunc, .slice none 0 0, .nilFunc, .nilFunc, .slice none 0 0, .nilFunc, .nilFunc, .slice none 0 0, .nilFunc, .nilFunc]) (vs := kC s0 e0 [.slice (some ⟨s1, 0, none⟩) 1 1, .func (.func 138) #[] #[], .func (.func 208) #[] #[.pointer (some ⟨e1, 0, none⟩)], .slice (some ⟨s2, 0, none⟩) 2 2, .func (.func 142) #[] #[], .func (.func 208) #[] #[.pointer (some ⟨e2, 0, none⟩)], .slice (some ⟨s3, 0, none⟩) 1 1, .func (.func 144) #[] #[], .func (.func 208) #[] #[.pointer (some ⟨e3, 0, none⟩)], .slice (some ⟨s4, 0, none⟩) 2 2, .func (.func 138) #[] #[], .func (.func 146) #[] #[], .slice (some ⟨s5, 0, none⟩) 8 8, .func (.func 138) #[] #[], .func (.func 147) #[] #[]]) rfl rfl rfl (kC_one h1) rplA rfl ?_)
  refine hwF6 ?_
  exact HX.retc1 (b := b0) (cs := kC s0 e0 [.slice (some ⟨s1, 0, none⟩) 1 1, .func (.func 138) #[] #[], .func (.func 208) #[] #[.pointer (some ⟨e1, 0, none⟩)], .slice (some ⟨s2, 0, none⟩) 2 2, .func (.func 142) #[] #[], .func (.func 208) #[] #[.pointer (some ⟨e2, 0, none⟩)], .slice (some ⟨s3, 0, none⟩) 1 1, .func (.func 144) #[] #[], .func (.func 208) #[] #[.pointer (some ⟨e3, 0, none⟩)], .slice (some ⟨s4, 0, none⟩) 2 2, .func (.func 138) #[] #[], .func (.func 146) #[] #[], .slice (some ⟨s5, 0, none⟩) 8 8, .func (.func 138) #[] #[], .func (.func 147) #[] #[]]) rfl rfl memA rfl fun w' hM => ⟨(s0, e0, [.slice (some ⟨s1, 0, none⟩) 1 1, .func (.func 138) #[] #[], .func (.func 208) #[] #[.pointer (some ⟨e1, 0, none⟩)], .slice (some ⟨s2, 0, none⟩) 2 2, .func (.func 142) #[] #[], .func (.func 208) #[] #[.pointer (some ⟨e2, 0, none⟩)], .slice (some ⟨s3, 0, none⟩) 1 1, .func (.func 144) #[] #[], .func (.func 208) #[] #[.pointer (some ⟨e3, 0, none⟩)], .slice (some ⟨s4, 0, none⟩) 2 2, .func (.func 138) #[] #[], .func (.func 146) #[] #[], .slice (some ⟨s5, 0, none⟩) 8 8, .func (.func 138) #[] #[], .func (.func 147) #[] #[]]), ⟨rfl, h1⟩, rfl, hM.sub (by repeat (first | exact Hs.nil _ | (refine Hs.cons pickA ?_)))⟩
theorem avalid1_fn {s b5 b2 : Nat} (w : World) (h3 : w.cell? ⟨b5, 3, none⟩ = some (.slice (some ⟨s, 0, none⟩) 1 1)) (h4 : w.cell? ⟨b5, 4, none⟩ = some (.func (.func 138) #[] #[])) (h2 : w.cell? ⟨b2, 0, none⟩ = some (zv 1)) (hs : w.cell? ⟨s, 0, none⟩ = some (zv 1)) :
    Fn Tryz.prog 133 #[.agg #[zv 1, zv 0], .pointer (some ⟨b5, 0, none⟩), .pointer (some ⟨b2, 0, none⟩)] w fun u w' => u = .bool false ∧ Ext w w' := by
  refine enterH (l := [_, _, _]) rfl Tryz.ntmps133 rfl ?_
  refine hwF6 ?_
  refine HL.one (H1.boxAgg (cs := [zv 1, zv 0]) rfl rfl (fun b3 => ?_))
  refine hwF6 ?_
  refine HC.anyC ([(⟨b3, 0, none⟩, zv 1), (⟨b3, 1, none⟩, zv 0), (⟨b5, 3, none⟩, .slice (some ⟨s, 0, none⟩) 1 1), (⟨b5, 4, none⟩, .func (.func 138) #[] #[]), (⟨b2, 0, none⟩, zv 1)]) rfl ?_
  refine HB.pa 0 rfl ?_
  refine HB.ld 1 rfl rfl memD ?_
  refine HB.all (by repeat (first | exact Keep.nil | refine Keep.blk (by (repeat (first | exact List.Mem.head _ | apply List.Mem.tail)); done) rfl ?_ | refine Keep.grow (by (repeat (first | exact List.Mem.head _ | apply List.Mem.tail)); done) (by assumption) ?_ | refine Keep.base (by assumption) ?_)) [2] (by kernel_rfl) rfl ⟨⟨_, rfl, ?_⟩, trivial⟩
  refine HP.one ?_
  refine H1.callx (vs := [_, _, _]) rfl rfl (fun w' _ => awithin_yes (by decide) (by decide) w') ?_
  apply HB.fold
  refine HB.pa 3 rfl ?_
  refine HB.pa 4 rfl ?_
  first | refine HB.ga 5 rfl rfl ?_ | refine HB.na 5 rfl rfl ?_ | refine HB.nu 5 rfl rfl ?_
  refine HB.ldg 6 rfl rfl rfl memD ?_
  first | refine HB.ga 7 rfl rfl ?_ | refine HB.na 7 rfl rfl ?_ | refine HB.nu 7 rfl rfl ?_
  first | refine HB.ga 8 rfl rfl ?_ | refine HB.na 8 rfl rfl ?_ | refine HB.nu 8 rfl rfl ?_
  refine HB.ldg 9 rfl rfl rfl memD ?_
  refine HB.ldg 10 rfl rfl rfl memD ?_
  refine HB.all (by repeat (first | exact Keep.nil | refine Keep.blk (by (repeat (first | exact List.Mem.head _ | apply List.Mem.tail)); done) rfl ?_ | refine Keep.grow (by (repeat (first | exact List.Mem.head _ | apply List.Mem.tail)); done) (by assumption) ?_ | refine Keep.base (by assumption) ?_)) [11] (by kernel_rfl) rfl ⟨⟨_, rfl, ?_⟩, trivial⟩
  refine HP.one_a rfl ?_
  refine H1.callx (vs := [_, _]) rfl rfl (fun w' hM => contains1_fn s w' (cell_ext hM.ext hs)) ?_
  apply HB.fold
  first | refine HB.ga 12 rfl rfl ?_ | refine HB.na 12 rfl rfl ?_ | refine HB.nu 12 rfl rfl ?_
  refine HB.pa 13 rfl ?_
  refine HB.pa 14 rfl ?_
  first | refine HB.ga 15 rfl rfl ?_ | refine HB.na 15 rfl rfl ?_ | refine HB.nu 15 rfl rfl ?_
  refine HB.ldg 16 rfl rfl rfl memD ?_
  first | refine HB.ga 17 rfl rfl ?_ | refine HB.na 17 rfl rfl ?_ | refine HB.nu 17 rfl rfl ?_
  first | refine HB.ga 18 rfl rfl ?_ | refine HB.na 18 rfl rfl ?_ | refine HB.nu 18 rfl rfl ?_
  refine HB.ldg 19 rfl rfl rfl memD ?_
  first | refine HB.ga 20 rfl rfl ?_ | refine HB.na 20 rfl rfl ?_ | refine HB.nu 20 rfl rfl ?_
  refine HB.ldg 21 rfl rfl rfl memD ?_
  refine HB.all (by repeat (first | exact Keep.nil | refine Keep.blk (by (repeat (first | exact List.Mem.head _ | apply List.Mem.tail)); done) rfl ?_ | refine Keep.grow (by (repeat (first | exact List.Mem.head _ | apply List.Mem.tail)); done) (by assumption) ?_ | refine Keep.base (by assumption) ?_)) [22] (by kernel_rfl) rfl ⟨⟨_, rfl, ?_⟩, trivial⟩
  refine HP.one_a rfl ?_
  refine H1.callv0 (u := .bool true) (cap := []) (vs := [_]) rfl rfl rfl (fun w' _ => anone_yes w') ?_
  apply HB.fold
  first | refine HB.ga 23 rfl rfl ?_ | refine HB.na 23 rfl rfl ?_ | refine HB.nu 23 rfl rfl ?_
  refine HB.pa 24 rfl ?_
  refine HB.pa 25 rfl ?_
  refine HB.done (by repeat (first | exact Keep.nil | refine Keep.blk (by (repeat (first | exact List.Mem.head _ | apply List.Mem.tail)); done) rfl ?_ | refine Keep.grow (by (repeat (first | exact List.Mem.head _ | apply List.Mem.tail)); done) (by assumption) ?_ | refine Keep.base (by assumption) ?_)) (by kernel_rfl) ?_
  refine hwF6 ?_
  exact HX.ret1 rfl rfl fun w' hM => ⟨rfl, hM.ext⟩
set_option maxHeartbeats 1000000 in
theorem avalid_fn (v : Value) (w : World) (hR : RdK w v 1 2 fun _ => [zv 1, zv 0]) : Fn Tryz.prog 71 #[zv 1, v] w fun u w' => u = .bool true ∧ Ext w w' := by
  obtain ⟨av, cv, rfl, -, -⟩ := id hR
  refine enterH (l := [_, _]) rfl Tryz.ntmps71 rfl ?_
  refine hwF6 ?_
  refine HL.one (H1.box rfl rfl rfl (fun b2 => ?_))
  refine hwF6 ?_
  refine HL.one (H1.callz (vs := []) rfl rfl (fun w' _ => kinds_fn w') ?_)
  rintro ⟨s, e, R⟩ ⟨hR1, hR2⟩
  dsimp only at hR1 hR2 ⊢
  refine hwF6 ?_
  refine HL.one (H1.alloc (cs := [.slice none 0 0, .nilFunc, .nilFunc, .slice none 0 0, .nilFunc, .nilFunc, .slice none 0 0, .nilFunc, .nilFunc, .slice none 0 0, .nilFunc, .nilFunc, .slice none 0 0, .nilFunc, .nilFunc, .slice none 0 0, .nilFunc, .nilFunc, .slice none 0 0, .nilFunc, .nilFunc]) rfl rfl (fun b5 => ?_))
  refine hwF6 ?_
  refine HL.one (H1.stAgg (b := b5) (cs := [.slice none 0 0, .nilFunc, .nilFunc, .slice none 0 0, .nilFunc, .nilFunc, .slice none 0 0, .nilFunc, .nilFunc, .slice none 0 0, .nilFunc, .nilFunc, .slice none 0 0, .nilFunc, .nilFunc, .slice none 0 0, .nilFunc, .nilFunc, .slice none 0 0, .nilFunc, .nilFunc]) (vs := kC s e R) rfl rfl (kC_len hR1) (kC_one hR2) rplA (kC_len hR1) ?_)
  refine hwF6 ?_
  refine HL.one (H1.callx (vs := [_, _, _]) rfl rfl (fun w' _ => awithin_yes (by decide) (by decide) w') ?_)
  refine hwF6 ?_
  refine HL.one (H1.callx (u := .bool false) (vs := [.slice av 1 cv, .func (.func 133) #[] #[.pointer (some ⟨b5, 0, none⟩), .pointer (some ⟨b2, 0, none⟩)]]) rfl rfl (fun w' hM => (contSt_fn (p := fun _ => false) (by decide) (fun _ => rfl) w' (hR.ext hM.ext) ⟨_, [], [.pointer (some ⟨b5, 0, none⟩), .pointer (some ⟨b2, 0, none⟩)], rfl, inferInstance, fun w2 hx i hi => avalid1_fn (s := s) w2 (cell_ext hx ((hM.blk (b := b5) (cs := kC s e R) memA).cell (i := 3) rfl)) (cell_ext hx ((hM.blk (b := b5) (cs := kC s e R) memA).cell (i := 4) rfl)) (cell_ext hx ((hM.blk (b := b2) (cs := [zv 1]) memA).cell (i := 0) rfl)) (cell_ext hx ((hM.blk (b := s) (cs := [zv 1]) memA).cell (i := 0) rfl))⟩).mono fun u w'' h => ⟨h.1.trans (by rw [anyN_no fun _ _ => rfl]), h.2⟩) ?_)
  refine hwF6 ?_
  exact HX.ret1 rfl rfl fun w' hM => ⟨rfl, hM.ext⟩
end Go.Sx
/- Chapter 2: the words of a block: the walks. -/
namespace Go.Sx
open Go Go.Proofs Go.RowKit
theorem hwDD {G G2 : Prop} (x : G2) (hwq : Hold G2 → G := by
    intro hQq
    repeat' (first | apply HL.fold | apply HA.fold | apply HL.nil | apply HX.n_then | apply HC.seq | apply HC.region | refine HL.pa ?_ | refine HL.ga rfl ?_ | refine HL.na rfl ?_ | refine HL.nu rfl rfl ?_ | apply HC.block | apply HC.skip | apply HC.exit | apply HC.ret | apply HX.e_block | refine HX.e_other rfl ?_ | apply HX.e_then | apply HX.e_again | apply HX.n_block | apply HX.r_then | apply HX.r_block | apply HX.r_again | refine HC.cond_yes rfl ?_ | refine HC.cond_no rfl ?_ | refine HL.one (H1.ldb rfl memA rfl rfl ?_) | refine HC.cond rfl (fun hc => ?_) (fun hc => ?_) | refine HC.cond_b rfl (fun hc => ?_) (fun hc => ?_))
    exact hQq.get) : G := hwq ⟨x⟩
theorem hbDD {G G2 : Prop} (x : G2) (hwq : Hold G2 → G := by
    intro hQq
    repeat' (first | apply HL.fold | apply HA.fold | apply HL.nil | apply HX.n_then | apply HC.seq | apply HC.region | refine HL.pa ?_ | refine HL.ga rfl ?_ | refine HL.na rfl ?_ | refine HL.nu rfl rfl ?_ | apply HC.skip | apply HC.exit | apply HC.ret | apply HX.e_block | refine HX.e_other rfl ?_ | apply HX.e_then | apply HX.e_again | apply HX.n_block | apply HX.r_then | apply HX.r_block | apply HX.r_again | refine HC.cond_yes rfl ?_ | refine HC.cond_no rfl ?_ | refine HL.one (H1.ldb rfl memA rfl rfl ?_) | refine HC.cond rfl (fun hc => ?_) (fun hc => ?_) | refine HC.cond_b rfl (fun hc => ?_) (fun hc => ?_))
    exact hQq.get) : G := hwq ⟨x⟩
def nats (l : List Nat) : List Value := l.map fun n : Nat => zv (n : Int)
theorem nats_get {l : List Nat} {i : Nat} (h : i < l.length) : (nats l)[i]? = some (zv ((l[i] : Nat) : Int)) := by simp [nats, h]
def ws (l : List UInt32) : List Value := l.map w32
theorem mixW_take {x : UInt32} {l : List Nat} {i : Nat} (h : i < l.length) : mixW x (l.take (i + 1)) = mixW x (l.take i) ^^^ rot x l[i] := by
  unfold mixW
  rw [List.take_succ_eq_append_getElem h, List.foldl_append]; rfl
theorem wrap_neg {n : Nat} (h0 : 0 < n) (h : n < 32) : IntKind.u64.wrap (-(n : Int)) = ((18446744073709551616 - n : Nat) : Int) := by
  simp [IntKind.wrap, IntKind.bits, IntKind.signed]; omega
attribute [local irreducible] WC WL WX POp Then Again Fn NX W1 WA WO QL RP RA Yld LoopAt HC HL HX HN H1 HA HO HQ HB HP A.blk A.grow A.rd A.obj A.mp AgainH CutH
theorem rotate_fn (x : UInt32) (n : Nat) (h0 : 0 < n) (h : n < 32) (w : World) : Fn Tryz.prog 270 #[w32 x, zv (-(n : Int))] w fun v w' => v = w32 (rot x n) ∧ w = w' := by
  have hand : (18446744073709551616 - n) &&& 31 = 32 - n := by
    rw [show 31 = 2 ^ 5 - 1 from rfl, Nat.and_two_pow_sub_one_eq_mod]; omega
  refine enter (l := [_, _]) rfl Tryz.ntmps270 rfl ?_
  repeat' (first | apply WL.fold | apply WA.fold | apply WL.nil | apply WX.n_then | apply WC.seq | apply WC.region | refine WL.pa ?_ | refine WL.ga rfl ?_ | refine WL.na rfl ?_ | refine WL.nu rfl rfl ?_ | apply WC.block | apply WC.skip | apply WC.exit | apply WC.ret | apply WX.e_block | refine WX.e_other rfl ?_ | apply WX.e_then | apply WX.e_again | apply WX.n_block | apply WX.r_then | apply WX.r_block | apply WX.r_again | refine WC.cond_yes rfl ?_ | refine WC.cond_no rfl ?_ | refine WC.cond rfl (fun hc => ?_) (fun hc => ?_) | refine WC.cond_b rfl (fun hc => ?_) (fun hc => ?_))
  refine WL.pa ?_ ((POp.conv (k' := .u64) rfl).of (v' := .int .u64 ((18446744073709551616 - n : Nat) : Int)) (by rw [wrap_neg h0 h]))
  repeat' (first | apply WL.fold | apply WA.fold | apply WL.nil | apply WX.n_then | apply WC.seq | apply WC.region | refine WL.pa ?_ | refine WL.ga rfl ?_ | refine WL.na rfl ?_ | refine WL.nu rfl rfl ?_ | apply WC.block | apply WC.skip | apply WC.exit | apply WC.ret | apply WX.e_block | refine WX.e_other rfl ?_ | apply WX.e_then | apply WX.e_again | apply WX.n_block | apply WX.r_then | apply WX.r_block | apply WX.r_again | refine WC.cond_yes rfl ?_ | refine WC.cond_no rfl ?_ | refine WC.cond rfl (fun hc => ?_) (fun hc => ?_) | refine WC.cond_b rfl (fun hc => ?_) (fun hc => ?_))
  refine WL.pa ?_ (POp.and64 (b := 31) rfl rfl rfl rfl (by omega) (by decide))
  rw [hand]
  repeat' (first | apply WL.fold | apply WA.fold | apply WL.nil | apply WX.n_then | apply WC.seq | apply WC.region | refine WL.pa ?_ | refine WL.ga rfl ?_ | refine WL.na rfl ?_ | refine WL.nu rfl rfl ?_ | apply WC.block | apply WC.skip | apply WC.exit | apply WC.ret | apply WX.e_block | refine WX.e_other rfl ?_ | apply WX.e_then | apply WX.e_again | apply WX.n_block | apply WX.r_then | apply WX.r_block | apply WX.r_again | refine WC.cond_yes rfl ?_ | refine WC.cond_no rfl ?_ | refine WC.cond rfl (fun hc => ?_) (fun hc => ?_) | refine WC.cond_b rfl (fun hc => ?_) (fun hc => ?_))
  refine WL.pa ?_ (POp.sub64 (a := 32) (b := 32 - n) rfl rfl rfl rfl (by omega) (by decide))
  rw [show 32 - (32 - n) = n from by omega]
  repeat' (first | apply WL.fold | apply WA.fold | apply WL.nil | apply WX.n_then | apply WC.seq | apply WC.region | refine WL.pa ?_ | refine WL.ga rfl ?_ | refine WL.na rfl ?_ | refine WL.nu rfl rfl ?_ | apply WC.block | apply WC.skip | apply WC.exit | apply WC.ret | apply WX.e_block | refine WX.e_other rfl ?_ | apply WX.e_then | apply WX.e_again | apply WX.n_block | apply WX.r_then | apply WX.r_block | apply WX.r_again | refine WC.cond_yes rfl ?_ | refine WC.cond_no rfl ?_ | refine WC.cond rfl (fun hc => ?_) (fun hc => ?_) | refine WC.cond_b rfl (fun hc => ?_) (fun hc => ?_))
  exact WX.ret1 rfl rfl ⟨rfl, rfl⟩
theorem mixed_fn (x : UInt32) (l : List Nat) (hl : ∀ n ∈ l, 0 < n ∧ n < 32) {b c : Nat} (w : World) (hr : Rd w (.slice (some ⟨b, 0, none⟩) l.length c) (nats l)) (hs : l.length ≤ 1000) :
    Fn Tryz.prog 248 #[w32 x, .slice (some ⟨b, 0, none⟩) l.length c] w fun v w' => v = w32 (mixW x l) ∧ w = w' := by
  refine enter (l := [_, _]) rfl Tryz.ntmps248 rfl ?_
  repeat' (first | apply WL.fold | apply WA.fold | apply WL.nil | apply WX.n_then | apply WC.seq | apply WC.region | refine WL.pa ?_ | refine WL.ga rfl ?_ | refine WL.na rfl ?_ | refine WL.nu rfl rfl ?_ | apply WC.block | apply WC.skip | apply WC.exit | apply WC.ret | apply WX.e_block | refine WX.e_other rfl ?_ | apply WX.e_then | apply WX.e_again | apply WX.n_block | apply WX.r_then | apply WX.r_block | apply WX.r_again | refine WC.cond_yes rfl ?_ | refine WC.cond_no rfl ?_ | refine WC.cond rfl (fun hc => ?_) (fun hc => ?_) | refine WC.cond_b rfl (fun hc => ?_) (fun hc => ?_))
  refine WC.loop (α := Nat) (fun i => [(0, w32 x), (5, w32 (mixW x (l.take i))), (8, .slice (some ⟨b, 0, none⟩) l.length c), (9, zv (l.length : Int)), (10, zv (i : Int))])
    (fun i w' => i ≤ l.length ∧ w' = w) (fun i => l.length - i) 0 esA ⟨by omega, rfl⟩ ?_
  rintro i w' ⟨hi, rfl⟩
  by_cases hlt : i < l.length
  · have hn := hl _ (List.getElem_mem hlt)
    have hm := mixW_take (x := x) hlt
    have hc := hr.cell (nats_get hlt)
    rw [Nat.zero_add] at hc
    generalize l[i] = n at hn hm hc
    repeat' (first | apply WL.fold | apply WA.fold | apply WL.nil | apply WX.n_then | apply WC.seq | apply WC.region | refine WL.pa ?_ | refine WL.ga rfl ?_ | refine WL.na rfl ?_ | refine WL.nu rfl rfl ?_ | apply WC.block | apply WC.skip | apply WC.exit | apply WC.ret | apply WX.e_block | refine WX.e_other rfl ?_ | apply WX.e_then | apply WX.e_again | apply WX.n_block | apply WX.r_then | apply WX.r_block | apply WX.r_again | refine WC.cond_yes rfl ?_ | refine WC.cond_no rfl ?_ | refine WC.cond rfl (fun hc => ?_) (fun hc => ?_) | refine WC.cond_b rfl (fun hc => ?_) (fun hc => ?_))
    refine WL.load rfl hc rfl ?_
    repeat' (first | apply WL.fold | apply WA.fold | apply WL.nil | apply WX.n_then | apply WC.seq | apply WC.region | refine WL.pa ?_ | refine WL.ga rfl ?_ | refine WL.na rfl ?_ | refine WL.nu rfl rfl ?_ | apply WC.block | apply WC.skip | apply WC.exit | apply WC.ret | apply WX.e_block | refine WX.e_other rfl ?_ | apply WX.e_then | apply WX.e_again | apply WX.n_block | apply WX.r_then | apply WX.r_block | apply WX.r_again | refine WC.cond_yes rfl ?_ | refine WC.cond_no rfl ?_ | refine WC.cond rfl (fun hc => ?_) (fun hc => ?_) | refine WC.cond_b rfl (fun hc => ?_) (fun hc => ?_))
    refine WL.call rfl rfl (rotate_fn x n hn.1 hn.2 w') ?_
    rintro v w2 ⟨rfl, rfl⟩
    repeat' (first | apply WL.fold | apply WA.fold | apply WL.nil | apply WX.n_then | apply WC.seq | apply WC.region | refine WL.pa ?_ | refine WL.ga rfl ?_ | refine WL.na rfl ?_ | refine WL.nu rfl rfl ?_ | apply WC.block | apply WC.skip | apply WC.exit | apply WC.ret | apply WX.e_block | refine WX.e_other rfl ?_ | apply WX.e_then | apply WX.e_again | apply WX.n_block | apply WX.r_then | apply WX.r_block | apply WX.r_again | refine WC.cond_yes rfl ?_ | refine WC.cond_no rfl ?_ | refine WC.cond rfl (fun hc => ?_) (fun hc => ?_) | refine WC.cond_b rfl (fun hc => ?_) (fun hc => ?_))
    refine WX.again (i + 1) ⟨hlt, rfl⟩ (by show l.length - (i + 1) < l.length - i; omega) ?_
    rw [hm]; repeat (first | exact trivial | refine ⟨rfl, ?_⟩)
  · obtain rfl : i = l.length := by omega
    rw [List.take_length]
    repeat' (first | apply WL.fold | apply WA.fold | apply WL.nil | apply WX.n_then | apply WC.seq | apply WC.region | refine WL.pa ?_ | refine WL.ga rfl ?_ | refine WL.na rfl ?_ | refine WL.nu rfl rfl ?_ | apply WC.block | apply WC.skip | apply WC.exit | apply WC.ret | apply WX.e_block | refine WX.e_other rfl ?_ | apply WX.e_then | apply WX.e_again | apply WX.n_block | apply WX.r_then | apply WX.r_block | apply WX.r_again | refine WC.cond_yes rfl ?_ | refine WC.cond_no rfl ?_ | refine WC.cond rfl (fun hc => ?_) (fun hc => ?_) | refine WC.cond_b rfl (fun hc => ?_) (fun hc => ?_))
    exact WX.ret1 rfl rfl ⟨rfl, rfl⟩
end Go.Sx
/- Chapter 2: the words of a block, and what a block does to a state: the walks. -/
namespace Go.Sx
open Go Go.Proofs Go.RowKit
def schW (l : List UInt8) (i : Nat) : List Value := row 64 fun j => w32 (if j < i then wW l j else 0)
theorem schW_get {l : List UInt8} {i j : Nat} (h : j < i) (hj : j < 64) : (schW l i)[j]? = some (w32 (wW l j)) := by
  unfold schW
  rw [row_get _ hj, if_pos h]
theorem schW_set {l : List UInt8} {i : Nat} (h : i < 64) : (schW l i).set i (w32 (wW l i)) = schW l (i + 1) := by
  unfold schW
  rw [row_set]
  refine row_congr fun j _ => ?_
  by_cases e : j = i
  · subst e; rw [if_pos rfl, if_pos (Nat.lt_succ_self _)]
  · have : (j < i + 1) = (j < i) := by simp only [eq_iff_iff]; omega
    rw [if_neg e]; simp only [this]
theorem schW_len (l : List UInt8) (i : Nat) : (schW l i).length = 64 := row_len _ _
theorem row_one' {n : Nat} {f : Nat → Value} (h : ∀ i, (f i).oneCell' = true) : ∀ v ∈ row n f, v.oneCell' = true := by
  intro v hv
  obtain ⟨i, -, rfl⟩ := List.mem_map.1 hv
  exact h i
theorem ub_at {w : World} {b off n c : Nat} {l : List UInt8} (h : Rd w (.slice (some ⟨b, off, none⟩) n c) (ub l)) {i : Nat} (hi : i < l.length) : w.cell? ⟨b, off + i, none⟩ = some (b8 (l.getD i 0)) := by
  have : (ub l)[i]? = some (b8 (l.getD i 0)) := by simp [ub, hi]
  exact h.cell this
theorem blk_rd {w : World} {b n : Nat} {cs : List Value} {e : TypeId} (h : Blk w b cs e) (hn : cs.length = n) : Rd w (.slice (some ⟨b, 0, none⟩) n n) cs := by
  have := Rd.of_blk (l := n) (c := n) h (Nat.le_of_eq hn.symm) (Nat.le_refl _)
  rwa [← hn, List.take_length, hn] at this
attribute [local irreducible] WC WL WX POp Then Again Fn NX W1 WA WO QL RP RA Yld LoopAt HC HL HX HN H1 HA HO HQ HB HP A.blk A.grow A.rd A.obj A.mp AgainH CutH
attribute [local irreducible] wordAt mixW
set_option maxRecDepth 100000 in
set_option maxHeartbeats 4000000 in
theorem schedule_fn {bb off c : Nat} (l : List UInt8) (hl : l.length = 64) (w : World) (hr : Rd w (.slice (some ⟨bb, off, none⟩) 64 c) (ub l)) :
    Fn Tryz.prog 247 #[.slice (some ⟨bb, off, none⟩) 64 c] w fun v w' => v = .agg (schW l 64).toArray ∧ Ext w w' := by
  refine enterH (l := [_]) rfl Tryz.ntmps247 rfl ?_
  refine hwDD ?_
  refine HL.one (H1.alloc (cs := schW l 0) (by kernel_rfl) rfl (fun b2 => ?_))
  refine hbDD ?_
  refine HC.cut (α := Unit) (fun _ => [(0, .slice (some ⟨bb, off, none⟩) 64 c), (2, .pointer (some ⟨b2, 0, none⟩))]) (fun _ => [A.blk b2 (schW l 16) 308]) (fun _ => True) ?_ ?_
  · repeat refine HC.seq ?_
    refine hwDD ?_
    refine HC.loop (α := Nat) (fun i => [(0, .slice (some ⟨bb, off, none⟩) 64 c), (2, .pointer (some ⟨b2, 0, none⟩)), (7, zv (i : Int))]) (fun i => [A.blk b2 (schW l i) 308]) (fun i => i ≤ 16) (fun i => 16 - i) 0 (Nat.zero_le _) esA (Hs.refl _) ?_
    rintro i hi
    by_cases hlt : i < 16
    · have h0 := ub_at hr (i := 4 * i) (by omega)
      have h1 := ub_at hr (i := 4 * i + 1) (by omega)
      have h2 := ub_at hr (i := 4 * i + 2) (by omega)
      have h3 := ub_at hr (i := 4 * i + 3) (by omega)
      have hset := schW_set (l := l) (i := i) (by omega)
      rw [wW_lo hlt] at hset
      unfold wordAt bt at hset
      refine hwDD ?_
      refine HC.anyC ([(⟨bb, off + 4 * i, none⟩, b8 (l.getD (4 * i) 0)), (⟨bb, off + (4 * i + 1), none⟩, b8 (l.getD (4 * i + 1) 0)), (⟨bb, off + (4 * i + 2), none⟩, b8 (l.getD (4 * i + 2) 0)), (⟨bb, off + (4 * i + 3), none⟩, b8 (l.getD (4 * i + 3) 0))]) rfl ?_
      refine HB.pa 0 rfl ?_
      refine HB.pa 1 rfl ?_
      refine HB.pa 2 rfl ?_
      refine HB.pa 3 rfl ?_
      refine HB.pa 4 rfl ?_ (POp.index_slice (o := off + 4 * i) rfl rfl (by omega) (by omega) (by omega))
      refine HB.ld 5 rfl rfl memD ?_
      refine HB.pa 6 rfl ?_
      refine HB.pa 7 rfl ?_
      refine HB.pa 8 rfl ?_
      refine HB.pa 9 rfl ?_
      refine HB.pa 10 rfl ?_
      refine HB.pa 11 rfl ?_
      refine HB.pa 12 rfl ?_ (POp.index_slice (o := off + (4 * i + 1)) rfl rfl (by omega) (by omega) (by omega))
      refine HB.ld 13 rfl rfl memD ?_
      refine HB.pa 14 rfl ?_
      refine HB.pa 15 rfl ?_
      refine HB.pa 16 rfl ?_
      refine HB.pa 17 rfl ?_
      refine HB.pa 18 rfl ?_
      refine HB.pa 19 rfl ?_
      refine HB.pa 20 rfl ?_
      refine HB.pa 21 rfl ?_ (POp.index_slice (o := off + (4 * i + 2)) rfl rfl (by omega) (by omega) (by omega))
      refine HB.ld 22 rfl rfl memD ?_
      refine HB.pa 23 rfl ?_
      refine HB.pa 24 rfl ?_
      refine HB.pa 25 rfl ?_
      refine HB.pa 26 rfl ?_
      refine HB.pa 27 rfl ?_
      refine HB.pa 28 rfl ?_
      refine HB.pa 29 rfl ?_
      refine HB.pa 30 rfl ?_ (POp.index_slice (o := off + (4 * i + 3)) rfl rfl (by omega) (by omega) (by omega))
      refine HB.ld 31 rfl rfl memD ?_
      refine HB.pa 32 rfl ?_
      refine HB.pa 33 rfl ?_
      refine HB.pa 34 rfl ?_
      refine HB.all (by (exact Keep.base h0 (Keep.base h1 (Keep.base h2 (Keep.base h3 Keep.nil))))) [35] (by kernel_rfl) rfl ⟨⟨_, rfl, ?_⟩, trivial⟩
      refine HP.one ?_
      refine H1.st (b := b2) rfl rfl (by intro _ h; cases h) (by intro _ h; cases h) rplA (by rw [schW_len]; omega) ?_
      rw [hset]
      apply HB.fold
      refine HB.done (by (exact Keep.base h0 (Keep.base h1 (Keep.base h2 (Keep.base h3 Keep.nil))))) (by kernel_rfl) ?_
      refine hwDD ?_
      exact HX.again (i + 1) hlt (by show 16 - (i + 1) < 16 - i; omega) esA (Hs.refl _)
    · obtain rfl : i = 16 := by omega
      refine hwDD ?_
      exact HX.cut () trivial esA (Hs.refl _)
  rintro - -
  refine hwDD ?_
  refine HC.loop (α := Nat) (fun i => [(2, .pointer (some ⟨b2, 0, none⟩)), (4, zv (i : Int))]) (fun i => [A.blk b2 (schW l i) 308]) (fun i => 16 ≤ i ∧ i ≤ 64) (fun i => 64 - i) 16 ⟨Nat.le_refl _, by omega⟩ esA (Hs.refl _) ?_
  rintro i ⟨hi0, hi⟩
  by_cases hlt : i < 64
  · have g2 := schW_get (l := l) (i := i) (j := i - 2) (by omega) (by omega)
    have g7 := schW_get (l := l) (i := i) (j := i - 7) (by omega) (by omega)
    have g15 := schW_get (l := l) (i := i) (j := i - 15) (by omega) (by omega)
    have g16 := schW_get (l := l) (i := i) (j := i - 16) (by omega) (by omega)
    have k7 := schW_get (l := l) (i := i + 1) (j := i - 7) (by omega) (by omega)
    have k16 := schW_get (l := l) (i := i + 1) (j := i - 16) (by omega) (by omega)
    have hset := schW_set (l := l) (i := i) hlt
    rw [wW_hi (by omega)] at hset
    have e2 : ((i : Int) - 2).toNat = i - 2 := by omega
    have e15 : ((i : Int) - 15).toNat = i - 15 := by omega
    refine hwDD ?_
    refine HC.quietS [(some 50, [4], []), (some 51, [50], [0]), (some 52, [2, 51], [1]), (some 53, [52], [2]), (some 54, [4], []), (some 55, [54], [4]), (some 56, [2, 55], [5]), (some 57, [56], [6]), (some 5, [53], [3, 0, 1, 2, 3]), (some 6, [57], [7, 8, 0, 1, 2, 3, 4, 5, 6, 7, 8])] (by kernel_rfl) (by kernel_rfl) (by kernel_rfl) ?_
    repeat' (first | refine HQ.pa ?_ | refine HQ.ga rfl ?_ | refine HQ.na rfl ?_ | refine HQ.nu rfl ?_ | refine HQ.ldb rfl memA rfl rfl ?_)
    rw [e15]
    refine HQ.ldb rfl memA g15 rfl ?_
    repeat' (first | refine HQ.pa ?_ | refine HQ.ga rfl ?_ | refine HQ.na rfl ?_ | refine HQ.nu rfl ?_ | refine HQ.ldb rfl memA rfl rfl ?_)
    rw [e2]
    refine HQ.ldb rfl memA g2 rfl ?_
    repeat' (first | refine HQ.pa ?_ | refine HQ.ga rfl ?_ | refine HQ.na rfl ?_ | refine HQ.nu rfl ?_ | refine HQ.ldb rfl memA rfl rfl ?_)
    refine HQ.nil ?_
    refine hwDD ?_
    refine HC.anyC ([(⟨b2, i - 16, none⟩, w32 (wW l (i - 16))), (⟨b2, i - 7, none⟩, w32 (wW l (i - 7)))]) rfl ?_
    refine HB.pa 0 rfl ?_
    refine HB.pa 1 rfl ?_
    refine HB.pa 2 rfl ?_
    refine HB.pa 3 rfl ?_ (POp.index_array (o := i - 16) rfl rfl (by omega) (by omega) (by omega))
    refine HB.ld 4 rfl rfl memD ?_
    refine HB.pa 5 rfl ?_
    refine HB.pa 8 rfl ?_
    refine HB.pa 9 rfl ?_
    refine HB.pa 12 rfl ?_
    refine HB.pa 13 rfl ?_
    refine HB.pa 14 rfl ?_ (POp.index_array (o := i - 7) rfl rfl (by omega) (by omega) (by omega))
    refine HB.ld 15 rfl rfl memD ?_
    refine HB.pa 17 rfl ?_
    refine HB.pa 20 rfl ?_
    refine HB.pa 21 rfl ?_
    refine HB.all (by (first | exact Keep.blk memD g16 (Keep.blk memD g7 Keep.nil) | exact Keep.blk memD k16 (Keep.blk memD k7 Keep.nil))) [6, 18] (by kernel_rfl) rfl ⟨⟨_, rfl, ?_⟩, ⟨_, rfl, ?_⟩, trivial⟩
    · refine HP.one ?_
      refine H1.lit (cs := nats [7, 18]) rfl rfl rfl rfl rfl rfl (fun b6 => ?_)
      apply HB.fold
      refine HB.all (by (first | exact Keep.blk memD g16 (Keep.blk memD g7 Keep.nil) | exact Keep.blk memD k16 (Keep.blk memD k7 Keep.nil))) [7, 18] (by kernel_rfl) rfl ⟨⟨_, rfl, ?_⟩, ⟨_, rfl, ?_⟩, trivial⟩
      · refine HP.one ?_
        refine H1.call0 rfl rfl (fun w' hM => mixed_fn (wW l (i - 15)) [7, 18] (by decide) w' (blk_rd (hM.blk memA) rfl) (by decide)) ?_
        apply HB.fold
        refine HB.pa 10 rfl ?_
        refine HB.pa 11 rfl ?_
        refine HB.pa 16 rfl ?_
        refine HB.all (by (first | exact Keep.blk memD g16 (Keep.blk memD g7 Keep.nil) | exact Keep.blk memD k16 (Keep.blk memD k7 Keep.nil))) [18] (by kernel_rfl) rfl ⟨⟨_, rfl, ?_⟩, trivial⟩
        refine HP.one ?_
        refine H1.lit (cs := nats [17, 19]) rfl rfl rfl rfl rfl rfl (fun b18 => ?_)
        apply HB.fold
        refine HB.all (by (first | exact Keep.blk memD g16 (Keep.blk memD g7 Keep.nil) | exact Keep.blk memD k16 (Keep.blk memD k7 Keep.nil))) [19] (by kernel_rfl) rfl ⟨⟨_, rfl, ?_⟩, trivial⟩
        refine HP.one ?_
        refine H1.call0 rfl rfl (fun w' hM => mixed_fn (wW l (i - 2)) [17, 19] (by decide) w' (blk_rd (hM.blk memA) rfl) (by decide)) ?_
        apply HB.fold
        refine HB.pa 22 rfl ?_
        refine HB.pa 23 rfl ?_
        refine HB.pa 24 rfl ?_
        refine HB.all (by (first | exact Keep.blk memD g16 (Keep.blk memD g7 Keep.nil) | exact Keep.blk memD k16 (Keep.blk memD k7 Keep.nil))) [25] (by kernel_rfl) rfl ⟨⟨_, rfl, ?_⟩, trivial⟩
        refine HP.one ?_
        refine H1.st (b := b2) rfl rfl (by intro _ h; cases h) (by intro _ h; cases h) rplA (by rw [schW_len]; omega) ?_
        rw [hset]
        apply HB.fold
        refine HB.done (by (first | exact Keep.blk memD g16 (Keep.blk memD g7 Keep.nil) | exact Keep.blk memD k16 (Keep.blk memD k7 Keep.nil))) (by kernel_rfl) ?_
        refine hwDD ?_
        exact HX.again (i + 1) ⟨by omega, hlt⟩ (by show 64 - (i + 1) < 64 - i; omega) esA (by repeat (first | exact Hs.nil _ | (refine Hs.cons pickA ?_)))
      · refine HP.one ?_
        refine H1.lit (cs := nats [17, 19]) rfl rfl rfl rfl rfl rfl (fun b18 => ?_)
        apply HB.fold
        refine HB.all (by (first | exact Keep.blk memD g16 (Keep.blk memD g7 Keep.nil) | exact Keep.blk memD k16 (Keep.blk memD k7 Keep.nil))) [7] (by kernel_rfl) rfl ⟨⟨_, rfl, ?_⟩, trivial⟩
        refine HP.one ?_
        refine H1.call0 rfl rfl (fun w' hM => mixed_fn (wW l (i - 15)) [7, 18] (by decide) w' (blk_rd (hM.blk memA) rfl) (by decide)) ?_
        apply HB.fold
        refine HB.pa 10 rfl ?_
        refine HB.pa 11 rfl ?_
        refine HB.pa 16 rfl ?_
        refine HB.all (by (first | exact Keep.blk memD g16 (Keep.blk memD g7 Keep.nil) | exact Keep.blk memD k16 (Keep.blk memD k7 Keep.nil))) [19] (by kernel_rfl) rfl ⟨⟨_, rfl, ?_⟩, trivial⟩
        refine HP.one ?_
        refine H1.call0 rfl rfl (fun w' hM => mixed_fn (wW l (i - 2)) [17, 19] (by decide) w' (blk_rd (hM.blk memA) rfl) (by decide)) ?_
        apply HB.fold
        refine HB.pa 22 rfl ?_
        refine HB.pa 23 rfl ?_
        refine HB.pa 24 rfl ?_
        refine HB.all (by (first | exact Keep.blk memD g16 (Keep.blk memD g7 Keep.nil) | exact Keep.blk memD k16 (Keep.blk memD k7 Keep.nil))) [25] (by kernel_rfl) rfl ⟨⟨_, rfl, ?_⟩, trivial⟩
        refine HP.one ?_
        refine H1.st (b := b2) rfl rfl (by intro _ h; cases h) (by intro _ h; cases h) rplA (by rw [schW_len]; omega) ?_
        rw [hset]
        apply HB.fold
        refine HB.done (by (first | exact Keep.blk memD g16 (Keep.blk memD g7 Keep.nil) | exact Keep.blk memD k16 (Keep.blk memD k7 Keep.nil))) (by kernel_rfl) ?_
        refine hwDD ?_
        exact HX.again (i + 1) ⟨by omega, hlt⟩ (by show 64 - (i + 1) < 64 - i; omega) esA (by repeat (first | exact Hs.nil _ | (refine Hs.cons pickA ?_)))
    · refine HP.one ?_
      refine H1.lit (cs := nats [17, 19]) rfl rfl rfl rfl rfl rfl (fun b18 => ?_)
      apply HB.fold
      refine HB.all (by (first | exact Keep.blk memD g16 (Keep.blk memD g7 Keep.nil) | exact Keep.blk memD k16 (Keep.blk memD k7 Keep.nil))) [6] (by kernel_rfl) rfl ⟨⟨_, rfl, ?_⟩, trivial⟩
      refine HP.one ?_
      refine H1.lit (cs := nats [7, 18]) rfl rfl rfl rfl rfl rfl (fun b6 => ?_)
      apply HB.fold
      refine HB.all (by (first | exact Keep.blk memD g16 (Keep.blk memD g7 Keep.nil) | exact Keep.blk memD k16 (Keep.blk memD k7 Keep.nil))) [7] (by kernel_rfl) rfl ⟨⟨_, rfl, ?_⟩, trivial⟩
      refine HP.one ?_
      refine H1.call0 rfl rfl (fun w' hM => mixed_fn (wW l (i - 15)) [7, 18] (by decide) w' (blk_rd (hM.blk memA) rfl) (by decide)) ?_
      apply HB.fold
      refine HB.pa 10 rfl ?_
      refine HB.pa 11 rfl ?_
      refine HB.pa 16 rfl ?_
      refine HB.all (by (first | exact Keep.blk memD g16 (Keep.blk memD g7 Keep.nil) | exact Keep.blk memD k16 (Keep.blk memD k7 Keep.nil))) [19] (by kernel_rfl) rfl ⟨⟨_, rfl, ?_⟩, trivial⟩
      refine HP.one ?_
      refine H1.call0 rfl rfl (fun w' hM => mixed_fn (wW l (i - 2)) [17, 19] (by decide) w' (blk_rd (hM.blk memA) rfl) (by decide)) ?_
      apply HB.fold
      refine HB.pa 22 rfl ?_
      refine HB.pa 23 rfl ?_
      refine HB.pa 24 rfl ?_
      refine HB.all (by (first | exact Keep.blk memD g16 (Keep.blk memD g7 Keep.nil) | exact Keep.blk memD k16 (Keep.blk memD k7 Keep.nil))) [25] (by kernel_rfl) rfl ⟨⟨_, rfl, ?_⟩, trivial⟩
      refine HP.one ?_
      refine H1.st (b := b2) rfl rfl (by intro _ h; cases h) (by intro _ h; cases h) rplA (by rw [schW_len]; omega) ?_
      rw [hset]
      apply HB.fold
      refine HB.done (by (first | exact Keep.blk memD g16 (Keep.blk memD g7 Keep.nil) | exact Keep.blk memD k16 (Keep.blk memD k7 Keep.nil))) (by kernel_rfl) ?_
      refine hwDD ?_
      exact HX.again (i + 1) ⟨by omega, hlt⟩ (by show 64 - (i + 1) < 64 - i; omega) esA (by repeat (first | exact Hs.nil _ | (refine Hs.cons pickA ?_)))
  · obtain rfl : i = 64 := by omega
    refine hwDD ?_
    refine HL.one (H1.ldAgg (vs := schW l 64) rfl memA (schW_len _ _) (fun i v h => by rwa [Nat.zero_add]) rfl ?_)
    refine hwDD ?_
    refine HL.one (H1.stAgg rfl rfl (schW_len _ _) (row_one' fun _ => rfl) rplA rfl ?_)
    refine hwDD ?_
    exact HX.retc1 rfl rfl memA (schW_len _ _) fun w' hM => ⟨rfl, hM.ext⟩
end Go.Sx
/- Chapter 2: what a block does to a state: the walk. -/
namespace Go.Sx
open Go Go.Proofs Go.RowKit
theorem hwDE {G G2 : Prop} (x : G2) (hwq : Hold G2 → G := by
    intro hQq
    repeat' (first | refine HL.pa ?_ (POp.nilCheck rfl) | apply HL.fold | apply HA.fold | apply HL.nil | apply HX.n_then | apply HC.seq | apply HC.region | refine HL.pa ?_ | refine HL.ga rfl ?_ | refine HL.na rfl ?_ | refine HL.nu rfl rfl ?_ | apply HC.block | apply HC.skip | apply HC.exit | apply HC.ret | apply HX.e_block | refine HX.e_other rfl ?_ | apply HX.e_then | apply HX.e_again | apply HX.n_block | apply HX.r_then | apply HX.r_block | apply HX.r_again | refine HC.cond_yes rfl ?_ | refine HC.cond_no rfl ?_ | refine HL.one (H1.ldb rfl memA rfl rfl ?_) | refine HC.cond rfl (fun hc => ?_) (fun hc => ?_) | refine HC.cond_b rfl (fun hc => ?_) (fun hc => ?_))
    exact hQq.get) : G := hwq ⟨x⟩
theorem hbDE {G G2 : Prop} (x : G2) (hwq : Hold G2 → G := by
    intro hQq
    repeat' (first | refine HL.pa ?_ (POp.nilCheck rfl) | apply HL.fold | apply HA.fold | apply HL.nil | apply HX.n_then | apply HC.seq | apply HC.region | refine HL.pa ?_ | refine HL.ga rfl ?_ | refine HL.na rfl ?_ | refine HL.nu rfl rfl ?_ | apply HC.skip | apply HC.exit | apply HC.ret | apply HX.e_block | refine HX.e_other rfl ?_ | apply HX.e_then | apply HX.e_again | apply HX.n_block | apply HX.r_then | apply HX.r_block | apply HX.r_again | refine HC.cond_yes rfl ?_ | refine HC.cond_no rfl ?_ | refine HL.one (H1.ldb rfl memA rfl rfl ?_) | refine HC.cond rfl (fun hc => ?_) (fun hc => ?_) | refine HC.cond_b rfl (fun hc => ?_) (fun hc => ?_))
    exact hQq.get) : G := hwq ⟨x⟩
/-- The table of package digest. -/
def RoundG (w : World) : Prop := ∀ i v, (ws kL)[i]? = some v → w.cell? ⟨0, i, none⟩ = some v
theorem RoundG.ext {w w' : World} (h : RoundG w) (k : Ext w w') : RoundG w' := fun i v hv => cell_ext k (h i v hv)
theorem kL_len : kL.length = 64 := rfl
theorem kW_get {i : Nat} (h : i < 64) : (ws kL)[i]? = some (w32 (kW i)) := by
  have : i < kL.length := h
  unfold kW ws
  rw [List.getElem?_map, List.getD_eq_getElem?_getD, List.getElem?_eq_getElem this]; rfl
def addL (s v : S8) (i : Nat) : List Value := row 8 fun j => w32 (if j < i then s.l.getD j 0 + v.l.getD j 0 else s.l.getD j 0)
theorem addL_get {s v : S8} {i : Nat} (h : i < 8) : (addL s v i)[i]? = some (w32 (s.l.getD i 0)) := by
  unfold addL
  rw [row_get _ h, if_neg (Nat.lt_irrefl _)]
theorem addL_set {s v : S8} {i : Nat} : (addL s v i).set i (w32 (s.l.getD i 0 + v.l.getD i 0)) = addL s v (i + 1) := by
  unfold addL
  rw [row_set]
  refine row_congr fun j _ => ?_
  by_cases e : j = i
  · subst e; rw [if_pos rfl, if_pos (Nat.lt_succ_self _)]
  · have : (j < i + 1) = (j < i) := by simp only [eq_iff_iff]; omega
    rw [if_neg e]; simp only [this]
theorem S8.get {s : S8} {i : Nat} (h : i < 8) : (ws s.l)[i]? = some (w32 (s.l.getD i 0)) := by
  have : i < s.l.length := h
  unfold ws
  rw [List.getElem?_map, List.getD_eq_getElem?_getD, List.getElem?_eq_getElem this]; rfl
theorem ws_one {l : List UInt32} : ∀ v ∈ ws l, v.oneCell' = true := by
  intro v hv
  obtain ⟨x, -, rfl⟩ := List.mem_map.1 hv
  rfl
attribute [local irreducible] WC WL WX POp Then Again Fn NX W1 WA WO QL RP RA Yld LoopAt HC HL HX HN H1 HA HO HQ HB HP A.blk A.grow A.rd A.obj A.mp AgainH CutH
attribute [local irreducible] mixW kL
set_option maxRecDepth 100000 in
set_option maxHeartbeats 4000000 in
theorem add_fn {w0 w : World} {H : List Atom} {bh bb off c : Nat} (s : S8) (l : List UInt8) (hl : l.length = 64) (hG : RoundG w0) (hM : Mm w0 (A.blk bh (ws s.l) 255 :: H) w)
    (hr : ∀ w', Mm w0 H w' → Rd w' (.slice (some ⟨bb, off, none⟩) 64 c) (ub l)) :
    Fn Tryz.prog 182 #[.pointer (some ⟨bh, 0, none⟩), .slice (some ⟨bb, off, none⟩) 64 c] w fun v w' => v = .tuple #[] ∧ Mm w0 (A.blk bh (ws (comp s l).l) 255 :: H) w' := by
  refine enterK (l := [_, _]) hM rfl Tryz.ntmps182 rfl ?_
  refine hbDE ?_
  refine HL.one (H1.callx (vs := [_]) rfl rfl (fun w' hM => schedule_fn l hl w' (hr w' hM.tail)) ?_)
  refine hbDE ?_
  refine HL.one (H1.alloc (cs := schW l 0) (by kernel_rfl) rfl (fun b4 => ?_))
  refine hbDE ?_
  refine HL.one (H1.stAgg (cs := schW l 0) rfl rfl (schW_len _ _) (row_one' fun _ => rfl) rplA (by rw [schW_len, schW_len]) ?_)
  refine hbDE ?_
  refine HL.one (H1.ldAgg (vs := ws s.l) rfl memA rfl (fun i v h => by rwa [Nat.zero_add]) rfl ?_)
  refine hbDE ?_
  refine HL.one (H1.alloc (cs := List.replicate 8 (.int .u32 0)) (by kernel_rfl) rfl (fun b5 => ?_))
  refine hbDE ?_
  refine HL.one (H1.stAgg (cs := List.replicate 8 (.int .u32 0)) rfl rfl rfl ws_one rplA rfl ?_)
  refine hbDE ?_
  refine HL.one (H1.ldAggw (vs := ws kL) rfl (by unfold ws; rw [List.length_map, kL_len]) (fun w' hM i v hv => by rw [Nat.zero_add]; exact cell_ext hM.ext (hG i v hv)) rfl ?_)
  refine hbDE ?_
  refine HC.cut (α := Unit) (fun _ => [(0, .pointer (some ⟨bh, 0, none⟩)), (5, .pointer (some ⟨b5, 0, none⟩))]) (fun _ => A.blk b5 (ws (rnds l s 64).l) 255 :: A.blk bh (ws s.l) 255 :: H) (fun _ => True) ?_ ?_
  · repeat refine HC.seq ?_
    refine HC.block ?_
    refine HC.loop (α := Nat) (fun i => [(0, .pointer (some ⟨bh, 0, none⟩)), (4, .pointer (some ⟨b4, 0, none⟩)), (5, .pointer (some ⟨b5, 0, none⟩)), (18, .agg (ws kL).toArray), (19, zv (i : Int))])
      (fun i => A.blk b5 (ws (rnds l s i).l) 255 :: A.blk b4 (schW l 64) 308 :: A.blk bh (ws s.l) 255 :: H) (fun i => i ≤ 64) (fun i => 64 - i) 0 (Nat.zero_le _) esA (Hs.refl _) ?_
    rintro i hi
    by_cases hlt : i < 64
    · have hk := kW_get hlt
      have hw := schW_get (l := l) (i := 64) hlt hlt
      have hstep : rnds l s (i + 1) = rnd (kW i) (wW l i) (rnds l s i) := rfl
      generalize rnds l s i = S at hstep
      refine hwDE ?_
      refine HL.pa ?_ (POp.index_agg (v := w32 (kW i)) rfl rfl rfl hlt hk)
      refine hwDE ?_
      refine HC.quietS [(some 23, [5], []), (some 24, [23], [0]), (some 25, [5], []), (some 26, [25], [2]), (some 8, [24], [1, 0, 1]), (some 9, [26], [3, 4, 0, 1, 2, 3, 4])] (by kernel_rfl) (by kernel_rfl) (by kernel_rfl) ?_
      repeat' (first | refine HQ.pa ?_ | refine HQ.ga rfl ?_ | refine HQ.na rfl ?_ | refine HQ.nu rfl ?_ | refine HQ.ldb rfl memA rfl rfl ?_)
      refine HQ.nil ?_
      refine hwDE ?_
      refine HC.anyC ([(⟨b5, 7, none⟩, w32 S.h), (⟨b5, 5, none⟩, w32 S.f), (⟨b5, 6, none⟩, w32 S.g), (⟨b4, i, none⟩, w32 (wW l i))]) rfl ?_
      refine HB.pa 0 rfl ?_
      refine HB.ld 1 rfl rfl memD ?_
      refine HB.pa 2 rfl ?_
      refine HB.pa 6 rfl ?_
      refine HB.pa 7 rfl ?_
      refine HB.ld 8 rfl rfl memD ?_
      refine HB.pa 9 rfl ?_
      refine HB.pa 10 rfl ?_
      refine HB.pa 11 rfl ?_
      refine HB.pa 12 rfl ?_
      refine HB.ld 13 rfl rfl memD ?_
      refine HB.pa 14 rfl ?_
      refine HB.pa 15 rfl ?_
      refine HB.pa 17 rfl ?_
      refine HB.pa 19 rfl ?_
      refine HB.pa 20 rfl ?_
      refine HB.ld 21 rfl rfl memD ?_
      refine HB.all (by (exact Keep.blk (cs := ws S.l) memD rfl (Keep.blk (cs := ws S.l) memD rfl (Keep.blk (cs := ws S.l) memD rfl (Keep.blk memD hw Keep.nil))))) [3] (by kernel_rfl) rfl ⟨⟨_, rfl, ?_⟩, trivial⟩
      refine HP.one ?_
      refine H1.lit (cs := nats [6, 11, 25]) rfl rfl rfl rfl rfl rfl (fun b6 => ?_)
      apply HB.fold
      refine HB.all (by (exact Keep.blk (cs := ws S.l) memD rfl (Keep.blk (cs := ws S.l) memD rfl (Keep.blk (cs := ws S.l) memD rfl (Keep.blk memD hw Keep.nil))))) [4] (by kernel_rfl) rfl ⟨⟨_, rfl, ?_⟩, trivial⟩
      refine HP.one ?_
      refine H1.call0 rfl rfl (fun w' hM => mixed_fn S.e [6, 11, 25] (by decide) w' (blk_rd (hM.blk memA) rfl) (by decide)) ?_
      apply HB.fold
      refine HB.pa 5 rfl ?_
      refine HB.pa 16 rfl ?_
      refine HB.pa 18 rfl ?_
      refine HB.pa 22 rfl ?_
      refine HB.pa 23 rfl ?_
      refine HB.done (by (exact Keep.blk (cs := ws S.l) memD rfl (Keep.blk (cs := ws S.l) memD rfl (Keep.blk (cs := ws S.l) memD rfl (Keep.blk memD hw Keep.nil))))) (by kernel_rfl) ?_
      refine hwDE ?_
      refine HC.sub [(0, .pointer (some ⟨bh, 0, none⟩)), (4, .pointer (some ⟨b4, 0, none⟩)), (5, .pointer (some ⟨b5, 0, none⟩)), (18, .agg (ws kL).toArray), (19, zv (i : Int)), (8, w32 S.a), (10, w32 (rT (kW i) (wW l i) S))]
        (A.blk b5 (ws S.l) 255 :: A.blk b4 (schW l 64) 308 :: A.blk bh (ws s.l) 255 :: H) ?_ esA (Hs.refl _).skip
      refine HC.anyC ([(⟨b5, 1, none⟩, w32 S.b), (⟨b5, 2, none⟩, w32 S.c)]) rfl ?_
      refine HB.pa 0 rfl ?_
      refine HB.pa 3 rfl ?_
      refine HB.pa 4 rfl ?_
      refine HB.ld 5 rfl rfl memD ?_
      refine HB.pa 6 rfl ?_
      refine HB.pa 7 rfl ?_
      refine HB.pa 8 rfl ?_
      refine HB.ld 9 rfl rfl memD ?_
      refine HB.pa 10 rfl ?_
      refine HB.pa 11 rfl ?_
      refine HB.pa 12 rfl ?_
      refine HB.ld 13 rfl rfl memD ?_
      refine HB.pa 14 rfl ?_
      refine HB.ld 15 rfl rfl memD ?_
      refine HB.pa 16 rfl ?_
      refine HB.pa 17 rfl ?_
      refine HB.all (by (exact Keep.blk (cs := ws S.l) memD rfl (Keep.blk (cs := ws S.l) memD rfl Keep.nil))) [1] (by kernel_rfl) rfl ⟨⟨_, rfl, ?_⟩, trivial⟩
      refine HP.one ?_
      refine H1.lit (cs := nats [2, 13, 22]) rfl rfl rfl rfl rfl rfl (fun b7 => ?_)
      apply HB.fold
      refine HB.all (by (exact Keep.blk (cs := ws S.l) memD rfl (Keep.blk (cs := ws S.l) memD rfl Keep.nil))) [2] (by kernel_rfl) rfl ⟨⟨_, rfl, ?_⟩, trivial⟩
      refine HP.one ?_
      refine H1.call0 rfl rfl (fun w' hM => mixed_fn S.a [2, 13, 22] (by decide) w' (blk_rd (hM.blk memA) rfl) (by decide)) ?_
      apply HB.fold
      refine HB.pa 18 rfl ?_
      refine HB.pa 19 rfl ?_
      refine HB.done (by (exact Keep.blk (cs := ws S.l) memD rfl (Keep.blk (cs := ws S.l) memD rfl Keep.nil))) (by kernel_rfl) ?_
      refine hwDE ?_
      refine HC.sub [(0, .pointer (some ⟨bh, 0, none⟩)), (4, .pointer (some ⟨b4, 0, none⟩)), (5, .pointer (some ⟨b5, 0, none⟩)), (18, .agg (ws kL).toArray), (19, zv (i : Int)), (10, w32 (rT (kW i) (wW l i) S)), (11, w32 (rU S))]
        (A.blk b5 (ws S.l) 255 :: A.blk b4 (schW l 64) 308 :: A.blk bh (ws s.l) 255 :: H) ?_ esA (Hs.refl _).skip
      generalize hT : rT (kW i) (wW l i) S = T
      generalize hU : rU S = U
      have hstep' : rnds l s (i + 1) = ⟨T + U, S.a, S.b, S.c, S.d + T, S.e, S.f, S.g⟩ := by rw [hstep, ← hT, ← hU]; rfl
      refine HC.any rfl ?_
      refine HA.pa 0 rfl ?_ (POp.arr_lo (i := 1) rfl rfl rfl (by decide))
      refine HA.pa 1 rfl ?_ (POp.arr_hi (i := 7) rfl rfl rfl (by decide))
      refine HA.all [2] (by kernel_rfl) rfl ⟨⟨_, rfl, ?_⟩, trivial⟩
      refine HO.one ?_
      refine H1.copyB (cur := ws S.l) (cs := ws [S.a, S.b, S.c, S.d, S.e, S.f, S.g]) (cur' := ws [S.a, S.a, S.b, S.c, S.d, S.e, S.f, S.g]) rfl rfl rfl (fun w' hM j v hv => ?_) ws_one (by simp [ws, S8.l]) rfl rplA rfl ?_
      · rw [add_lit, Nat.zero_add]
        refine (hM.blk (cs := ws S.l) memA).cell ?_
        have hj : j < 7 := (List.getElem?_eq_some_iff.1 hv).1
        match j, hj, hv with
        | 0, _, h | 1, _, h | 2, _, h | 3, _, h | 4, _, h | 5, _, h | 6, _, h => exact h
      apply HA.fold
      refine HA.done (by kernel_rfl) ?_
      refine hwDE ?_
      refine HL.one (H1.st rfl rfl (by intro _ h; cases h) (by intro _ h; cases h) rplA (by simp [ws]) ?_)
      refine hwDE ?_
      refine HL.one (H1.st rfl rfl (by intro _ h; cases h) (by intro _ h; cases h) rplA (by simp [ws]) ?_)
      refine hwDE ?_
      refine HX.again (i + 1) hlt (by show 64 - (i + 1) < 64 - i; omega) esA ?_
      rw [hstep']
      exact Hs.refl _
    · obtain rfl : i = 64 := by omega
      refine hwDE ?_
      exact HX.cut () trivial esA (Hs.cons Pick.here (Hs.refl _).skip)
  rintro - -
  have hv : ∀ i, i < 8 → (ws (rnds l s 64).l)[i]? = some (w32 ((rnds l s 64).l.getD i 0)) := fun i h => S8.get h
  rw [show comp s l = s.add (rnds l s 64) from rfl]
  generalize rnds l s 64 = V at hv
  refine hwDE ?_
  refine HC.loop (α := Nat) (fun i => [(0, .pointer (some ⟨bh, 0, none⟩)), (5, .pointer (some ⟨b5, 0, none⟩)), (82, zv (i : Int))])
    (fun i => A.blk b5 (ws V.l) 255 :: A.blk bh (addL s V i) 255 :: H) (fun i => i ≤ 8) (fun i => 8 - i) 0 (Nat.zero_le _) esA (Hs.refl _) ?_
  rintro i hi
  by_cases hlt : i < 8
  · have h1 := hv i hlt
    have h2 := addL_get (s := s) (v := V) hlt
    have h3 := addL_set (s := s) (v := V) (i := i)
    refine hwDE ?_
    refine HC.anyC ([(⟨b5, i, none⟩, w32 (V.l.getD i 0))]) rfl ?_
    refine HB.pa 0 rfl ?_
    refine HB.pa 1 rfl ?_
    refine HB.pa 2 rfl ?_ (POp.nilCheck rfl)
    refine HB.pa 3 rfl ?_
    refine HB.pa 5 rfl ?_
    refine HB.pa 6 rfl ?_
    refine HB.ld 7 rfl rfl memD ?_
    refine HB.pa 9 rfl ?_ (POp.nilCheck rfl)
    refine HB.all (by (exact Keep.blk memD h1 Keep.nil)) [4] (by kernel_rfl) rfl ⟨⟨_, rfl, ?_⟩, trivial⟩
    refine HP.one ?_
    refine H1.ldb rfl memA h2 rfl ?_
    apply HB.fold
    refine HB.pa 8 rfl ?_
    refine HB.pa 10 rfl ?_
    refine HB.all (by (exact Keep.blk memD h1 Keep.nil)) [11] (by kernel_rfl) rfl ⟨⟨_, rfl, ?_⟩, trivial⟩
    refine HP.one ?_
    refine H1.st (b := bh) rfl rfl (by intro _ h; cases h) (by intro _ h; cases h) rplA (by unfold addL; rw [row_len]; exact hlt) ?_
    rw [h3]
    apply HB.fold
    refine HB.done (by (exact Keep.blk memD h1 Keep.nil)) (by kernel_rfl) ?_
    refine hwDE ?_
    exact HX.again (i + 1) hlt (by show 8 - (i + 1) < 8 - i; omega) esA (Hs.refl _)
  · obtain rfl : i = 8 := by omega
    refine hwDE ?_
    exact HX.end0 rfl fun w' hM => ⟨rfl, hM.tail⟩
end Go.Sx
/-
  The layer with atoms: bytes of a string to which more is added; strings out of bytes.
-/
namespace Go.Sx
open Go Go.RowKit
/-- Cells that may grow; nothing of them is shared with a string. -/
def A.gb (e : TypeId) (b c n : Nat) (xs : List Value) : Atom :=
  A.obj b fun o => ∃ cur fz, o = .cells cur e fz ∧ (∀ q, q < cur.size → ¬ (fz.1 ≤ q ∧ q < fz.2)) ∧ n ≤ c ∧ cur.size = c ∧ cur.toList.take n = xs ∧ xs.length = n
theorem Mm.gb {w0 w : World} {H : List Atom} {e : TypeId} {b c n : Nat} {xs : List Value} (h : Mm w0 H w) (hm : A.gb e b c n xs ∈ H) :
    ∃ cur fz, w.heap[b]? = some (.cells cur e fz) ∧ (∀ q, q < cur.size → ¬ (fz.1 ≤ q ∧ q < fz.2)) ∧ n ≤ c ∧ cur.size = c ∧ cur.toList.take n = xs ∧ xs.length = n := by
  obtain ⟨o, h1, cur, fz, rfl, h2⟩ := h.obj hm
  exact ⟨cur, fz, h1, h2⟩
theorem gb_cell {w0 w : World} {H : List Atom} {e : TypeId} {b c n : Nat} {xs : List Value} (h : Mm w0 H w) (hm : A.gb e b c n xs ∈ H) {j : Nat} {v : Value} (hv : xs[j]? = some v) : w.cell? ⟨b, j, none⟩ = some v := by
  obtain ⟨cur, fz, h1, -, h3, h4, h5, h6⟩ := h.gb hm
  have hj : j < n := by have := (List.getElem?_eq_some_iff.1 hv).1; omega
  rw [← h5, List.getElem?_take_of_lt hj] at hv
  simp only [World.cell?, h1]
  simpa using hv
theorem gb_rd {w0 w : World} {H : List Atom} {e : TypeId} {b c n off m c2 : Nat} {xs : List Value} (h : Mm w0 H w) (hm : A.gb e b c n xs ∈ H) (h1 : off + m ≤ n) (h2 : m ≤ c2) : Rd w (.slice (some ⟨b, off, none⟩) m c2) ((xs.drop off).take m) := by
  have hl : ((xs.drop off).take m).length = m := by
    obtain ⟨cur, fz, -, -, -, -, -, h6⟩ := h.gb hm
    rw [List.length_take, List.length_drop, h6]; omega
  refine ⟨some ⟨b, off, none⟩, c2, by rw [hl], by rw [hl]; exact h2, .inr ⟨b, off, rfl, ?_, fun i u hu => ?_⟩⟩
  · obtain ⟨cur, fz, hb, -⟩ := h.gb hm
    exact (Array.getElem?_eq_some_iff.1 hb).1
  · have hi : i < m := by have := (List.getElem?_eq_some_iff.1 hu).1; omega
    rw [List.getElem?_take_of_lt hi, List.getElem?_drop] at hu
    exact gb_cell h hm hu
section
variable {P : Program} {r : Option Nat} {N : Nat} {ds : List Deferred} {ol rest : List Oper} {Q : Post} {E : Env} {w0 : World} {H : List Atom} {next : Act → World → Prop} {g : Option (Nat × Bool)}
variable {d : Nat} {t ty : TypeId} {pos : String} {af : Array Edge} {x y : Operand}
theorem H1.sgb {src dst e : TypeId} {s : ByteArray} [hs : UTy P src .string] [hd' : UTy P dst (.slice e)] [he : UTy P e (.int .u8)] (hx : Env.ev E x = some (.string s)) (hd : Nat.blt d N = true)
    (h : ∀ b c, HN N ds next ((d, .slice (some ⟨b, 0, none⟩) s.size c) :: E) w0 (A.gb e b c s.size (ub s.data.toList) :: H)) : H1 P r N ds next ⟨some d, .convert src dst x, ty, pos, af, g⟩ Q E w0 H := fun w hM => by
  have hrun := run_bytes_of_string (P := P) w src dst e s hs.is hd'.is he.is
  have hge := grownCap_ge w s.size 0 e
  obtain ⟨R, hR⟩ : ∃ R, R = bytesRow s (grownCap w s.size 0 e) := ⟨_, rfl⟩
  rw [← hR] at hrun
  have hsz : s.data.size = s.size := rfl
  refine W1.run (v := .slice (some ⟨w.heap.size, 0, none⟩) s.size (grownCap w s.size 0 e)) (w' := w.drew.alloc (.cells R e (R.size, R.size + 1))) (fun a ha => ?_) rfl hd (h w.heap.size (grownCap w s.size 0 e) _ ?_)
  · simp only [execOp, ha.ev hx, Sem.run_bind, hrun, Result.andThen, Sem.run_pure]
  · refine (hM.more ((Ext.drew w).trans (Ext.alloc w.drew _))).cons ⟨_, heap_alloc_new w.drew _, _, _, rfl, fun q hq hh => ?_, hge, ?_, ?_, ?_⟩ (by simp [A.gb, A.obj]) fun b hb => ?_
    · have := hh.1
      simp only at this
      omega
    · rw [hR]; simp only [bytesRow, Array.size_append, Array.size_map, Array.size_replicate]; omega
    · rw [hR]
      simp only [bytesRow, Array.toList_append, Array.toList_map]
      rw [List.take_append_of_le_length (by rw [List.length_map, Array.length_toList]; omega), List.take_of_length_le (by rw [List.length_map, Array.length_toList]; omega)]
      rfl
    · unfold ub; rw [List.length_map, Array.length_toList]; omega
    · have hb' : b = w.heap.size := by simpa [A.gb, A.obj] using hb
      subst hb'
      refine ⟨fun hm => ?_, hM.ext.size, by simp⟩
      have := (hM.rng _ hm).2
      omega
theorem H1.appG1 {e : TypeId} {z u : Value} {bb n c b b2 : Nat} {xs : List Value} {H' : Nat → Nat → List Atom} [h : UTy P t (.slice e)] [hi : ITy P e z 1 bb]
    (hx : Env.ev E x = some (.slice (some ⟨b, 0, none⟩) n c)) (hy : Env.ev E y = some (.slice (some ⟨b2, 0, none⟩) 1 1)) (hr : ∀ b' c', Rpl (A.gb e b c n xs) (A.gb e b' c' (n + 1) (xs ++ [u])) H (H' b' c'))
    (hm : A.blk b2 [u] e ∈ H) (h1 : u.oneCell' = true) (hzs : z.cells.size = 1) (hnm : n + 1 ≤ 1000000) (hb : Nat.ble bb 1000 = true) (hd : Nat.blt d N = true)
    (hn : ∀ b' c', HN N ds next ((d, .slice (some ⟨b', 0, none⟩) (n + 1) c') :: E) w0 (H' b' c')) :
    H1 P r N ds next ⟨some d, .call ⟨.builtin .append, #[x, y], #[t, t]⟩, ty, pos, af, g⟩ Q E w0 H := fun w hM => by
  obtain ⟨i, hi1, hi2, hi3, hi4⟩ := hi.parts
  obtain ⟨cur, fz, hb1, hfz, hnc, hcs, htk, hxl⟩ := hM.gb (hr 0 0).mem
  have hnews : ∀ j v, [u][j]? = some v → w.cell? ((⟨b2, 0, none⟩ : Addr).add j) = some v := fun j v hj => by
    rw [add_lit, Nat.zero_add]
    exact (hM.blk hm).cell hj
  have hlc : cur.toList.length = c := by simpa using hcs
  by_cases hroom : n + 1 ≤ c
  · have hst := run_storeCells_cells (P := P) b n [u] 0 w (fun j hj => by
      have hj0 : j = 0 := by simpa using hj
      subst hj0
      have hlt : n < cur.size := by omega
      simp [World.cell?, hb1, hlt]) (fun j hj => by
      have hj0 : j = 0 := by simpa using hj
      subst hj0
      have := hfz n (by omega)
      simp only [World.frozen?, hb1, Nat.add_zero]
      simpa using this) (by simpa using h1)
    have hf := run_firstCells_some (P := P) w i.size 1 ⟨b2, 0, none⟩ 1 1 [u] (by rw [hi3]; rfl) hnews
    rw [hi3] at hf
    have hrun : (Builtin.append_ #[t, t] ty #[.slice (some ⟨b, 0, none⟩) n c, .slice (some ⟨b2, 0, none⟩) 1 1]).run P w = .ok (.slice (some ⟨b, 0, none⟩) (n + 1) c) (w.setCells b n [u]) := by
      simp only [Nat.add_zero] at hst
      simp [Builtin.append_, run_underlying h.is, sizeOf, typeInfo, hi1, Builtin.lenOf, hroom, hf, Addr.add_lit, hi3, hst]
    have hnew : (w.setCells b n [u]).heap[b]? = some (.cells (cur.setIfInBounds n u) e fz) := by
      simp [World.setCells, World.setCell, Array.getElem?_modify, hb1]
    refine W1.run (v := .slice (some ⟨b, 0, none⟩) (n + 1) c) (w' := w.setCells b n [u]) (fun a ha => ?_) rfl hd (hn b c _ (hM.turn (hr b c) ?_ ?_ ?_ (by simp [World.setCells, World.setCell]) (fun q hq hq' => ?_) ⟨_, hnew, _, _, rfl, fun q hq => hfz q (by simpa using hq), hroom, by simpa using hcs, ?_, by simp [hxl]⟩ (by simp [A.gb, A.obj]) fun b' hb' => .inl hb'))
    · simp only [execOp, resolve, invoke, Go.builtin, Sem.run_bind, Sem.run_pure, Result.andThen, List.map_toArray, List.map_cons, List.map_nil, ha.ev hx, ha.ev hy, hrun]
    · simp [World.setCells, World.setCell]
    · simp [World.setCells, World.setCell]
    · simp [World.setCells, World.setCell]
    · have hne : ¬ b = q := fun e => hq' (by simp [A.gb, A.obj, e])
      simp [World.setCells, World.setCell, Array.getElem?_modify, hne]
    · rw [Array.toList_setIfInBounds, List.take_succ_eq_append_getElem (by rw [List.length_set]; omega), List.getElem_set_self, List.take_set, htk]
      rw [List.set_eq_of_length_le (by omega)]
  · have hrun := run_append_grow (P := P) (w := w) t ty e i z h.is hi1 hi2 ⟨b, 0, none⟩ n c xs (by rw [hi3, hxl]; omega) (fun j v hv => by
      rw [add_lit, Nat.zero_add]; exact gb_cell hM (hr 0 0).mem hv) ⟨b2, 0, none⟩ 1 1 [u] (by rw [hi3]; rfl) hnews (by omega) (by omega) (growslice_fits (by omega) (Nat.le_trans (Nat.mul_le_mul hnm (by rw [hi4]; exact Nat.le_of_ble_eq_true hb)) (by decide)))
    have hge := grownCap_ge w (n + 1) c e
    have hM2 := hM
    refine W1.run (v := .slice (some ⟨w.heap.size, 0, none⟩) (n + 1) (grownCap w (n + 1) c e)) (w' := w.drew.alloc (.cells (xs.toArray ++ [u].toArray ++ Builtin.zeroCells z.cells (grownCap w (n + 1) c e - (n + 1))) e)) (fun a ha => ?_) rfl hd
      (hn _ _ _ (hM.turn (hr _ _) rfl rfl rfl (by simp) (fun q hq hq' => ?_) ⟨_, heap_alloc_new w.drew _, _, _, rfl, fun q _ hh => by simp at hh, hge, ?_, ?_, by simp [hxl]⟩ (by simp [A.gb, A.obj]) fun b' hb' => .inr ?_))
    · simp only [execOp, resolve, invoke, Go.builtin, Sem.run_bind, Sem.run_pure, Result.andThen, List.map_toArray, List.map_cons, List.map_nil, ha.ev hx, ha.ev hy, hrun]
    · exact (Ext.alloc w.drew _).block q hq
    · simp [Builtin.zeroCells, hzs, hxl]; omega
    · simp only [Array.toList_append]
      rw [List.take_append_of_le_length (by simp [hxl]), List.take_of_length_le (by simp [hxl])]
    · have hb' : b' = w.heap.size := by simpa [A.gb, A.obj] using hb'
      subst hb'
      exact ⟨Nat.le_refl _, by simp⟩
theorem H1.bstrB {dst e eb : TypeId} {b c : Nat} {ys : List UInt8} [h : UTy P t (.slice e)] [he : UTy P e (.int .u8)] [hs : UTy P dst .string] (hx : Env.ev E x = some (.slice (some ⟨b, 0, none⟩) ys.length c)) (hm : A.blk b (ub ys) eb ∈ H)
    (hd : Nat.blt d N = true) (hn : HN N ds next ((d, .string ⟨ys.toArray⟩) :: E) w0 H) : H1 P r N ds next ⟨some d, .convert t dst x, ty, pos, af, g⟩ Q E w0 H := fun w hM =>
  W1.bytes_string hx rfl (fun j hj => by
    rw [add_lit, Nat.zero_add]
    exact (hM.blk hm).cell (by simp [ub, hj])) hd (hn w hM)
theorem POp.cut3 {e : TypeId} {b off l c lo hi mx : Nat} {z : Value} {sz bb : Nat} {k1 k2 k3 : IntKind} {n1 n2 n3 : Int} {y1 y2 y3 : Operand} [h : UTy P t (.slice e)] [hi' : ITy P e z sz bb] (hx : Env.ev E x = some (.slice (some ⟨b, off, none⟩) l c))
    (h1 : Env.ev E y1 = some (.int k1 n1)) (h2 : Env.ev E y2 = some (.int k2 n2)) (h3 : Env.ev E y3 = some (.int k3 n3)) (e1 : n1 = (lo : Int)) (e2 : n2 = (hi : Int)) (e3 : n3 = (mx : Int)) (h4 : lo ≤ hi) (h5 : hi ≤ mx) (h6 : mx ≤ c) (hne : lo < mx) :
    POp P N ds E (.slice t x (some y1) (some y2) (some y3)) ty (.slice (some ⟨b, off + lo * sz, none⟩) (hi - lo) (mx - lo)) := fun a ha d pos af g w => by
  subst e1; subst e2; subst e3
  have hc : ¬ mx = lo := by omega
  simp [execOp, ha.ev hx, ha.ev h1, ha.ev h2, ha.ev h3, Instr.sliceAt, Instr.slice, run_underlying h.is, Instr.sliceBounds, run_bound (show (0 : Int) ≤ (mx : Int) by omega) (show (mx : Int) ≤ ((c : Nat) : Int) by omega),
    run_bound (show (0 : Int) ≤ (hi : Int) by omega) (show (hi : Int) ≤ ((mx : Nat) : Int) by omega), run_bound (show (0 : Int) ≤ (lo : Int) by omega) (show (lo : Int) ≤ ((hi : Nat) : Int) by omega), Sem.run_bind, run_sizeOf, hc, add_lit]
end
end Go.Sx
/-
  The layer with atoms: parts of a block that are stored whole; strings copied into a block; slices of the call's own that are cleared and cut.
-/
namespace Go.Sx
open Go Go.RowKit
section
variable {P : Program} {r : Option Nat} {N : Nat} {ds : List Deferred} {ol rest : List Oper} {Q : Post} {E : Env} {w0 : World} {H : List Atom} {next : Act → World → Prop} {g : Option (Nat × Bool)}
variable {d : Option Nat} {t ty : TypeId} {pos : String} {af : Array Edge} {x y : Operand}
end
end Go.Sx
