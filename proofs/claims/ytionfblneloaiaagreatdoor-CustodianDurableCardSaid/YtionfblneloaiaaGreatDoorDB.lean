/- Chapter 2 in plain words: the digest of a string. -/
import Derived.Test.YtionfblneloaiaaGreatDoorHd
import Derived.Test.YtionfblneloaiaaGreatDoorHe
import Derived.Laws.CopyRow
import Derived.RecoverIn
namespace Go.Sx
def rot (x : UInt32) (n : Nat) : UInt32 := x <<< UInt32.ofNat (32 - n) ||| x >>> UInt32.ofNat n
def mixW (x : UInt32) (l : List Nat) : UInt32 := l.foldl (fun o n => o ^^^ rot x n) 0
def bt (b : List UInt8) (i : Nat) : UInt32 := (b.getD i 0).toUInt32
def wordAt (b : List UInt8) (i : Nat) : UInt32 := bt b (4 * i) <<< UInt32.ofNat 24 ||| bt b (4 * i + 1) <<< UInt32.ofNat 16 ||| bt b (4 * i + 2) <<< UInt32.ofNat 8 ||| bt b (4 * i + 3)
/-- The words of a block. -/
def wW (b : List UInt8) (i : Nat) : UInt32 :=
  if i < 16 then wordAt b i
  else wW b (i - 16) + (mixW (wW b (i - 15)) [7, 18] ^^^ wW b (i - 15) >>> UInt32.ofNat 3) + wW b (i - 7) + (mixW (wW b (i - 2)) [17, 19] ^^^ wW b (i - 2) >>> UInt32.ofNat 10)
termination_by i
decreasing_by all_goals omega
theorem wW_lo {b : List UInt8} {i : Nat} (h : i < 16) : wW b i = wordAt b i := by rw [wW, if_pos h]
theorem wW_hi {b : List UInt8} {i : Nat} (h : ¬ i < 16) : wW b i = wW b (i - 16) + (mixW (wW b (i - 15)) [7, 18] ^^^ wW b (i - 15) >>> UInt32.ofNat 3) + wW b (i - 7) + (mixW (wW b (i - 2)) [17, 19] ^^^ wW b (i - 2) >>> UInt32.ofNat 10) := by
  rw [wW, if_neg h]
structure S8 where
  a : UInt32
  b : UInt32
  c : UInt32
  d : UInt32
  e : UInt32
  f : UInt32
  g : UInt32
  h : UInt32
def S8.l (s : S8) : List UInt32 := [s.a, s.b, s.c, s.d, s.e, s.f, s.g, s.h]
def kL : List UInt32 := [
  0x428a2f98, 0x71374491, 0xb5c0fbcf, 0xe9b5dba5, 0x3956c25b, 0x59f111f1, 0x923f82a4, 0xab1c5ed5,
  0xd807aa98, 0x12835b01, 0x243185be, 0x550c7dc3, 0x72be5d74, 0x80deb1fe, 0x9bdc06a7, 0xc19bf174,
  0xe49b69c1, 0xefbe4786, 0x0fc19dc6, 0x240ca1cc, 0x2de92c6f, 0x4a7484aa, 0x5cb0a9dc, 0x76f988da,
  0x983e5152, 0xa831c66d, 0xb00327c8, 0xbf597fc7, 0xc6e00bf3, 0xd5a79147, 0x06ca6351, 0x14292967,
  0x27b70a85, 0x2e1b2138, 0x4d2c6dfc, 0x53380d13, 0x650a7354, 0x766a0abb, 0x81c2c92e, 0x92722c85,
  0xa2bfe8a1, 0xa81a664b, 0xc24b8b70, 0xc76c51a3, 0xd192e819, 0xd6990624, 0xf40e3585, 0x106aa070,
  0x19a4c116, 0x1e376c08, 0x2748774c, 0x34b0bcb5, 0x391c0cb3, 0x4ed8aa4a, 0x5b9cca4f, 0x682e6ff3,
  0x748f82ee, 0x78a5636f, 0x84c87814, 0x8cc70208, 0x90befffa, 0xa4506ceb, 0xbef9a3f7, 0xc67178f2]
def kW (i : Nat) : UInt32 := kL.getD i 0
def rT (k w : UInt32) (s : S8) : UInt32 := s.h + mixW s.e [6, 11, 25] + (s.e &&& s.f ^^^ ~~~s.e &&& s.g) + k + w
def rU (s : S8) : UInt32 := mixW s.a [2, 13, 22] + (s.a &&& s.b ^^^ s.a &&& s.c ^^^ s.b &&& s.c)
def rnd (k w : UInt32) (s : S8) : S8 := ⟨rT k w s + rU s, s.a, s.b, s.c, s.d + rT k w s, s.e, s.f, s.g⟩
def rnds (b : List UInt8) (s : S8) : Nat → S8
  | 0 => s
  | i + 1 => rnd (kW i) (wW b i) (rnds b s i)
def S8.add (s t : S8) : S8 := ⟨s.a + t.a, s.b + t.b, s.c + t.c, s.d + t.d, s.e + t.e, s.f + t.f, s.g + t.g, s.h + t.h⟩
def comp (s : S8) (b : List UInt8) : S8 := s.add (rnds b s 64)
def shaI : S8 := ⟨0x6a09e667, 0xbb67ae85, 0x3c6ef372, 0xa54ff53a, 0x510e527f, 0x9b05688c, 0x1f83d9ab, 0x5be0cd19⟩
def by4 (x : UInt32) : List UInt8 := [(x >>> UInt32.ofNat 24).toUInt8, (x >>> UInt32.ofNat 16).toUInt8, (x >>> UInt32.ofNat 8).toUInt8, (x >>> UInt32.ofNat 0).toUInt8]
def digL (s : S8) : List UInt8 := s.l.flatMap by4
theorem digL_len (s : S8) : (digL s).length = 32 := rfl
def shaZ (n : Nat) : Nat := (119 - n % 64) % 64
def shaT (n j : Nat) : UInt8 := UInt8.ofNat ((8 * n) >>> (8 * (7 - j)))
def shaP (s : List UInt8) : List UInt8 := s ++ [128] ++ List.replicate (shaZ s.length) 0 ++ (List.range 8).map (shaT s.length)
theorem shaP_len (s : List UInt8) : (shaP s).length = s.length + 1 + shaZ s.length + 8 := by
  unfold shaP; simp only [List.length_append, List.length_replicate, List.length_map, List.length_range, List.length_cons, List.length_nil]
theorem shaP_mod (s : List UInt8) : (shaP s).length % 64 = 0 := by
  rw [shaP_len]; unfold shaZ; omega
/-- The digest of the first i blocks. -/
def sums (b : List UInt8) : Nat → S8
  | 0 => shaI
  | i + 1 => comp (sums b i) ((b.drop (64 * i)).take 64)
def sumL (s : List UInt8) : List UInt8 := digL (sums (shaP s) ((shaP s).length / 64))
theorem sumL_len (s : List UInt8) : (sumL s).length = 32 := digL_len _
def sumS (s : ByteArray) : ByteArray := ⟨(sumL s.data.toList).toArray⟩
theorem sumS_size (s : ByteArray) : (sumS s).size = 32 := by
  show (sumL s.data.toList).toArray.size = 32
  rw [List.size_toArray, sumL_len]
end Go.Sx
/- The layer with atoms: words of 32 bits. -/
namespace Go.Sx
open Go Go.RowKit
abbrev w32 (x : UInt32) : Value := .int .u32 (x.toNat : Int)
abbrev b8 (x : UInt8) : Value := .int .u8 (x.toNat : Int)
theorem wrap_u32 (n : Int) : IntKind.u32.wrap n = n % 4294967296 := by
  simp [IntKind.wrap, IntKind.bits, IntKind.signed]
theorem wrap_w32 (x : UInt32) : IntKind.u32.wrap (x.toNat : Int) = (x.toNat : Int) := by
  have := x.toNat_lt
  rw [wrap_u32]; omega
theorem wrap_u8m (n : Int) : IntKind.u8.wrap n = n % 256 := by
  simp [IntKind.wrap, IntKind.bits, IntKind.signed]
theorem ofInt32 (x : UInt32) : BitVec.ofInt 32 (x.toNat : Int) = x.toBitVec := by
  rw [BitVec.ofInt_natCast]; exact BitVec.eq_of_toNat_eq (by simp)
section
variable {P : Program} {r : Option Nat} {N : Nat} {ds : List Deferred} {E : Env} {t t' ty : TypeId} {x y : Operand} {k k' : IntKind} {a b : UInt32} {n : Int}
theorem POp.xor32 (hx : Env.ev E x = some (w32 a)) (hy : Env.ev E y = some (w32 b)) : POp P N ds E (.binOp .xor t x y t') ty (w32 (a ^^^ b)) := POp.bin hx hy guard_int fun w => by
  have e : bits .xor .u32 (a.toNat : Int) (b.toNat : Int) = ((a ^^^ b).toNat : Int) := by
    show IntKind.u32.wrap (((BitVec.ofInt 32 a.toNat ^^^ BitVec.ofInt 32 b.toNat).toNat : Nat) : Int) = _
    rw [ofInt32, ofInt32]; exact wrap_w32 (a ^^^ b)
  rw [binOp_xor, intBits_xor, e]; rfl
theorem POp.and32 (hx : Env.ev E x = some (w32 a)) (hy : Env.ev E y = some (w32 b)) : POp P N ds E (.binOp .and t x y t') ty (w32 (a &&& b)) := POp.bin hx hy guard_int fun w => by
  have e : bits .and .u32 (a.toNat : Int) (b.toNat : Int) = ((a &&& b).toNat : Int) := by
    show IntKind.u32.wrap (((BitVec.ofInt 32 a.toNat &&& BitVec.ofInt 32 b.toNat).toNat : Nat) : Int) = _
    rw [ofInt32, ofInt32]; exact wrap_w32 (a &&& b)
  rw [binOp_and, intBits_and, e]; rfl
theorem POp.or32 (hx : Env.ev E x = some (w32 a)) (hy : Env.ev E y = some (w32 b)) : POp P N ds E (.binOp .or t x y t') ty (w32 (a ||| b)) := POp.bin hx hy guard_int fun w => by
  have e : bits .or .u32 (a.toNat : Int) (b.toNat : Int) = ((a ||| b).toNat : Int) := by
    show IntKind.u32.wrap (((BitVec.ofInt 32 a.toNat ||| BitVec.ofInt 32 b.toNat).toNat : Nat) : Int) = _
    rw [ofInt32, ofInt32]; exact wrap_w32 (a ||| b)
  rw [binOp_or, intBits_or, e]; rfl
theorem POp.add32 (hx : Env.ev E x = some (w32 a)) (hy : Env.ev E y = some (w32 b)) : POp P N ds E (.binOp .add t x y t') ty (w32 (a + b)) := (POp.add' hx hy).of (by
  rw [wrap_u32]
  have : (a + b).toNat = (a.toNat + b.toNat) % 4294967296 := UInt32.toNat_add a b
  unfold w32
  rw [this]; simp)
theorem POp.not32 (hx : Env.ev E x = some (w32 a)) : POp P N ds E (.unOp .xor t x) ty (w32 (~~~a)) := fun c ha d pos af g w => by
  have e : bits .xor .u32 IntKind.u32.max (a.toNat : Int) = ((~~~a).toNat : Int) := by
    show IntKind.u32.wrap (((BitVec.ofInt 32 IntKind.u32.max ^^^ BitVec.ofInt 32 a.toNat).toNat : Nat) : Int) = _
    rw [ofInt32, show BitVec.ofInt 32 IntKind.u32.max = BitVec.allOnes 32 from by decide, BitVec.allOnes_xor]; exact wrap_w32 (~~~a)
  have e2 : (if IntKind.u32.signed = true then (-1 : Int) else IntKind.u32.max) = IntKind.u32.max := rfl
  simp only [execOp, ha.ev hx, Op.unary, e2, intBits_xor, e]; rfl
theorem sh32 {s : Nat} (h : s < 32) : (UInt32.ofNat s).toNat % 32 = s := by
  rw [UInt32.toNat_ofNat']; omega
theorem POp.shl32 {s : Nat} (hx : Env.ev E x = some (w32 a)) (hy : Env.ev E y = some (.int k' n)) (en : n = (s : Int)) (h : s < 32) : POp P N ds E (.binOp .shl t x y t') ty (w32 (a <<< UInt32.ofNat s)) := POp.bin hx hy guard_int fun w => by
  subst en
  have e : ((a.toNat : Int) * 2 ^ ((s : Int).toNat)) = ((a.toNat <<< s : Nat) : Int) := by rw [Nat.shiftLeft_eq]; simp
  have e2 : (a <<< UInt32.ofNat s).toNat = a.toNat <<< s % 4294967296 := by
    rw [UInt32.toNat_shiftLeft, sh32 h]
  rw [binOp_shl, shift_shl .u32 k' a.toNat s (by omega) (by simp [IntKind.bits]; omega), e, wrap_u32, w32, e2]; simp [Sem.run_pure]
theorem POp.shr32 {s : Nat} (hx : Env.ev E x = some (w32 a)) (hy : Env.ev E y = some (.int k' n)) (en : n = (s : Int)) (h : s < 32) : POp P N ds E (.binOp .shr t x y t') ty (w32 (a >>> UInt32.ofNat s)) := POp.bin hx hy guard_int fun w => by
  subst en
  have e2 : (a >>> UInt32.ofNat s).toNat = a.toNat >>> s := by
    rw [UInt32.toNat_shiftRight, sh32 h]
  rw [binOp_shr, shift_shr .u32 k' a.toNat s (by omega) (by simp [IntKind.bits]; omega), w32, e2, Nat.shiftRight_eq_div_pow]; simp
theorem POp.conv832 {c : UInt8} {src dst : TypeId} {d' : TypeDesc} [hs : UTy P src d'] [hd : UTy P dst (.int .u32)] (hx : Env.ev E x = some (b8 c)) : POp P N ds E (.convert src dst x) ty (w32 c.toUInt32) := (POp.conv (k' := .u32) hx).of (by
  have := c.toNat_lt
  rw [wrap_u32, w32, UInt8.toNat_toUInt32]; congr 1; omega)
theorem POp.conv328 {src dst : TypeId} {d' : TypeDesc} [hs : UTy P src d'] [hd : UTy P dst (.int .u8)] (hx : Env.ev E x = some (w32 a)) : POp P N ds E (.convert src dst x) ty (b8 a.toUInt8) := (POp.conv (k' := .u8) hx).of (by
  rw [wrap_u8m, b8, UInt32.toNat_toUInt8]; congr 1)
theorem POp.conv648 {m : Nat} {src dst : TypeId} {d' : TypeDesc} [hs : UTy P src d'] [hd : UTy P dst (.int .u8)] (hx : Env.ev E x = some (.int .i64 (m : Int))) : POp P N ds E (.convert src dst x) ty (b8 (UInt8.ofNat m)) := (POp.conv (k' := .u8) hx).of (by
  rw [wrap_u8m, b8, UInt8.toNat_ofNat']; congr 1)
end
end Go.Sx
/-
  The layer with atoms: arrays by value, slices of arrays, copies into a block.
-/
namespace Go.Sx
open Go Go.RowKit
section
variable {P : Program} {r : Option Nat} {N : Nat} {ds : List Deferred} {ol rest : List Oper} {Q : Post} {E : Env} {w0 : World} {H : List Atom} {next : Act → World → Prop} {g : Option (Nat × Bool)}
variable {d : Nat} {t t' ty : TypeId} {pos : String} {af : Array Edge} {x y lo hi : Operand} {k k' : IntKind} {m n : Int}
theorem POp.index_agg {e : TypeId} {len bb i : Nat} {z v : Value} {cs : List Value} [h : UTy P t (.array len e)] [hi : ITy P e z 1 bb] [ha' : ATy P e false] (hx : Env.ev E x = some (.agg cs.toArray)) (hy : Env.ev E y = some (.int k n)) (ei : n = (i : Int)) (h1 : i < len) (hv : cs[i]? = some v) :
    POp P N ds E (.index t x y) ty v := fun a ha d pos af g w => by
  subst ei
  have h2 : (0 : Int) ≤ (i : Int) ∧ (i : Int) < (len : Int) := ⟨by omega, by omega⟩
  simp [execOp, ha.ev hx, ha.ev hy, Instr.index, asIntOf, run_underlying h.is, Sem.run_bind, h2, run_sizeOf, part, run_isAgg, hv]
  intro h; omega
theorem POp.arr_lo {e : TypeId} {len b off sz bb i : Nat} {z : Value} [h : UTy P t (.array len e)] [hi : ITy P e z sz bb] (hx : Env.ev E x = some (.pointer (some ⟨b, off, none⟩))) (hl : Env.ev E lo = some (.int k n)) (ei : n = (i : Int)) (h1 : i < len) :
    POp P N ds E (.slice t x (some lo) none none) ty (.slice (some ⟨b, off + i * sz, none⟩) (len - i) (len - i)) := fun a ha d pos af g w => by
  subst ei
  have hne : ¬ len = i := by omega
  simp [execOp, ha.ev hx, ha.ev hl, Instr.sliceAt, Instr.sureAddr, run_underlying h.is, Instr.sliceBounds, run_bound (show (0 : Int) ≤ i by omega) (show (i : Int) ≤ ((len : Nat) : Int) by omega), Sem.run_bind, run_sizeOf, hne, add_lit]
theorem POp.arr_hi {e : TypeId} {len b off sz bb i : Nat} {z : Value} [h : UTy P t (.array len e)] [hi' : ITy P e z sz bb] (hx : Env.ev E x = some (.pointer (some ⟨b, off, none⟩))) (hl : Env.ev E hi = some (.int k n)) (ei : n = (i : Int)) (h1 : i ≤ len) :
    POp P N ds E (.slice t x none (some hi) none) ty (.slice (some ⟨b, off, none⟩) i len) := fun a ha d pos af g w => by
  subst ei
  by_cases hne : len = 0
  · subst hne
    simp [execOp, ha.ev hx, ha.ev hl, Instr.sliceAt, Instr.sureAddr, run_underlying h.is, Instr.sliceBounds, run_bound (show (0 : Int) ≤ i by omega) (show (i : Int) ≤ ((0 : Nat) : Int) by omega), Sem.run_bind, run_sizeOf]
  · simp [execOp, ha.ev hx, ha.ev hl, Instr.sliceAt, Instr.sureAddr, run_underlying h.is, Instr.sliceBounds, run_bound (show (0 : Int) ≤ i by omega) (show (i : Int) ≤ ((len : Nat) : Int) by omega), Sem.run_bind, run_sizeOf, add_lit]
theorem POp.arr_all {e : TypeId} {len b off sz bb : Nat} {z : Value} [h : UTy P t (.array len e)] [hi' : ITy P e z sz bb] (hx : Env.ev E x = some (.pointer (some ⟨b, off, none⟩))) :
    POp P N ds E (.slice t x none none none) ty (.slice (some ⟨b, off, none⟩) len len) := fun a ha d pos af g w => by
  by_cases hne : len = 0
  · subst hne
    simp [execOp, ha.ev hx, Instr.sliceAt, Instr.sureAddr, run_underlying h.is, Instr.sliceBounds, Sem.run_bind, run_sizeOf]
  · simp [execOp, ha.ev hx, Instr.sliceAt, Instr.sureAddr, run_underlying h.is, Instr.sliceBounds, Sem.run_bind, run_sizeOf, add_lit]
/-- copy, into a block of the call's own. -/
theorem H1.copyB {e eb : TypeId} {z : Value} {bb b o dl dc sl sc : Nat} {ad : Addr} {cur cs cur' : List Value} {H' : List Atom} {t2 : TypeId} [h : UTy P t (.slice e)] [hi' : ITy P e z 1 bb] (hx : Env.ev E x = some (.slice (some ⟨b, o, none⟩) dl dc)) (hy : Env.ev E y = some (.slice (some ad) sl sc))
    (hn : cs.length = min sl dl) (hsrc : ∀ w, Mm w0 H w → ∀ j v, cs[j]? = some v → w.cell? (ad.add j) = some v) (h1 : ∀ v ∈ cs, v.oneCell' = true) (hfit : o + cs.length ≤ cur.length) (he : cur.take o ++ cs ++ cur.drop (o + cs.length) = cur')
    (hr : Rpl (A.blk b cur eb) (A.blk b cur' eb) H H') (hd : Nat.blt d N = true) (hn' : HN N ds next ((d, zv (cs.length : Int)) :: E) w0 H') :
    H1 P r N ds next ⟨some d, .call ⟨.builtin .copy, #[x, y], #[t, t2]⟩, ty, pos, af, g⟩ Q E w0 H := fun w hM => by
  subst he
  obtain ⟨i, hi1, hi2, hi3, hi4⟩ := hi'.parts
  have hb : w.heap[b]? = some (.cells cur.toArray eb (0, 0)) := hM.blk hr.mem
  have hrun := run_copy_row P w t t2 ty e b o dl dc ad sl sc cur.toArray eb cs h.is (by rw [hi1, Option.map_some, hi3]) hb hn (hsrc w hM) (by simpa using hfit) h1
  refine W1.run (v := zv (cs.length : Int)) (w' := w.setRow b (cur.take o ++ cs ++ cur.drop (o + cs.length)).toArray) (fun a ha => ?_) rfl hd (hn' _ (hM.turn hr rfl rfl rfl (by simp [World.setRow]) (fun q hq hq' => ?_) ?_ (by simp [A.blk]) fun b' hb' => .inl hb'))
  · simp only [execOp, resolve, invoke, Go.builtin, Sem.run_bind, Sem.run_pure, Result.andThen, List.map_toArray, List.map_cons, List.map_nil, ha.ev hx, ha.ev hy, hrun]; rfl
  · have hne : ¬ b = q := fun e => hq' (by simp [A.blk, e])
    simp [World.setRow, Array.getElem?_modify, hne]
  · show (w.setRow b _).heap[b]? = _
    simp [World.setRow, Array.getElem?_modify, hb]
/-- A call that turns own atoms. -/
theorem H1.callk {α : Type} {V : α → Value} {H' : α → List Atom} {I : α → Prop} {d : Option Nat} {f : FuncId} {args : List Operand} {ats : Array TypeId} {vs : List Value}
    [hf : CallOk P f] (hd : dOk d N = true) (ha : Env.evs E args = some vs) (hc : ∀ w, Mm w0 H w → Fn P f vs.toArray w fun v w' => ∃ z, I z ∧ v = V z ∧ Mm w0 (H' z) w')
    (h : ∀ z, I z → HN N ds next (putE d (V z) E) w0 (H' z)) :
    H1 P r N ds next ⟨d, .call ⟨.value (.func f), args.toArray, ats⟩, ty, pos, af, g⟩ Q E w0 H := fun w hM => W1.call hd ha (hc w hM) (by
    rintro v w' ⟨z, hz, rfl, hn⟩; exact h z hz w' hn)
variable {e : TypeId}
theorem run_equalIn_pnil [h : UTy P t (.pointer e)] (w : World) (d : Nat) (a : Option Addr) : (Op.equalIn (d + 1) t (.pointer a) (.pointer none)).run P w = .ok a.isNone w := by
  cases a <;> simp [Op.equalIn, Sem.run_bind, run_underlying h.is, Result.andThen]
theorem POp.pnil1 [h : UTy P t (.pointer e)] (hx : Env.ev E x = some (.pointer none)) (hy : Env.ev E y = some (.pointer none)) : POp P N ds E (.binOp .eql t x y t') ty (.bool true) :=
  POp.bin hx hy (fun w => by rw [eqGuard_at_pointer]; rfl) fun w => by
    have e1 := run_equalIn_pnil (P := P) (t := t) w 9999 none
    show ((Op.equalIn (9999 + 1) t (.pointer none) (.pointer none)) >>= fun r => pure (Value.bool r)).run P w = _
    rw [Sem.run_bind, e1]; rfl
theorem POp.pnil0 {a : Addr} [h : UTy P t (.pointer e)] (hx : Env.ev E x = some (.pointer (some a))) (hy : Env.ev E y = some (.pointer none)) : POp P N ds E (.binOp .eql t x y t') ty (.bool false) :=
  POp.bin hx hy (fun w => by rw [eqGuard_at_pointer]; rfl) fun w => by
    have e1 := run_equalIn_pnil (P := P) (t := t) w 9999 (some a)
    show ((Op.equalIn (9999 + 1) t (.pointer (some a)) (.pointer none)) >>= fun r => pure (Value.bool r)).run P w = _
    rw [Sem.run_bind, e1]; rfl
end
end Go.Sx
/-
  The layer with atoms: calls that may panic, functions that panic, deferred closures that recover.
-/
namespace Go.Sx
open Go Go.RowKit
section
variable {P : Program} {r : Option Nat} {N : Nat} {ds : List Deferred} {ol rest : List Oper} {Q : Post} {E : Env} {w0 : World} {H : List Atom} {next : Act → World → Prop} {g : Option (Nat × Bool)}
variable {d : Option Nat} {ty : TypeId} {pos : String} {af : Array Edge} {x : Operand}
theorem W1.callE {w : World} {f : FuncId} {args : List Operand} {ats : Array TypeId} {vs : List Value} {R : Ending → World → Prop} [hf : CallOk P f] (hd : dOk d N = true) (ha : Env.evs E args = some vs) (hc : Calls P f vs.toArray w R)
    (h1 : ∀ v w', R (.returned v) w' → NX N ds next (putE d v E) w') (h2 : ∀ ch w', R (.panicked ch) w' → WX N ds (.panic ch) Q E w') (h3 : ∀ w', ¬ R .outgrown w') :
    W1 P r N ds next ⟨d, .call ⟨.value (.func f), args.toArray, ats⟩, ty, pos, af, g⟩ Q E w := by
  intro a hr
  refine ⟨fun _ _ => trivial, ?_⟩
  have hrun : (execOp a.eval ⟨d, .call ⟨.value (.func f), args.toArray, ats⟩, ty, pos, af, g⟩).run P w = .ok (.enter f vs.toArray) w := by
    have hm : Array.map a.eval args.toArray = vs.toArray := by simp [hr.evs ha]
    simp [execOp, resolve, hm, Act.eval, Deferred.ofValue, invoke, hf.run]
  rw [semAt_of rfl, hrun]
  refine ⟨fun h => by simp [FW] at h, ⟨trivial, fun cs hroom => ?_⟩⟩
  obtain ⟨e, w', fr, hR, hs, hfr⟩ := hc cs
  cases e with
  | returned v => exact ⟨_, w', fr, h1 v w' hR _ (hr.putO hd v), comesIn_wide.2 hs, hfr⟩
  | panicked ch => exact ⟨_, w', fr, h2 ch w' hR a hr, comesIn_wide.2 hs, hfr⟩
  | outgrown => exact absurd hR (h3 w')
/-- A call that returns, or panics with one chain. -/
def EndP {α β : Type} (I : α → Prop) (V : α → Value) (Ha : α → List Atom) (J : β → Prop) (ch : List PanicEntry) (Hb : β → List Atom) (w0 : World) (e : Ending) (w' : World) : Prop :=
  (∃ z, I z ∧ e = .returned (V z) ∧ Mm w0 (Ha z) w') ∨ (∃ z, J z ∧ e = .panicked ch ∧ Mm w0 (Hb z) w')
theorem H1.callE {α β : Type} {V : α → Value} {Ha : α → List Atom} {I : α → Prop} {J : β → Prop} {ch : List PanicEntry} {Hb : β → List Atom} {f : FuncId} {args : List Operand} {ats : Array TypeId} {vs : List Value} [hf : CallOk P f]
    (hd : dOk d N = true) (ha : Env.evs E args = some vs) (hc : ∀ w, Mm w0 H w → Calls P f vs.toArray w (EndP I V Ha J ch Hb w0))
    (h1 : ∀ z, I z → HN N ds next (putE d (V z) E) w0 (Ha z)) (h2 : ∀ z, J z → HX N ds (.panic ch) Q E w0 (Hb z)) :
    H1 P r N ds next ⟨d, .call ⟨.value (.func f), args.toArray, ats⟩, ty, pos, af, g⟩ Q E w0 H := fun w hM => W1.callE hd ha (hc w hM)
  (fun v w' h => by
    rcases h with ⟨z, hz, he, hM'⟩ | ⟨z, hz, he, hM'⟩
    · injection he with he; subst he; exact h1 z hz w' hM'
    · cases he)
  (fun c w' h => by
    rcases h with ⟨z, hz, he, hM'⟩ | ⟨z, hz, he, hM'⟩
    · cases he
    · injection he with he; subst he; exact h2 z hz w' hM')
  (fun w' h => by
    rcases h with ⟨z, hz, he, hM'⟩ | ⟨z, hz, he, hM'⟩ <;> cases he)
theorem HX.p_then {y : Code} {ch : List PanicEntry} (h : HX N ds (.panic ch) Q E w0 H) : HX N ds (.panic ch) (Then P r y Q) E w0 H := h
theorem HX.p_again {I : Act → World → Prop} {ch : List PanicEntry} (h : HX N ds (.panic ch) Q E w0 H) : HX N ds (.panic ch) (Again I Q) E w0 H := h
theorem HX.p_block {id : Nat} {ch : List PanicEntry} (h : HX N ds (.panic ch) Q E w0 H) : HX N ds (.panic ch) (Exit.inBlock id Q) E w0 H := h
theorem enterE {f : FuncId} {fn : Func} {c : Code} {l : List Value} {R : Ending → World → Prop} {w : World} [hf : FnIs P f fn] (hM : Mm w0 H w) (hb : fn.body = some c) (hN : fn.ntmps = N) (hl : Nat.ble l.length N = true)
    (h : HC P none N [] c (bodyPost P fn R) (Env.of 0 l) w0 H) : Calls P f l.toArray w R := by
  refine (callsIn_wide (n := 0)).1 (callsIn_of_wp hf.is hb trivial ?_ rfl)
  have hl' : l.length ≤ N := by simpa using hl
  refine h w hM _ ⟨by simp [hN]; omega, rfl, fun t v ht => ?_⟩
  obtain ⟨-, h2⟩ := Env.of_g l 0 t v ht
  have hlt : t < l.length := by
    rcases Nat.lt_or_ge t l.length with h | h
    · exact h
    · simp [List.getElem?_eq_none h] at h2
  rw [Array.getElem?_append_left (by simpa using hlt)]
  simpa using h2
theorem HX.end0E {fn : Func} {R : Ending → World → Prop} (hr : fn.results = #[]) (h : ∀ w, Mm w0 H w → R (.returned (.tuple #[])) w) : HX N [] .normal (bodyPost P fn R) E w0 H := fun w hM _ ha => ⟨ha.defers, _, results_none hr _ _ _, h w hM⟩
theorem HX.ret0E {fn : Func} {R : Ending → World → Prop} (hr : fn.results = #[]) (h : ∀ w, Mm w0 H w → R (.returned (.tuple #[])) w) : HX N [] .ret (bodyPost P fn R) E w0 H := fun w hM _ ha => ⟨ha.defers, _, results_none hr _ _ _, h w hM⟩
theorem HX.panE {fn : Func} {R : Ending → World → Prop} {ch : List PanicEntry} (h : ∀ w, Mm w0 H w → R (.panicked ch) w) : HX N [] (.panic ch) (bodyPost P fn R) E w0 H := fun w hM _ ha => ⟨ha.defers, h w hM⟩
theorem H1.panic {t : TypeId} {v : Value} (hx : Env.ev E x = some (.iface t v)) (h : HX N ds (.panic [{ v := .iface t v, recovered := false }]) Q E w0 H) : H1 P r N ds next ⟨d, .panic x, ty, pos, af, g⟩ Q E w0 H := fun w hM a ha => by
  refine ⟨fun _ _ => trivial, ?_⟩
  have hrun : (execOp a.eval ⟨d, .panic x, ty, pos, af, g⟩).run P w = .halt (.panic (.iface t v)) w := by
    simp only [execOp, ha.ev hx]; rfl
  rw [semAt_of rfl, hrun]
  exact h w hM a ha
/-- A closure is deferred. -/
theorem HL.defer {f : FuncId} {cap : List Value} (hx : Env.ev E x = some (.func (.func f) #[] cap.toArray)) (h : HL P none N ({ target := .fn (.func f) cap.toArray, args := #[] } :: ds) ol rest Q E w0 H) :
    HL P none N ds ol (⟨none, .defer ⟨.value x, #[], #[]⟩, ty, pos, af, none⟩ :: rest) Q E w0 H := fun w hM a ha => by
  refine wpListIn_plain rfl (fun K hK => ?_)
  refine ⟨fun _ _ => trivial, ?_⟩
  have hrun : (execOp a.eval ⟨none, .defer ⟨.value x, #[], #[]⟩, ty, pos, af, none⟩).run P w = .ok (.defer { target := .fn (.func f) cap.toArray, args := #[] }) w := by
    simp [execOp, resolve, ha.ev hx, Deferred.ofValue]
  show Oper.uponIn _ _ _ _ _ _ _ ((Oper.semAt none a.eval _).run P w)
  rw [Oper.semAt_none, hrun]
  refine hK _ _ (h w hM _ ⟨ha.size, ?_, ha.get⟩)
  show _ :: a.defers = _
  rw [ha.defers]
/-- A function that defers one closure; what it hands back lies in two variables. -/
theorem enterD {f : FuncId} {fn : Func} {c : Code} {l : List Value} {R : Ending → World → Prop} {w : World} [hf : FnIs P f fn] (hM : Mm w0 H w) (hb : fn.body = some c) (hN : fn.ntmps = N) (hl : Nat.ble l.length N = true)
    (h : HC P none N [] c (bodyPostDIn Fence.wide 0 P fn R) (Env.of 0 l) w0 H) : Calls P f l.toArray w R := by
  refine (callsIn_wide (n := 0)).1 (callsIn_of_wp_defers hf.is hb trivial ?_ rfl)
  have hl' : l.length ≤ N := by simpa using hl
  refine h w hM _ ⟨by simp [hN]; omega, rfl, fun t v ht => ?_⟩
  obtain ⟨-, h2⟩ := Env.of_g l 0 t v ht
  have hlt : t < l.length := by
    rcases Nat.lt_or_ge t l.length with h | h
    · exact h
    · simp [List.getElem?_eq_none h] at h2
  rw [Array.getElem?_append_left (by simpa using hlt)]
  simpa using h2
/-- A call that is made at the door: what becomes of the frame below and of the world. -/
def DFn (P : Program) (f : FuncId) (args : Array Value) (u u' : FrameMode) (w : World) (R : World → Prop) : Prop :=
  CallsDIn Fence.wide 0 P f args u w fun e v w' => e = .returned (.tuple #[]) ∧ v = u' ∧ R w'
theorem leaves_one {fn : Func} {f : FuncId} {cap : List Value} {u u' : FrameMode} {w : World} {tmps : Array Value} {R : Ending → World → Prop} {R' : World → Prop} [hf : CallOk P f] (hu : u ≠ .run) (hs : settle u' = .returning) (hD : DFn P f cap.toArray u u' w R')
    (h : ∀ w', R' w' → ∃ v, (results fn tmps).run P w' = .ok v w' ∧ R (.returned v) w') : LeavesIn Fence.wide 0 P fn tmps R [{ target := .fn (.func f) cap.toArray, args := #[] }] u w := by
  refine leavesIn_cons (f := f) (args := cap.toArray) hu (by simp [Fence.wide]) (by
    have : (#[] : Array Value) ++ cap.toArray = cap.toArray := by simp
    simp [invoke, hf.run]) (fun _ _ => trivial) (hD.mono ?_)
  rintro e v w' ⟨rfl, rfl, hR⟩
  dsimp only
  rw [hs]
  exact h w' hR
theorem HX.door {fn : Func} {f : FuncId} {cap : List Value} {u' : FrameMode} {R : Ending → World → Prop} {R' : World → World → Prop} [hf : CallOk P f] (hs : settle u' = .returning) (hD : ∀ w, Mm w0 H w → DFn P f cap.toArray .returning u' w (R' w))
    (h : ∀ w w', Mm w0 H w → R' w w' → ∀ a, Rep N [{ target := .fn (.func f) cap.toArray, args := #[] }] E a → ∃ v, (results fn a.tmps).run P w' = .ok v w' ∧ R (.returned v) w') :
    HX N [{ target := .fn (.func f) cap.toArray, args := #[] }] .ret (bodyPostDIn Fence.wide 0 P fn R) E w0 H := fun w hM a ha => by
  simp only [bodyPostDIn, ha.defers]
  exact leaves_one (by intro e; cases e) hs (hD w hM) fun w' hR => h w w' hM hR a ha
theorem HX.doorP {fn : Func} {f : FuncId} {cap : List Value} {ch : List PanicEntry} {u' : FrameMode} {R : Ending → World → Prop} {R' : World → World → Prop} [hf : CallOk P f] (hs : settle u' = .returning) (hD : ∀ w, Mm w0 H w → DFn P f cap.toArray (.panicking ch) u' w (R' w))
    (h : ∀ w w', Mm w0 H w → R' w w' → ∀ a, Rep N [{ target := .fn (.func f) cap.toArray, args := #[] }] E a → ∃ v, (results fn a.tmps).run P w' = .ok v w' ∧ R (.returned v) w') :
    HX N [{ target := .fn (.func f) cap.toArray, args := #[] }] (.panic ch) (bodyPostDIn Fence.wide 0 P fn R) E w0 H := fun w hM a ha => by
  simp only [bodyPostDIn, ha.defers]
  exact leaves_one (by intro e; cases e) hs (hD w hM) fun w' hR => h w w' hM hR a ha
end
theorem wpS_of_HC {P : Program} {N : Nat} {c : Code} {Q : Exit → Act → List Frame → World → Prop} {a : Act} {cs : List Frame} {w w0 : World} {H : List Atom} {E : Env} (hM : Mm w0 H w) (hr : Rep N [] E a) (h : HC P none N [] c (fun e a' w' => Q e a' cs w') E w0 H) :
    c.wpSIn Fence.wide 0 P Q a cs w := wpSIn_of_wpIn rfl (h w hM a hr)
theorem HX.endS {P : Program} {N : Nat} {E : Env} {w0 : World} {H : List Atom} {fn : Func} {c₀ : Frame} {cs : List Frame} {u : FrameMode} {R : Ending → FrameMode → World → Prop} (hr : fn.results = #[]) (h : ∀ w, Mm w0 H w → R (.returned (.tuple #[])) u w) :
    HX N [] .normal (fun e a' w' => bodyPostS P fn c₀ cs R e a' ({ c₀ with mode := u } :: cs) w') E w0 H := fun w hM a ha => ⟨ha.defers, u, rfl, _, results_none hr _ _ _, h w hM⟩
theorem frame_same {c : Frame} {u : FrameMode} (h : c.mode = u) : c = { c with mode := u } := by
  cases c; simp only at h; subst h; rfl
end Go.Sx

