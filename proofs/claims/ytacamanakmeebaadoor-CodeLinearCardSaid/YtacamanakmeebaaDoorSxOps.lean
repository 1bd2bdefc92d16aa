/-
  The layer's laws for operations that ask nothing of the world.
-/
import Derived.Test.YtacamanakmeebaaDoorSx
import Derived.WalkKit
import Derived.IntWalk
namespace Go.Sx
open Go
section
variable {P : Program} {r : Option Nat} {N : Nat} {ds : List Deferred} {E : Env}

theorem cst (n : Nat) : (n : Int) = (n : Int) := rfl
theorem lit (n : Nat) : (@OfNat.ofNat Int n _) = ((@OfNat.ofNat Nat n _ : Nat) : Int) := rfl
theorem POp.of {op : Op} {ty : TypeId} {v v' : Value} (h : POp P N ds E op ty v) (e : v = v') : POp P N ds E op ty v' := e ▸ h

theorem POp.move {x : Operand} {ty : TypeId} {v : Value} (hx : Env.ev E x = some v) : POp P N ds E (.move x) ty v := fun a ha d pos af g w => by
  simp [execOp, ha.ev hx]
theorem POp.assign {x : Operand} {ty : TypeId} {v : Value} (hx : Env.ev E x = some v) : POp P N ds E (.assign x) ty v := fun a ha d pos af g w => by
  simp [execOp, ha.ev hx]
theorem POp.pick_t {c x y : Operand} {ty : TypeId} {v : Value} {b : Bool} (hc : Env.ev E c = some (.bool b)) (hb : b = true) (hx : Env.ev E x = some v) : POp P N ds E (.pick c x y) ty v := fun a ha d pos af g w => by
  subst hb; simp [execOp, ha.ev hc, ha.ev hx, asBool]
theorem POp.pick_f {c x y : Operand} {ty : TypeId} {v : Value} {b : Bool} (hc : Env.ev E c = some (.bool b)) (hb : b = false) (hx : Env.ev E y = some v) : POp P N ds E (.pick c x y) ty v := fun a ha d pos af g w => by
  subst hb; simp [execOp, ha.ev hc, ha.ev hx, asBool]

/- integers -/
theorem POp.bin {op : BinOp} {t t' ty : TypeId} {x y : Operand} {u v z : Value} (hx : Env.ev E x = some u) (hy : Env.ev E y = some v)
    (hg : ∀ w, (eqGuard op t x y u v).run P w = .ok () w) (h : ∀ w, (Go.binOp op t u v).run P w = .ok z w) : POp P N ds E (.binOp op t x y t') ty z := fun a ha d pos af g w => by
  simp [execOp, ha.ev hx, ha.ev hy, Sem.run_bind, hg, h]
theorem guard_int {op : BinOp} {t : TypeId} {x y : Operand} {k : IntKind} {n : Int} {v : Value} (w : World) : (eqGuard op t x y (.int k n) v).run P w = .ok () w := by
  rw [eqGuard_at_int]; rfl
theorem guard_str {op : BinOp} {t : TypeId} {x y : Operand} {s : ByteArray} {v : Value} (w : World) : (eqGuard op t x y (.string s) v).run P w = .ok () w := by
  rw [eqGuard_at_string]; rfl
theorem guard_bool {op : BinOp} {t : TypeId} {x y : Operand} {b : Bool} {v : Value} (w : World) : (eqGuard op t x y (.bool b) v).run P w = .ok () w := by
  rw [eqGuard_at_bool]; rfl

variable {t t' ty : TypeId} {x y : Operand} {k : IntKind} {m n : Int}
theorem POp.add (hx : Env.ev E x = some (.int .i64 m)) (hy : Env.ev E y = some (.int .i64 n)) (h1 : -9223372036854775808 ≤ m + n) (h2 : m + n ≤ 9223372036854775807) :
    POp P N ds E (.binOp .add t x y t') ty (.int .i64 (m + n)) := POp.bin hx hy guard_int fun w => by
  rw [binOp_add]; simp [Op.intArith, IntWalk.i64_in _ ⟨h1, h2⟩]
theorem POp.add' (hx : Env.ev E x = some (.int k m)) (hy : Env.ev E y = some (.int k n)) :
    POp P N ds E (.binOp .add t x y t') ty (.int k (k.wrap (m + n))) := POp.bin hx hy guard_int fun w => by
  rw [binOp_add]; simp [Op.intArith]
theorem POp.sub (hx : Env.ev E x = some (.int .i64 m)) (hy : Env.ev E y = some (.int .i64 n)) (h1 : -9223372036854775808 ≤ m - n) (h2 : m - n ≤ 9223372036854775807) :
    POp P N ds E (.binOp .sub t x y t') ty (.int .i64 (m - n)) := POp.bin hx hy guard_int fun w => by
  rw [binOp_sub]; simp [Op.intArith, IntWalk.i64_in _ ⟨h1, h2⟩]
theorem POp.sub' (hx : Env.ev E x = some (.int k m)) (hy : Env.ev E y = some (.int k n)) :
    POp P N ds E (.binOp .sub t x y t') ty (.int k (k.wrap (m - n))) := POp.bin hx hy guard_int fun w => by
  rw [binOp_sub]; simp [Op.intArith]
theorem POp.mul (hx : Env.ev E x = some (.int .i64 m)) (hy : Env.ev E y = some (.int .i64 n)) (h1 : -9223372036854775808 ≤ m * n) (h2 : m * n ≤ 9223372036854775807) :
    POp P N ds E (.binOp .mul t x y t') ty (.int .i64 (m * n)) := POp.bin hx hy guard_int fun w => by
  rw [binOp_mul]; simp [Op.intArith, IntWalk.i64_in _ ⟨h1, h2⟩]
theorem POp.mul' (hx : Env.ev E x = some (.int k m)) (hy : Env.ev E y = some (.int k n)) :
    POp P N ds E (.binOp .mul t x y t') ty (.int k (k.wrap (m * n))) := POp.bin hx hy guard_int fun w => by
  rw [binOp_mul]; simp [Op.intArith]
theorem POp.quo (hx : Env.ev E x = some (.int .i64 m)) (hy : Env.ev E y = some (.int .i64 n)) (h0 : 0 ≤ m) (h1 : m ≤ 9223372036854775807) (h2 : 0 < n) :
    POp P N ds E (.binOp .quo t x y t') ty (.int .i64 (m / n)) := POp.bin hx hy guard_int fun w => by
  have e : n ≠ 0 := by omega
  rw [binOp_quo]
  simp only [Op.intDiv, e, if_false]
  rw [wrap_i64_tdiv m n (by omega) (by omega) (by omega), Int.tdiv_eq_ediv_of_nonneg h0]; rfl
theorem POp.rem (hx : Env.ev E x = some (.int .i64 m)) (hy : Env.ev E y = some (.int .i64 n)) (h0 : 0 ≤ m) (h2 : 0 < n) :
    POp P N ds E (.binOp .rem t x y t') ty (.int .i64 (m % n)) := POp.bin hx hy guard_int fun w => by
  have e : n ≠ 0 := by omega
  rw [binOp_rem]
  simp only [Op.intDiv, e, if_false]
  rw [Int.tmod_eq_emod_of_nonneg h0]; rfl
theorem POp.lss (hx : Env.ev E x = some (.int k m)) (hy : Env.ev E y = some (.int k n)) :
    POp P N ds E (.binOp .lss t x y t') ty (.bool (decide (m < n))) := POp.bin hx hy guard_int fun w => by rw [binOp_lss]; rfl
theorem POp.leq (hx : Env.ev E x = some (.int k m)) (hy : Env.ev E y = some (.int k n)) :
    POp P N ds E (.binOp .leq t x y t') ty (.bool (decide (m ≤ n))) := POp.bin hx hy guard_int fun w => by rw [binOp_leq]; rfl
theorem POp.gtr (hx : Env.ev E x = some (.int k m)) (hy : Env.ev E y = some (.int k n)) :
    POp P N ds E (.binOp .gtr t x y t') ty (.bool (decide (n < m))) := POp.bin hx hy guard_int fun w => by rw [binOp_gtr]; rfl
theorem POp.geq (hx : Env.ev E x = some (.int k m)) (hy : Env.ev E y = some (.int k n)) :
    POp P N ds E (.binOp .geq t x y t') ty (.bool (decide (n ≤ m))) := POp.bin hx hy guard_int fun w => by rw [binOp_geq]; rfl
theorem POp.eql (hx : Env.ev E x = some (.int k m)) (hy : Env.ev E y = some (.int k n)) :
    POp P N ds E (.binOp .eql t x y t') ty (.bool (decide (m = n))) := POp.bin hx hy guard_int fun w => by rw [binOp_eql]; rfl
theorem POp.neq (hx : Env.ev E x = some (.int k m)) (hy : Env.ev E y = some (.int k n)) :
    POp P N ds E (.binOp .neq t x y t') ty (.bool (decide (¬ m = n))) := POp.bin hx hy guard_int fun w => by
  rw [binOp_neq]
  have : (m != n) = decide (¬ m = n) := by by_cases h : m = n <;> simp [h]
  rw [this]; rfl

theorem ofInt_toNat (a : Nat) (h : a < 2 ^ 64) : (BitVec.ofInt 64 (a : Int)).toNat = a := by
  simp; omega
theorem wrap_nat (a : Nat) (h : a < 9223372036854775808) : IntKind.i64.wrap (a : Int) = (a : Int) := IntWalk.i64_in _ (by omega)
theorem bits_and_nat (a b : Nat) (ha : a < 9223372036854775808) (hb : b < 9223372036854775808) : bits .and .i64 (a : Int) (b : Int) = ((a &&& b : Nat) : Int) := by
  show IntKind.i64.wrap (((BitVec.ofInt 64 a &&& BitVec.ofInt 64 b).toNat : Nat) : Int) = _
  rw [BitVec.toNat_and, ofInt_toNat a (by omega), ofInt_toNat b (by omega)]
  exact wrap_nat _ (Nat.lt_of_le_of_lt Nat.and_le_left ha)
theorem bits_or_nat (a b : Nat) (ha : a < 9223372036854775808) (hb : b < 9223372036854775808) : bits .or .i64 (a : Int) (b : Int) = ((a ||| b : Nat) : Int) := by
  show IntKind.i64.wrap (((BitVec.ofInt 64 a ||| BitVec.ofInt 64 b).toNat : Nat) : Int) = _
  rw [BitVec.toNat_or, ofInt_toNat a (by omega), ofInt_toNat b (by omega)]
  exact wrap_nat _ (Nat.or_lt_two_pow (n := 63) ha hb)
theorem bits_xor_nat (a b : Nat) (ha : a < 9223372036854775808) (hb : b < 9223372036854775808) : bits .xor .i64 (a : Int) (b : Int) = ((a ^^^ b : Nat) : Int) := by
  show IntKind.i64.wrap (((BitVec.ofInt 64 a ^^^ BitVec.ofInt 64 b).toNat : Nat) : Int) = _
  rw [BitVec.toNat_xor, ofInt_toNat a (by omega), ofInt_toNat b (by omega)]
  exact wrap_nat _ (Nat.xor_lt_two_pow (n := 63) ha hb)
variable {a b : Nat}
theorem POp.xor (hx : Env.ev E x = some (.int .i64 m)) (hy : Env.ev E y = some (.int .i64 n)) (em : m = (a : Int)) (en : n = (b : Int)) (h1 : a < 9223372036854775808) (h2 : b < 9223372036854775808) :
    POp P N ds E (.binOp .xor t x y t') ty (.int .i64 ((a ^^^ b : Nat) : Int)) := POp.bin hx hy guard_int fun w => by
  subst em; subst en
  rw [binOp_xor, intBits_xor, bits_xor_nat a b h1 h2]; rfl
theorem POp.and (hx : Env.ev E x = some (.int .i64 m)) (hy : Env.ev E y = some (.int .i64 n)) (em : m = (a : Int)) (en : n = (b : Int)) (h1 : a < 9223372036854775808) (h2 : b < 9223372036854775808) :
    POp P N ds E (.binOp .and t x y t') ty (.int .i64 ((a &&& b : Nat) : Int)) := POp.bin hx hy guard_int fun w => by
  subst em; subst en
  rw [binOp_and, intBits_and, bits_and_nat a b h1 h2]; rfl
theorem POp.or (hx : Env.ev E x = some (.int .i64 m)) (hy : Env.ev E y = some (.int .i64 n)) (em : m = (a : Int)) (en : n = (b : Int)) (h1 : a < 9223372036854775808) (h2 : b < 9223372036854775808) :
    POp P N ds E (.binOp .or t x y t') ty (.int .i64 ((a ||| b : Nat) : Int)) := POp.bin hx hy guard_int fun w => by
  subst em; subst en
  rw [binOp_or, intBits_or, bits_or_nat a b h1 h2]; rfl
theorem POp.shr {k' : IntKind} (hx : Env.ev E x = some (.int .i64 m)) (hy : Env.ev E y = some (.int k' n)) (em : m = (a : Int)) (en : n = (b : Int)) (h1 : b < 64) :
    POp P N ds E (.binOp .shr t x y t') ty (.int .i64 ((a >>> b : Nat) : Int)) := POp.bin hx hy guard_int fun w => by
  subst em; subst en
  rw [binOp_shr, shift_shr_i64 k' a b (by omega) (by omega), Nat.shiftRight_eq_div_pow]
  simp
theorem POp.shl {k' : IntKind} (hx : Env.ev E x = some (.int .i64 m)) (hy : Env.ev E y = some (.int k' n)) (em : m = (a : Int)) (en : n = (b : Int)) (h1 : b < 64) (h2 : a <<< b < 9223372036854775808) :
    POp P N ds E (.binOp .shl t x y t') ty (.int .i64 ((a <<< b : Nat) : Int)) := POp.bin hx hy guard_int fun w => by
  subst em; subst en
  have e : ((a : Int) * 2 ^ ((b : Int).toNat)) = ((a <<< b : Nat) : Int) := by rw [Nat.shiftLeft_eq]; simp
  rw [binOp_shl, shift_shl_i64 k' a b (by omega) (by omega), e, wrap_nat _ h2]; rfl
theorem POp.xor' (hx : Env.ev E x = some (.int k m)) (hy : Env.ev E y = some (.int k n)) :
    POp P N ds E (.binOp .xor t x y t') ty (.int k (bits .xor k m n)) := POp.bin hx hy guard_int fun w => by rw [binOp_xor, intBits_xor]; rfl
theorem POp.not_d {p : Prop} {_ : Decidable p} (hx : Env.ev E x = some (.bool (decide p))) : POp P N ds E (.unOp .not t x) ty (.bool (decide (¬ p))) := fun a ha d pos af g w => by
  simp [execOp, ha.ev hx, Op.unary]
theorem POp.not_b {b : Bool} (hx : Env.ev E x = some (.bool b)) : POp P N ds E (.unOp .not t x) ty (.bool (!b)) := fun a ha d pos af g w => by
  simp [execOp, ha.ev hx, Op.unary]
theorem POp.neg (hx : Env.ev E x = some (.int .i64 n)) (h : -9223372036854775808 < n) (h' : n ≤ 9223372036854775807) : POp P N ds E (.unOp .neg t x) ty (.int .i64 (-n)) := fun a ha d pos af g w => by
  simp only [execOp, ha.ev hx, Op.unary, Op.intArith]
  rw [IntWalk.i64_in _ (by omega), Int.zero_sub]; rfl

theorem POp.conv {src dst : TypeId} {k k' : IntKind} {d' : TypeDesc} [hs : UTy P src d'] [hd : UTy P dst (.int k')] (hx : Env.ev E x = some (.int k n)) :
    POp P N ds E (.convert src dst x) ty (.int k' (k'.wrap n)) := fun a ha d pos af g w => by
  simp [execOp, ha.ev hx, convert, run_underlying hs.is, run_underlying hd.is, Conv.intToInt]
theorem wrap_id_u8_i64 {n : Int} (h0 : 0 ≤ n) (h : n ≤ 9223372036854775807) : IntKind.i64.wrap n = n := IntWalk.i64_in _ (by omega)
theorem POp.conv_i64 {src dst : TypeId} {k : IntKind} {d' : TypeDesc} [hs : UTy P src d'] [hd : UTy P dst (.int .i64)] (hx : Env.ev E x = some (.int k n)) (h1 : -9223372036854775808 ≤ n) (h : n ≤ 9223372036854775807) :
    POp P N ds E (.convert src dst x) ty (.int .i64 n) := (POp.conv hx).of (by rw [IntWalk.i64_in _ (by omega)])
theorem wrap_u8 {n : Int} (h0 : 0 ≤ n) (h : n < 256) : IntKind.u8.wrap n = n := by
  simp [IntKind.wrap, IntKind.bits, IntKind.signed]; omega
theorem POp.conv_u8 {src dst : TypeId} {k : IntKind} {d' : TypeDesc} [hs : UTy P src d'] [hd : UTy P dst (.int .u8)] (hx : Env.ev E x = some (.int k n)) (h1 : 0 ≤ n) (h : n < 256) :
    POp P N ds E (.convert src dst x) ty (.int .u8 n) := (POp.conv hx).of (by rw [wrap_u8 h1 h])

theorem bits_xor_u8 (a b : Nat) (ha : a < 256) (hb : b < 256) : bits .xor .u8 (a : Int) (b : Int) = ((a ^^^ b : Nat) : Int) := by
  show IntKind.u8.wrap (((BitVec.ofInt 8 a ^^^ BitVec.ofInt 8 b).toNat : Nat) : Int) = _
  have h1 : (BitVec.ofInt 8 (a : Int)).toNat = a := by simp; omega
  have h2 : (BitVec.ofInt 8 (b : Int)).toNat = b := by simp; omega
  have h3 : a ^^^ b < 256 := Nat.xor_lt_two_pow (n := 8) ha hb
  rw [BitVec.toNat_xor, h1, h2]
  exact wrap_u8 (by omega) (by omega)
theorem POp.xor8 (hx : Env.ev E x = some (.int .u8 m)) (hy : Env.ev E y = some (.int .u8 n)) (em : m = (a : Int)) (en : n = (b : Int)) (h1 : a < 256) (h2 : b < 256) :
    POp P N ds E (.binOp .xor t x y t') ty (.int .u8 ((a ^^^ b : Nat) : Int)) := POp.bin hx hy guard_int fun w => by
  subst em; subst en
  rw [binOp_xor, intBits_xor, bits_xor_u8 a b h1 h2]; rfl
theorem POp.len_slice {e : TypeId} {a : Option Addr} {l c : Nat} [h : UTy P t (.slice e)] (hx : Env.ev E x = some (.slice a l c)) :
    POp P N ds E (.call ⟨.builtin .len, #[x], #[t]⟩) ty (.int .i64 l) := fun b hb d pos af g w => by
  simp [execOp, hb.ev hx, resolve, invoke, Go.builtin, Builtin.len_, run_underlying h.is, goInt]
theorem POp.len_string {s : ByteArray} [h : UTy P t .string] (hx : Env.ev E x = some (.string s)) :
    POp P N ds E (.call ⟨.builtin .len, #[x], #[t]⟩) ty (.int .i64 s.size) := fun b hb d pos af g w => by
  simp [execOp, hb.ev hx, resolve, invoke, Go.builtin, Builtin.len_, run_underlying h.is, goInt]
theorem POp.min_int {ts : Array TypeId} (hx : Env.ev E x = some (.int k m)) (hy : Env.ev E y = some (.int k n)) :
    POp P N ds E (.call ⟨.builtin .min, #[x, y], ts⟩) ty (.int k (min m n)) := fun b hb d pos af g w => by
  have : (if n < m then n else m) = min m n := by omega
  simp [execOp, hb.ev hx, hb.ev hy, resolve, invoke, Go.builtin, Builtin.min_, Builtin.min2, this]
theorem POp.extract {i : Nat} {vs : List Value} {v : Value} (hx : Env.ev E x = some (.tuple vs.toArray)) (hv : vs[i]? = some v) :
    POp P N ds E (.extract x i) ty v := fun b hb d pos af g w => by
  simp [execOp, hb.ev hx, Instr.extract, hv]
theorem POp.nilCheck {a : Addr} (hx : Env.ev E x = some (.pointer (some a))) : POp P N ds E (.nilCheck x) ty (.pointer (some a)) := fun b hb d pos af g w => by
  simp [execOp, hb.ev hx]
theorem POp.makeFunc {fn : Go.Fn} {first captured : List Operand} {v1 v2 : List Value} (h1 : Env.evs E first = some v1) (h2 : Env.evs E captured = some v2) :
    POp P N ds E (.makeFunc fn first.toArray captured.toArray) ty (.func fn v1.toArray v2.toArray) := fun b hb d pos af g w => by
  simp [execOp, Instr.makeFunc, hb.evs h1, hb.evs h2]
end
end Go.Sx

