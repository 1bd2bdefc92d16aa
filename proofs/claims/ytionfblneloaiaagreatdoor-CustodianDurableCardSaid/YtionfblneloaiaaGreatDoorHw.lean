/-
  More operations that ask nothing of the world: quotients and shifts of any number; a slice from an index on.
-/
import Derived.Test.YtionfblneloaiaaGreatDoorHv
namespace Go.Sx
open Go Go.RowKit
section
variable {P : Program} {N : Nat} {ds : List Deferred} {E : Env} {t ty t' : TypeId} {x y lo : Operand} {m n : Int} {k' : IntKind}
theorem tdiv_abs {m n : Int} (h : 0 < n) (h1 : -9223372036854775808 ≤ m) (h2 : m ≤ 9223372036854775807) : -9223372036854775808 ≤ m.tdiv n ∧ m.tdiv n ≤ 9223372036854775807 := by
  by_cases hm : 0 ≤ m
  · rw [Int.tdiv_eq_ediv_of_nonneg hm]
    have h3 := Int.ediv_le_self n hm
    have h4 := Int.ediv_nonneg hm (Int.le_of_lt h)
    omega
  · have e : m.tdiv n = -((-m) / n) := by
      rw [← Int.tdiv_eq_ediv_of_nonneg (by omega), Int.neg_tdiv, Int.neg_neg]
    have h3 := Int.ediv_le_self n (show 0 ≤ -m by omega)
    have h4 := Int.ediv_nonneg (show 0 ≤ -m by omega) (Int.le_of_lt h)
    omega
theorem POp.quoT (hx : Env.ev E x = some (.int .i64 m)) (hy : Env.ev E y = some (.int .i64 n)) (h0 : -9223372036854775808 ≤ m) (h1 : m ≤ 9223372036854775807) (h2 : 0 < n) :
    POp P N ds E (.binOp .quo t x y t') ty (.int .i64 (m.tdiv n)) := POp.bin hx hy guard_int fun w => by
  have e : n ≠ 0 := by omega
  rw [binOp_quo]
  simp only [Op.intDiv, e, if_false]
  have h3 := tdiv_abs h2 h0 h1
  rw [IntWalk.i64_in _ ⟨h3.1, h3.2⟩]; rfl
theorem shr_abs {m : Int} (n : Nat) (h1 : -9223372036854775808 ≤ m) (h2 : m ≤ 9223372036854775807) : -9223372036854775808 ≤ m / 2 ^ n ∧ m / 2 ^ n ≤ 9223372036854775807 := by
  have hp : (0 : Int) < 2 ^ n := Int.pow_pos (by decide)
  constructor
  · refine Int.le_ediv_of_mul_le hp ?_
    have : (1 : Int) ≤ 2 ^ n := hp
    generalize (2 : Int) ^ n = q at *
    omega
  · by_cases h : 0 ≤ m
    · have := Int.ediv_le_self (2 ^ n) h
      omega
    · have := Int.ediv_neg_of_neg_of_pos (show m < 0 by omega) hp
      omega
theorem POp.shrI {b : Nat} (hx : Env.ev E x = some (.int .i64 m)) (hy : Env.ev E y = some (.int k' n)) (en : n = (b : Int)) (h1 : b < 64) :
    POp P N ds E (.binOp .shr t x y t') ty (.int .i64 (m / 2 ^ b)) := POp.bin hx hy guard_int fun w => by
  subst en
  rw [binOp_shr, shift_shr_i64 k' m b (by omega) (by omega)]
  simp
theorem POp.cut_l {e : TypeId} {b off l c : Nat} {z : Value} {sz bb : Nat} [h : UTy P t (.slice e)] [hi' : ITy P e z sz bb] (hx : Env.ev E x = some (.slice (some ⟨b, off, none⟩) l c))
    (hl : Env.ev E lo = some (.int k' m)) (h0 : 0 ≤ m) (h1 : m ≤ l) (hne : m < c) :
    POp P N ds E (.slice t x (some lo) none none) ty (.slice (some ⟨b, off + m.toNat * sz, none⟩) (l - m.toNat) (c - m.toNat)) := fun a ha d pos af g w => by
  have hc : ¬ c = m.toNat := by omega
  simp [execOp, ha.ev hx, ha.ev hl, Instr.sliceAt, Instr.slice, run_underlying h.is, Instr.sliceBounds, run_bound h0 h1, Sem.run_bind, run_sizeOf, hc, add_lit]
theorem POp.cut_le {e : TypeId} {ad : Addr} {l : Nat} {z : Value} {sz bb : Nat} [h : UTy P t (.slice e)] [hi' : ITy P e z sz bb] (hx : Env.ev E x = some (.slice (some ad) l l))
    (hl : Env.ev E lo = some (.int k' (l : Int))) : POp P N ds E (.slice t x (some lo) none none) ty (.slice (some ad) 0 0) := fun a ha d pos af g w => by
  simp [execOp, ha.ev hx, ha.ev hl, Instr.sliceAt, Instr.slice, run_underlying h.is, Instr.sliceBounds, run_bound (show 0 ≤ (l : Int) by omega) (Int.le_refl _), Sem.run_bind, run_sizeOf]
theorem POp.cut_lx {e : TypeId} {b off l m : Nat} {z : Value} {sz bb : Nat} [h : UTy P t (.slice e)] [hi' : ITy P e z sz bb] (hx : Env.ev E x = some (.slice (some ⟨b, off, none⟩) l l)) (hl : Env.ev E lo = some (.int k' (m : Int))) (h1 : m ≤ l) :
    POp P N ds E (.slice t x (some lo) none none) ty (.slice (some (if m < l then ⟨b, off + m * sz, none⟩ else ⟨b, off, none⟩)) (l - m) (l - m)) := by
  by_cases hm : m < l
  · rw [if_pos hm]
    have := POp.cut_l (P := P) (N := N) (ds := ds) (t := t) (ty := ty) (e := e) hx hl (by omega) (by omega) (by omega)
    rwa [Int.toNat_natCast] at this
  · obtain rfl : m = l := by omega
    rw [if_neg hm, Nat.sub_self]
    exact POp.cut_le (e := e) hx hl
end
theorem HL.capOf {P : Program} {r : Option Nat} {N : Nat} {ds : List Deferred} {ol : List Oper} {Q : Post} {E : Env} {w0 : World} {H : List Atom} {e : TypeId} {sz c n : Nat} {a : Option Addr} {xs : List Value} {l : List Oper} (hm : A.grow e sz a c n xs ∈ H) (h : n ≤ c → HL P r N ds ol l Q E w0 H) : HL P r N ds ol l Q E w0 H := fun w hM => by
  refine h ?_ w hM
  rcases (hM.own hm).2 with ⟨-, h0⟩ | ⟨g, cap, cur, hv, -, -, hnc, -⟩
  · omega
  · cases hv; exact hnc
end Go.Sx

