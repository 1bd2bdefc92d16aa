/- Chapter 1: the encoding of a number, by groups of seven bits. -/
import Derived.Test.YtionfblneloaiaaGreatDoorXA
import Derived.Test.YtionfblneloaiaaGreatDoorTy2
import Derived.Test.YtionfblneloaiaaGreatDoorHx6
import Derived.Test.YtionfblneloaiaaGreatDoorHd
import Derived.Test.YtionfblneloaiaaGreatDoorHe
namespace Go.Sx
open Go Go.Proofs Go.RowKit
theorem hwXH {G G2 : Prop} (x : G2) (hwq : Hold G2 → G := by
    intro hQq
    repeat' (first | apply HL.fold | apply HA.fold | apply HL.nil | apply HX.n_then | apply HC.seq | apply HC.region | refine HL.pa ?_ | refine HL.ga rfl ?_ | refine HL.na rfl ?_ | refine HL.nu rfl rfl ?_ | apply HC.block | apply HC.skip | apply HC.exit | apply HC.ret | apply HX.e_block | refine HX.e_other rfl ?_ | apply HX.e_then | apply HX.e_again | apply HX.n_block | apply HX.r_then | apply HX.r_block | apply HX.r_again | refine HC.cond_yes rfl ?_ | refine HC.cond_no rfl ?_ | refine HL.one (H1.ldb rfl memA rfl rfl ?_) | refine HC.cond rfl (fun hc => ?_) (fun hc => ?_) | refine HC.cond_b rfl (fun hc => ?_) (fun hc => ?_))
    exact hQq.get) : G := hwq ⟨x⟩
theorem bits_or_u8 (a b : Nat) (ha : a < 256) (hb : b < 256) : bits .or .u8 (a : Int) (b : Int) = ((a ||| b : Nat) : Int) := by
  show IntKind.u8.wrap (((BitVec.ofInt 8 a ||| BitVec.ofInt 8 b).toNat : Nat) : Int) = _
  have h1 : (BitVec.ofInt 8 (a : Int)).toNat = a := by simp; omega
  have h2 : (BitVec.ofInt 8 (b : Int)).toNat = b := by simp; omega
  have h3 : a ||| b < 256 := Nat.or_lt_two_pow (n := 8) ha hb
  rw [BitVec.toNat_or, h1, h2]
  exact wrap_u8 (by omega) (by omega)
theorem POp.or8 {P : Program} {N : Nat} {ds : List Deferred} {E : Env} {t t' ty : TypeId} {x y : Operand} {m n : Int} {a b : Nat} (hx : Env.ev E x = some (.int .u8 m)) (hy : Env.ev E y = some (.int .u8 n)) (em : m = (a : Int)) (en : n = (b : Int)) (h1 : a < 256) (h2 : b < 256) :
    POp P N ds E (.binOp .or t x y t') ty (.int .u8 ((a ||| b : Nat) : Int)) := POp.bin hx hy guard_int fun w => by
  subst em; subst en
  rw [binOp_or, intBits_or, bits_or_u8 a b h1 h2]; rfl
theorem or_128 {a : Nat} (h : a < 128) : a ||| 128 = a + 128 := by
  have e := Nat.two_pow_add_eq_or_of_lt (i := 7) (b := a) (by omega) 1
  rw [show 2 ^ 7 * 1 = 128 from rfl] at e
  rw [Nat.or_comm, ← e]; omega
theorem vint_len : ∀ (n z : Nat), z < 128 ^ (n + 1) → (vint z).length ≤ n + 1
  | 0, z, h => by rw [vint_lt (by omega)]; simp
  | n + 1, z, h => by
    by_cases hz : z < 128
    · rw [vint_lt hz]; simp
    · rw [vint_ge hz, List.length_cons]
      have := vint_len n (z / 128) (by rw [Nat.pow_succ] at h; omega)
      omega
theorem vint_pos (z : Nat) : 0 < (vint z).length := by
  by_cases h : z < 128
  · rw [vint_lt h]; simp
  · rw [vint_ge h]; simp
def ub (l : List UInt8) : List Value := l.map fun b => .int .u8 ((b.toNat : Nat) : Int)
def bytG (b4 : Nat) (ys : List UInt8) (a : Option Addr) (c : Nat) : List Atom := [A.blk b4 [.slice a ys.length c] 55, A.grow 5 1 a c ys.length (ub ys)]
theorem H1.bstrg {P : Program} {r : Option Nat} {N : Nat} {ds : List Deferred} {Q : Post} {E : Env} {w0 : World} {H : List Atom} {next : Act → World → Prop} {g : Option (Nat × Bool)} {d : Nat} {t ty : TypeId} {pos : String} {af : Array Edge} {x : Operand}
    {dst e : TypeId} {b c : Nat} {ys : List UInt8} [h : UTy P t (.slice e)] [he : UTy P e (.int .u8)] [hs : UTy P dst .string] (hx : Env.ev E x = some (.slice (some ⟨b, 0, none⟩) ys.length c)) (hm : A.grow e 1 (some ⟨b, 0, none⟩) c ys.length (ub ys) ∈ H)
    (hd : Nat.blt d N = true) (hn : HN N ds next ((d, .string ⟨ys.toArray⟩) :: E) w0 H) : H1 P r N ds next ⟨some d, .convert t dst x, ty, pos, af, g⟩ Q E w0 H := fun w hM =>
  W1.bytes_string hx rfl (fun j hj => by
    rw [add_lit, Nat.zero_add]
    exact ownsRow_cell (hM.own hm) (by simp [ub, hj])) hd (hn w hM)
attribute [local irreducible] WC WL WX POp Then Again Fn NX W1 WA WO QL RP RA Yld LoopAt HC HL HX HN H1 HA HO HQ HB HP A.blk A.grow A.rd A.obj A.mp AgainH CutH
set_option maxHeartbeats 2000000 in
theorem groups1_fn {w0 : World} {K0 K1 : Atom} {bz b4 l : Nat} (z0 : Nat) (hz0 : z0 < 9223372036854775808)
    (hy : ∀ (z : Nat) (ys : List UInt8) (a : Option Addr) (c : Nat), z < 9223372036854775808 → ys.length ≤ 9 → ∀ w, Mm w0 (K0 :: K1 :: A.blk bz [.int .u64 (z : Int)] 222 :: bytG b4 ys a c) w →
      Yld Tryz.prog l [.int .u8 ((z % 128 : Nat) : Int), .bool (decide (z < 128))] w fun b w' => b = true ∧ ∃ q : Option Addr × Nat, True ∧
        Mm w0 (K0 :: K1 :: A.blk bz [.int .u64 (z : Int)] 222 :: bytG b4 (ys ++ [UInt8.ofNat (if z < 128 then z else z % 128 + 128)]) q.1 q.2) w') :
    ∀ w, Mm w0 (K0 :: K1 :: A.blk bz [.int .u64 (z0 : Int)] 222 :: bytG b4 [] none 0) w →
      Fn Tryz.prog 180 (.func (.yield l) #[] #[] :: [.pointer (some ⟨bz, 0, none⟩)]).toArray w fun _ w' => ∃ q : Nat × Option Addr × Nat, True ∧ Mm w0 (K0 :: K1 :: A.blk bz [.int .u64 (q.1 : Int)] 222 :: bytG b4 (vint z0) q.2.1 q.2.2) w' := by
  intro w hM
  refine enterK (l := [_, _]) hM rfl Tryz.ntmps180 rfl ?_
  refine hwXH ?_
  refine HC.loop (α := Nat × List UInt8 × Option Addr × Nat) (fun z => [(0, .func (.yield l) #[] #[]), (1, .pointer (some ⟨bz, 0, none⟩))]) (fun z => K0 :: K1 :: A.blk bz [.int .u64 (z.1 : Int)] 222 :: bytG b4 z.2.1 z.2.2.1 z.2.2.2)
    (fun z => z.1 < 9223372036854775808 ∧ z.2.1 ++ vint z.1 = vint z0) (fun z => z.1) (z0, [], none, 0) ⟨hz0, rfl⟩ esA (Hs.refl _) ?_
  rintro ⟨z, ys, a, c⟩ ⟨hz, hv⟩
  dsimp only at hz hv ⊢
  have hlen : ys.length ≤ 9 := by
    have h1 := vint_len 8 z0 (by omega)
    rw [← hv, List.length_append] at h1
    omega
  have hand : z &&& 127 = z % 128 := Nat.and_two_pow_sub_one_eq_mod z 7
  have hsh : z >>> 7 = z / 128 := Nat.shiftRight_eq_div_pow z 7
  have hy' := hy z ys a c hz hlen
  by_cases hlt : z < 128
  · rw [if_pos hlt, decide_eq_true hlt] at hy'
    have hlt' : (z : Int) < 128 := by omega
    have hvz := vint_lt hlt
    refine hwXH ?_
    refine HL.pa ?_ (POp.and64 rfl rfl rfl rfl (by omega) (by decide))
    rw [hand]
    refine hwXH ?_
    rw [decide_eq_true hlt']
    refine HL.one (H1.yield rfl rfl rfl hy' ?_)
    rintro ⟨a', c'⟩ -
    dsimp only
    refine hwXH ?_
    refine HX.ret0 rfl fun w' hM => ⟨(z, a', c'), trivial, ?_⟩
    rw [← hv, hvz]; exact hM
  · rw [if_neg hlt, decide_eq_false hlt] at hy'
    have hlt' : ¬ (z : Int) < 128 := by omega
    have hvz := vint_ge hlt
    refine hwXH ?_
    refine HL.pa ?_ (POp.and64 rfl rfl rfl rfl (by omega) (by decide))
    rw [hand]
    refine hwXH ?_
    rw [decide_eq_false hlt']
    refine HL.one (H1.yield rfl rfl rfl hy' ?_)
    rintro ⟨a', c'⟩ -
    dsimp only
    refine hwXH ?_
    refine HL.pa ?_ (POp.shr64 rfl rfl rfl rfl (by decide))
    rw [hsh]
    refine hwXH ?_
    refine HL.one (H1.st (b := bz) rfl rfl (by intro _ h; cases h) (by intro _ h; cases h) rplA (by exact Nat.zero_lt_one) ?_)
    refine hwXH ?_
    exact HX.again (z / 128, ys ++ [UInt8.ofNat (z % 128 + 128)], a', c') ⟨by show z / 128 < _; omega, by show (ys ++ _) ++ vint (z / 128) = _; rw [← hv, hvz, List.append_assoc]; rfl⟩ (by show z / 128 < z; omega) esA (Hs.refl _)
theorem POp.xor64 {P : Program} {N : Nat} {ds : List Deferred} {E : Env} {t t' ty : TypeId} {x y : Operand} {m n : Int} {a b : Nat} (hx : Env.ev E x = some (.int .u64 m)) (hy : Env.ev E y = some (.int .u64 n)) (em : m = (a : Int)) (en : n = (b : Int)) (h1 : a < 18446744073709551616) (h2 : b < 18446744073709551616) :
    POp P N ds E (.binOp .xor t x y t') ty (.int .u64 ((a ^^^ b : Nat) : Int)) := POp.bin hx hy guard_int fun w => by
  subst em; subst en
  have e : bits .xor .u64 (a : Int) (b : Int) = ((a ^^^ b : Nat) : Int) := by
    show IntKind.u64.wrap (((BitVec.ofInt 64 a ^^^ BitVec.ofInt 64 b).toNat : Nat) : Int) = _
    rw [BitVec.toNat_xor, ofInt_toNat a h1, ofInt_toNat b h2]
    exact wrap_u64 (Nat.xor_lt_two_pow (n := 64) h1 h2)
  rw [binOp_xor, intBits_xor, e]; rfl
theorem groups_fn (z : Nat) (w : World) : Fn Tryz.prog 146 #[.int .u64 (z : Int)] w fun v w' => ∃ b : Nat, True ∧ v = .func (.func 180) #[] #[.pointer (some ⟨b, 0, none⟩)] ∧ Mm w [A.blk b [.int .u64 (z : Int)] 222] w' := by
  refine enterH (l := [_]) rfl Tryz.ntmps146 rfl ?_
  refine hwXH ?_
  refine HL.one (H1.box rfl rfl rfl (fun b1 => ?_))
  refine hwXH ?_
  exact HX.ret1 rfl rfl fun w' hM => ⟨b1, trivial, rfl, hM⟩
theorem ub_snoc (ys : List UInt8) {g : Nat} (h : g < 256) : ub ys ++ [.int .u8 (g : Int)] = ub (ys ++ [UInt8.ofNat g]) := by
  unfold ub
  rw [List.map_append]
  simp only [List.map_cons, List.map_nil, UInt8.toNat_ofNat']
  rw [Nat.mod_eq_of_lt (by omega)]
/-- A number, as it is encoded. -/
def strN (n : Nat) : ByteArray := ⟨(putN n).toArray⟩
set_option maxHeartbeats 2000000 in
theorem putInt_fn (n : Nat) (hn : n ≤ 1099511627776) (w : World) : Fn Tryz.prog 88 #[zv (n : Int)] w fun v w' => v = .tuple #[.string (strN n), .int .i64 0] ∧ Ext w w' := by
  refine enterMH (l := [_]) rfl Tryz.ntmps88 rfl ?_
  have hsl : n <<< 1 = 2 * n := by rw [Nat.shiftLeft_eq]; omega
  have hsr : n >>> 63 = 0 := by rw [Nat.shiftRight_eq_div_pow]; exact Nat.div_eq_of_lt (by omega)
  refine hwXH ?_
  refine HL.one (H1.alloc (cs := [.slice none 0 0]) rfl rfl (fun b4 => ?_))
  refine hwXH ?_
  refine HL.pa ?_ ((POp.conv (k' := .u64) rfl).of (v' := .int .u64 (n : Int)) (by rw [wrap_u64 (by omega)]))
  refine hwXH ?_
  refine HL.pa ?_ (POp.shl64 rfl rfl rfl rfl (by decide) (by rw [hsl]; omega))
  rw [hsl]
  refine hwXH ?_
  rw [hsr]
  refine HL.pa ?_ ((POp.conv (k' := .u64) rfl).of (v' := .int .u64 ((0 : Nat) : Int)) (by rfl))
  refine hwXH ?_
  refine HL.pa ?_ (POp.xor64 (a := 2 * n) (b := 0) rfl rfl rfl rfl (by omega) (by decide))
  rw [Nat.xor_zero]
  refine hwXH ?_
  refine HL.one (H1.callz1 (vs := [.int .u64 ((2 * n : Nat) : Int)]) rfl rfl (fun w' _ => groups_fn (2 * n) w') ?_)
  rintro bz -
  refine hwXH ?_
  refine HC.grow0 5 1 ?_
  refine HC.sub [(4, .pointer (some ⟨b4, 0, none⟩)), (20, .func (.func 180) #[] #[.pointer (some ⟨bz, 0, none⟩)])] (A.blk bz [.int .u64 ((2 * n : Nat) : Int)] 222 :: bytG b4 [] none 0) ?_ esA (by unfold bytG; repeat (first | exact Hs.nil _ | (refine Hs.cons pickA ?_)))
  refine HC.rangeFunc (α := Nat × Option Addr × Nat) (lb := [.pointer (some ⟨bz, 0, none⟩)]) (fun q => A.blk bz [.int .u64 (q.1 : Int)] 222 :: bytG b4 (vint (2 * n)) q.2.1 q.2.2) (fun _ => True) rfl ?_ ?_
  · intro D l L hL w1 hM1
    refine groups1_fn (2 * n) (by omega) ?_ w1 hM1
    intro z ys a c hz hlen
    refine Yld.ofH hL memA rfl rfl ?_
    dsimp only [List.zip_cons_cons, List.zip_nil_right, putAll]
    refine hwXH ?_
    refine HX.ra hL rplA ?_
    unfold bytG
    by_cases hlt : z < 128
    · rw [decide_eq_true hlt, if_pos hlt]
      have hz2 : z % 128 = z := Nat.mod_eq_of_lt hlt
      rw [hz2]
      have hub := ub_snoc ys (g := z) (by omega)
      refine hwXH ?_
      refine HL.one (H1.lit (cs := [.int .u8 (z : Int)]) rfl rfl rfl rfl rfl rfl (fun b9 => ?_))
      refine hwXH ?_
      refine HL.one (H1.app1 (u := .int .u8 (z : Int)) rfl rfl (fun _ _ => by first | ((repeat (first | with_reducible exact Rpl.here | with_reducible apply Rpl.there)); done) | (repeat (first | exact Rpl.here | apply Rpl.there))) memA rfl rfl (by omega) rfl rfl (fun a' c' => ?_))
      rw [hub]
      refine hwXH ?_
      refine HL.one (H1.st (b := b4) rfl rfl (by intro _ h; cases h) (by intro _ h; cases h) rplA (by exact Nat.zero_lt_one) ?_)
      refine hwXH ?_
      refine HX.rp_n hL rplA fun w' hM => ⟨rfl, (some ⟨a', 0, none⟩, c'), trivial, ?_⟩
      dsimp only
      rw [List.length_append]
      exact hM.tail
    · rw [decide_eq_false hlt, if_neg hlt]
      have hub := ub_snoc ys (g := z % 128 + 128) (by omega)
      refine hwXH ?_
      refine HL.pa ?_ (POp.or8 (a := z % 128) (b := 128) rfl rfl rfl rfl (by omega) (by decide))
      rw [or_128 (by omega)]
      refine hwXH ?_
      refine HL.one (H1.lit (cs := [.int .u8 ((z % 128 + 128 : Nat) : Int)]) rfl rfl rfl rfl rfl rfl (fun b9 => ?_))
      refine hwXH ?_
      refine HL.one (H1.app1 (u := .int .u8 ((z % 128 + 128 : Nat) : Int)) rfl rfl (fun _ _ => by first | ((repeat (first | with_reducible exact Rpl.here | with_reducible apply Rpl.there)); done) | (repeat (first | exact Rpl.here | apply Rpl.there))) memA rfl rfl (by omega) rfl rfl (fun a' c' => ?_))
      rw [hub]
      refine hwXH ?_
      refine HL.one (H1.st (b := b4) rfl rfl (by intro _ h; cases h) (by intro _ h; cases h) rplA (by exact Nat.zero_lt_one) ?_)
      refine hwXH ?_
      refine HX.rp_n hL rplA fun w' hM => ⟨rfl, (some ⟨a', 0, none⟩, c'), trivial, ?_⟩
      dsimp only
      rw [List.length_append]
      exact hM.tail
  · rintro D ⟨zf, a, c⟩ -
    dsimp only
    unfold bytG
    refine hwXH ?_
    refine HL.openg (e := 5) (a := a) (xs := ub (vint (2 * n))) memA (by have := vint_pos (2 * n); omega) ?_
    rintro b rfl
    refine HL.one (H1.bstrg (ys := vint (2 * n)) rfl memA rfl ?_)
    refine hwXH ?_
    exact HX.retM2 rfl rfl rfl (by repeat (first | exact Pick.here | apply Pick.there)) fun w' hM => ⟨rfl, hM.ext⟩
end Go.Sx

