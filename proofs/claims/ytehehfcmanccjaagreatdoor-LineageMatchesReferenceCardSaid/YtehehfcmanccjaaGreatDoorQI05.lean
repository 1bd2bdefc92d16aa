/- Plain, chapter 20: records, which of them are valid, how they are encoded. -/
import Derived.Test.YtehehfcmanccjaaGreatDoorQI04
import Derived.Laws.IdiomCopy
namespace Go.Sx
open Go
def vint (z : Nat) : List UInt8 := if h : z < 128 then [UInt8.ofNat z] else UInt8.ofNat (z % 128 + 128) :: vint (z / 128)
termination_by z
decreasing_by omega
theorem vint_lt {z : Nat} (h : z < 128) : vint z = [UInt8.ofNat z] := by rw [vint, dif_pos h]
theorem vint_ge {z : Nat} (h : ¬ z < 128) : vint z = UInt8.ofNat (z % 128 + 128) :: vint (z / 128) := by rw [vint, dif_neg h]
theorem u8_inj {a b : Nat} (ha : a < 256) (hb : b < 256) (h : UInt8.ofNat a = UInt8.ofNat b) : a = b := by
 have := congrArg UInt8.toNat h
 simp only [UInt8.toNat_ofNat'] at this
 omega
theorem vint_inj : ∀ (n a b : Nat), a ≤ n → ∀ {x y : List UInt8}, vint a ++ x = vint b ++ y → a = b ∧ x = y
 | n, a, b, hn, x, y, h => by
  by_cases ha : a < 128
  ·rw [vint_lt ha] at h
   by_cases hb : b < 128
   ·rw [vint_lt hb] at h
    simp only [List.cons_append, List.nil_append, List.cons.injEq] at h
    exact ⟨u8_inj (by omega) (by omega) h.1, h.2⟩
   ·rw [vint_ge hb] at h
    simp only [List.cons_append, List.nil_append, List.cons.injEq] at h
    have := u8_inj (by omega) (by omega) h.1
    omega
  ·rw [vint_ge ha] at h
   by_cases hb : b < 128
   ·rw [vint_lt hb] at h
    simp only [List.cons_append, List.nil_append, List.cons.injEq] at h
    have := u8_inj (by omega) (by omega) h.1
    omega
   ·rw [vint_ge hb] at h
    simp only [List.cons_append, List.cons.injEq] at h
    have h1 := u8_inj (by omega) (by omega) h.1
    match n, hn with
    | 0, hn => omega
    | n + 1, hn =>
     have h2 := vint_inj n (a / 128) (b / 128) (by omega) h.2
     exact ⟨by omega, h2.2⟩
def putN (n : Nat) : List UInt8 := vint (2 * n)
theorem putN_inj {a b : Nat} {x y : List UInt8} (h : putN a ++ x = putN b ++ y) : a = b ∧ x = y := by
 have := vint_inj (2 * a) _ _ (Nat.le_refl _) h
 exact ⟨by omega, this.2⟩
structure Rc where
 kind : Int
 id : Int
 version : Int
 day : Int
 gone : Bool
 start : Int
 stop : Int
 pack : Int
 person : Int
 role : Int
 purpose : Int
 clause : Int
 adm : Bool
 party : Int
 text : ByteArray
def b01 (b : Bool) : Int := if b = true then 1 else 0
def Rc.get (r : Rc) : Nat → Int
 | 0 => r.id
 | 1 => r.start
 | 2 => r.stop
 | 3 => r.pack
 | 4 => r.person
 | 5 => r.role
 | 6 => r.purpose
 | 7 => r.clause
 | 8 => b01 r.adm
 | 9 => r.party
 | _ => 0
def specF (k : Int) : List (Nat × Int × Int) :=
 if k = 1 then [(0, 1, 1000000), (1, 0, 100000), (2, 0, 100000), (4, 1, 1000000), (5, 1, 1000000)]
 else if k = 2 then [(7, 1, 1000000), (1, 0, 100000), (2, 0, 100000), (3, 0, 1000000), (5, 0, 1000000), (6, 0, 1000000), (8, 0, 1), (9, 0, 1000000)]
 else if k = 3 then [(0, 1, 1000000), (1, 0, 100000), (2, 0, 100000), (3, 1, 1000000), (6, 0, 1000000), (9, 1, 1000000)]
 else if k = 4 then [(0, 1, 1000000), (1, 0, 100000), (2, 0, 100000), (3, 1, 1000000)]
 else if k = 5 then [(0, 1, 1000000), (1, 0, 100000), (2, 0, 100000), (3, 0, 1000000)]
 else if k = 6 then [(9, 1, 1000000), (1, 0, 100000)]
 else if k = 7 then [(0, 1, 1000000), (1, 0, 100000), (2, 0, 100000), (3, 1, 1000000), (6, 0, 1000000), (7, 0, 63)]
 else if k = 8 then [(0, 1, 1000000), (1, 0, 100000), (3, 1, 1000000), (7, 1, 1000000)]
 else []
def keyF (k : Int) : Nat := if k = 2 then 7 else if k = 6 then 9 else 0
def restP (r : Rc) : Prop := (r.kind ≠ 6 → r.kind ≠ 8 → r.start ≤ r.stop) ∧ (r.kind = 2 → r.clause ≠ r.party)
structure ValidR (r : Rc) : Prop where
 kind : 1 ≤ r.kind ∧ r.kind ≤ 8
 ver : 1 ≤ r.version ∧ r.version ≤ 1000000
 day : 0 ≤ r.day ∧ r.day ≤ 100000
 text : r.text.size ≤ 200
 rest : restP r
 lim : ∀ p ∈ specF r.kind, p.2.1 ≤ r.get p.1 ∧ r.get p.1 ≤ p.2.2
 zero : ∀ i, i < 10 → i ∉ (specF r.kind).map Prod.fst → r.get i = 0
theorem b01_inj {a b : Bool} (h : b01 a = b01 b) : a = b := by
 cases a <;> cases b <;> first | rfl | (exfalso; revert h; decide)
theorem ByteArray_ext' {a b : ByteArray} (h : a.data.toList = b.data.toList) : a = b := by
 cases a; cases b
 congr 1
 exact Array.toList_inj.1 h
theorem Rc.ext_get {r s : Rc} (hk : r.kind = s.kind) (hv : r.version = s.version) (hd : r.day = s.day) (hg : r.gone = s.gone) (ht : r.text = s.text) (h : ∀ i, i < 10 → r.get i = s.get i) : r = s := by
 cases r; cases s
 simp only at hk hv hd hg ht
 have h0 := h 0 (by decide)
 have h1 := h 1 (by decide)
 have h2 := h 2 (by decide)
 have h3 := h 3 (by decide)
 have h4 := h 4 (by decide)
 have h5 := h 5 (by decide)
 have h6 := h 6 (by decide)
 have h7 := h 7 (by decide)
 have h8 := h 8 (by decide)
 have h9 := h 9 (by decide)
 simp only [Rc.get] at h0 h1 h2 h3 h4 h5 h6 h7 h8 h9
 have h8' := b01_inj h8
 subst hk hv hd hg ht h0 h1 h2 h3 h4 h5 h6 h7 h8' h9
 rfl
def encF (r : Rc) (l : List (Nat × Int × Int)) : List UInt8 := (l.map fun p => putN (r.get p.1).toNat).flatten
def encR (r : Rc) : List UInt8 := putN r.kind.toNat ++ (putN r.version.toNat ++ (putN r.day.toNat ++ (putN (b01 r.gone).toNat ++ (encF r (specF r.kind) ++ (putN r.text.size ++ r.text.data.toList)))))
def keyR (r : Rc) : List UInt8 := putN r.kind.toNat ++ putN (r.get (keyF r.kind)).toNat
theorem encF_inj {r s : Rc} : ∀ (l : List (Nat × Int × Int)), (∀ p ∈ l, 0 ≤ r.get p.1 ∧ 0 ≤ s.get p.1) → ∀ {x y : List UInt8}, encF r l ++ x = encF s l ++ y → (∀ p ∈ l, r.get p.1 = s.get p.1) ∧ x = y
 | [], _, x, y, h => ⟨fun p hp => absurd hp (by simp), h⟩
 | p :: l, h0, x, y, h => by
  have e : ∀ r : Rc, encF r (p :: l) = putN (r.get p.1).toNat ++ encF r l := fun r => rfl
  rw [e r, e s, List.append_assoc, List.append_assoc] at h
  obtain ⟨h1, h2⟩ := putN_inj h
  obtain ⟨h3, h4⟩ := encF_inj l (fun q hq => h0 q (List.mem_cons_of_mem _ hq)) h2
  have h5 := h0 p (List.mem_cons_self ..)
  refine ⟨fun q hq => ?_, h4⟩
  rcases List.mem_cons.1 hq with rfl | hq
  ·omega
  ·exact h3 q hq
theorem spec_lo {k : Int} {p : Nat × Int × Int} (h : p ∈ specF k) : 0 ≤ p.2.1 ∧ p.1 < 10 := by
 unfold specF at h
 repeat' split at h
 all_goals (simp only [List.mem_cons, List.not_mem_nil, or_false] at h)
 all_goals (first | (rcases h with rfl | rfl | rfl | rfl | rfl | rfl | rfl | rfl <;> decide) | (rcases h with rfl | rfl | rfl | rfl | rfl | rfl <;> decide) | (rcases h with rfl | rfl | rfl | rfl | rfl <;> decide) | (rcases h with rfl | rfl | rfl | rfl <;> decide) | (rcases h with rfl | rfl <;> decide))
theorem enc_inj {r s : Rc} (hr : ValidR r) (hs : ValidR s) (h : encR r = encR s) : r = s := by
 unfold encR at h
 obtain ⟨h1, h⟩ := putN_inj h
 obtain ⟨h2, h⟩ := putN_inj h
 obtain ⟨h3, h⟩ := putN_inj h
 obtain ⟨h4, h⟩ := putN_inj h
 have hk : r.kind = s.kind := by have := hr.kind; have := hs.kind; omega
 rw [← hk] at h
 obtain ⟨h5, h⟩ := encF_inj _ (fun p hp => ⟨by have := (hr.lim p hp).1; have := (spec_lo hp).1; omega, by have := (hs.lim p (hk ▸ hp)).1; have := (spec_lo hp).1; omega⟩) h
 obtain ⟨h6, h⟩ := putN_inj h
 have hb : ∀ b, 0 ≤ b01 b := fun b => by cases b <;> decide
 refine Rc.ext_get hk (by have := hr.ver; have := hs.ver; omega) (by have := hr.day; have := hs.day; omega) (b01_inj (by have := hb r.gone; have := hb s.gone; omega)) (ByteArray_ext' h) fun i hi => ?_
 by_cases hm : i ∈ (specF r.kind).map Prod.fst
 ·obtain ⟨p, hp, rfl⟩ := List.mem_map.1 hm
  exact h5 p hp
 ·rw [hr.zero i hi hm, hs.zero i hi (hk ▸ hm)]
end Go.Sx
/- Chapter 1: the encoding of a number, by groups of seven bits. -/
namespace Go.Sx
open Go Go.Proofs Go.RowKit
theorem bits_or_u8 (a b : Nat) (ha : a < 256) (hb : b < 256) : bits .or .u8 (a : Int) (b : Int) = ((a ||| b : Nat) : Int) := by
 show IntKind.u8.wrap (((BitVec.ofInt 8 a ||| BitVec.ofInt 8 b).toNat : Nat) : Int) = _
 have h1 : (BitVec.ofInt 8 (a : Int)).toNat = a := by simp; omega
 have h2 : (BitVec.ofInt 8 (b : Int)).toNat = b := by simp; omega
 have h3 : a ||| b < 256 := Nat.or_lt_two_pow (n := 8) ha hb
 rw [BitVec.toNat_or, h1, h2]
 exact wrap_u8 (by omega) (by omega)
theorem POp.or8 {P : Program} {N : Nat} {ds : List Deferred} {E : Env} {t t' ty : TypeId} {x y : Operand} {m n : Int} {a b : Nat} (hx : Env.ev E x = some (.int .u8 m)) (hy : Env.ev E y = some (.int .u8 n)) (em : m = (a : Int)) (en : n = (b : Int)) (h1 : a < 256) (h2 : b < 256) :
  POp P N ds E (.binOp .or t x y t') ty (.int .u8 ((a ||| b : Nat) : Int)) := POp.bin hx hy guard_int fun w => by
 subst em; subst en
 rw [binOp_or, intBits_or, bits_or_u8 a b h1 h2]; rfl
theorem or_128 {a : Nat} (h : a < 128) : a ||| 128 = a + 128 := by
 have e := Nat.two_pow_add_eq_or_of_lt (i := 7) (b := a) (by omega) 1
 rw [show 2 ^ 7 * 1 = 128 from rfl] at e
 rw [Nat.or_comm, ← e]; omega
theorem vint_len : ∀ (n z : Nat), z < 128 ^ (n + 1) → (vint z).length ≤ n + 1
 | 0, z, h => by rw [vint_lt (by omega)]; simp
 | n + 1, z, h => by
  by_cases hz : z < 128
  ·rw [vint_lt hz]; simp
  ·rw [vint_ge hz, List.length_cons]
   have := vint_len n (z / 128) (by rw [Nat.pow_succ] at h; omega)
   omega
theorem vint_pos (z : Nat) : 0 < (vint z).length := by
 by_cases h : z < 128
 ·rw [vint_lt h]; simp
 ·rw [vint_ge h]; simp
def ub (l : List UInt8) : List Value := l.map fun b => .int .u8 ((b.toNat : Nat) : Int)
def bytG (b4 : Nat) (ys : List UInt8) (a : Option Addr) (c : Nat) : List Atom := [A.blk b4 [.slice a ys.length c] 116, A.grow 5 1 a c ys.length (ub ys)]
theorem H1.bstrg {P : Program} {r : Option Nat} {N : Nat} {ds : List Deferred} {Q : Post} {E : Env} {w0 : World} {H : List Atom} {next : Act → World → Prop} {g : Option (Nat × Bool)} {d : Nat} {t ty : TypeId} {pos : String} {af : Array Edge} {x : Operand}
  {dst e : TypeId} {b c : Nat} {ys : List UInt8} [h : UTy P t (.slice e)] [he : UTy P e (.int .u8)] [hs : UTy P dst .string] (hx : Env.ev E x = some (.slice (some ⟨b, 0, none⟩) ys.length c)) (hm : A.grow e 1 (some ⟨b, 0, none⟩) c ys.length (ub ys) ∈ H)
  (hd : Nat.blt d N = true) (hn : HN N ds next ((d, .string ⟨ys.toArray⟩) :: E) w0 H) : H1 P r N ds next ⟨some d, .convert t dst x, ty, pos, af, g⟩ Q E w0 H := fun w hM =>
 W1.bytes_string hx rfl (fun j hj => by
  rw [add_lit, Nat.zero_add]
  exact ownsRow_cell (hM.own hm) (by simp [ub, hj])) hd (hn w hM)
attribute [local irreducible] WC WL WX POp Then Again Fn NX W1 WA WO QL RP RA Yld LoopAt HC HL HX HN H1 HA HO HQ HB HP A.blk A.grow A.rd A.obj A.mp AgainH CutH
set_option maxHeartbeats 2000000 in
theorem groups1_fn {w0 : World} {K0 K1 : Atom} {bz b4 l : Nat} (z0 : Nat) (hz0 : z0 < 9223372036854775808)
  (hy : ∀ (z : Nat) (ys : List UInt8) (a : Option Addr) (c : Nat), z < 9223372036854775808 → ys.length ≤ 9 → ∀ w, Mm w0 (K0 :: K1 :: A.blk bz [.int .u64 (z : Int)] 150 :: bytG b4 ys a c) w →
   Yld Tryz.prog l [.int .u8 ((z % 128 : Nat) : Int), .bool (decide (z < 128))] w fun b w' => b = true ∧ ∃ q : Option Addr × Nat, True ∧
    Mm w0 (K0 :: K1 :: A.blk bz [.int .u64 (z : Int)] 150 :: bytG b4 (ys ++ [UInt8.ofNat (if z < 128 then z else z % 128 + 128)]) q.1 q.2) w') :
  ∀ w, Mm w0 (K0 :: K1 :: A.blk bz [.int .u64 (z0 : Int)] 150 :: bytG b4 [] none 0) w →
   Fn Tryz.prog 169 (.func (.yield l) #[] #[] :: [.pointer (some ⟨bz, 0, none⟩)]).toArray w fun _ w' => ∃ q : Nat × Option Addr × Nat, True ∧ Mm w0 (K0 :: K1 :: A.blk bz [.int .u64 (q.1 : Int)] 150 :: bytG b4 (vint z0) q.2.1 q.2.2) w' := by
 intro w hM
 refine enterK (l := [_, _]) hM rfl Tryz.ntmps169 rfl ?_
 refine hwNE ?_
 refine HC.loop (α := Nat × List UInt8 × Option Addr × Nat) (fun z => [(0, .func (.yield l) #[] #[]), (1, .pointer (some ⟨bz, 0, none⟩))]) (fun z => K0 :: K1 :: A.blk bz [.int .u64 (z.1 : Int)] 150 :: bytG b4 z.2.1 z.2.2.1 z.2.2.2)
  (fun z => z.1 < 9223372036854775808 ∧ z.2.1 ++ vint z.1 = vint z0) (fun z => z.1) (z0, [], none, 0) ⟨hz0, rfl⟩ esA (Hs.refl _) ?_
 rintro ⟨z, ys, a, c⟩ ⟨hz, hv⟩
 dsimp only at hz hv ⊢
 have hlen : ys.length ≤ 9 := by
  have h1 := vint_len 8 z0 (by omega)
  rw [← hv, List.length_append] at h1
  omega
 have hand : z &&& 127 = z % 128 := Nat.and_two_pow_sub_one_eq_mod z 7
 have hsh : z >>> 7 = z / 128 := Nat.shiftRight_eq_div_pow z 7
 have hy' := hy z ys a c hz hlen
 by_cases hlt : z < 128
 ·rw [if_pos hlt, decide_eq_true hlt] at hy'
  have hlt' : (z : Int) < 128 := by omega
  have hvz := vint_lt hlt
  refine hwNE ?_
  refine HL.pa ?_ (POp.and64 rfl rfl rfl rfl (by omega) (by decide))
  rw [hand]
  refine hwNE ?_
  rw [decide_eq_true hlt']
  refine HL.one (H1.yield rfl rfl rfl hy' ?_)
  rintro ⟨a', c'⟩ -
  dsimp only
  refine hwNE ?_
  refine HX.ret0 rfl fun w' hM => ⟨(z, a', c'), trivial, ?_⟩
  rw [← hv, hvz]; exact hM
 ·rw [if_neg hlt, decide_eq_false hlt] at hy'
  have hlt' : ¬ (z : Int) < 128 := by omega
  have hvz := vint_ge hlt
  refine hwNE ?_
  refine HL.pa ?_ (POp.and64 rfl rfl rfl rfl (by omega) (by decide))
  rw [hand]
  refine hwNE ?_
  rw [decide_eq_false hlt']
  refine HL.one (H1.yield rfl rfl rfl hy' ?_)
  rintro ⟨a', c'⟩ -
  dsimp only
  refine hwNE ?_
  refine HL.pa ?_ (POp.shr64 rfl rfl rfl rfl (by decide))
  rw [hsh]
  refine hwNE ?_
  refine HL.one (H1.st (b := bz) rfl rfl (by intro _ h; cases h) (by intro _ h; cases h) rplA (by exact Nat.zero_lt_one) ?_)
  refine hwNE ?_
  exact HX.again (z / 128, ys ++ [UInt8.ofNat (z % 128 + 128)], a', c') ⟨by show z / 128 < _; omega, by show (ys ++ _) ++ vint (z / 128) = _; rw [← hv, hvz, List.append_assoc]; rfl⟩ (by show z / 128 < z; omega) esA (Hs.refl _)
theorem POp.xor64 {P : Program} {N : Nat} {ds : List Deferred} {E : Env} {t t' ty : TypeId} {x y : Operand} {m n : Int} {a b : Nat} (hx : Env.ev E x = some (.int .u64 m)) (hy : Env.ev E y = some (.int .u64 n)) (em : m = (a : Int)) (en : n = (b : Int)) (h1 : a < 18446744073709551616) (h2 : b < 18446744073709551616) :
  POp P N ds E (.binOp .xor t x y t') ty (.int .u64 ((a ^^^ b : Nat) : Int)) := POp.bin hx hy guard_int fun w => by
 subst em; subst en
 have e : bits .xor .u64 (a : Int) (b : Int) = ((a ^^^ b : Nat) : Int) := by
  show IntKind.u64.wrap (((BitVec.ofInt 64 a ^^^ BitVec.ofInt 64 b).toNat : Nat) : Int) = _
  rw [BitVec.toNat_xor, ofInt_toNat a h1, ofInt_toNat b h2]
  exact wrap_u64 (Nat.xor_lt_two_pow (n := 64) h1 h2)
 rw [binOp_xor, intBits_xor, e]; rfl
theorem groups_fn (z : Nat) (w : World) : Fn Tryz.prog 146 #[.int .u64 (z : Int)] w fun v w' => ∃ b : Nat, True ∧ v = .func (.func 169) #[] #[.pointer (some ⟨b, 0, none⟩)] ∧ Mm w [A.blk b [.int .u64 (z : Int)] 150] w' := by
 refine enterH (l := [_]) rfl Tryz.ntmps146 rfl ?_
 refine hwNE ?_
 refine HL.one (H1.box rfl rfl rfl (fun b1 => ?_))
 refine hwNE ?_
 exact HX.ret1 rfl rfl fun w' hM => ⟨b1, trivial, rfl, hM⟩
theorem ub_snoc (ys : List UInt8) {g : Nat} (h : g < 256) : ub ys ++ [.int .u8 (g : Int)] = ub (ys ++ [UInt8.ofNat g]) := by
 unfold ub
 rw [List.map_append]
 simp only [List.map_cons, List.map_nil, UInt8.toNat_ofNat']
 rw [Nat.mod_eq_of_lt (by omega)]
def strN (n : Nat) : ByteArray := ⟨(putN n).toArray⟩
set_option maxHeartbeats 2000000 in
theorem putInt_fn (n : Nat) (hn : n ≤ 1099511627776) (w : World) : Fn Tryz.prog 122 #[zv (n : Int)] w fun v w' => v = .tuple #[.string (strN n), .int .i64 0] ∧ Ext w w' := by
 refine enterMH (l := [_]) rfl Tryz.ntmps122 rfl ?_
 have hsl : n <<< 1 = 2 * n := by rw [Nat.shiftLeft_eq]; omega
 have hsr : n >>> 63 = 0 := by rw [Nat.shiftRight_eq_div_pow]; exact Nat.div_eq_of_lt (by omega)
 refine hwNE ?_
 refine HL.one (H1.alloc (cs := [.slice none 0 0]) rfl rfl (fun b4 => ?_))
 refine hwNE ?_
 refine HL.pa ?_ ((POp.conv (k' := .u64) rfl).of (v' := .int .u64 (n : Int)) (by rw [wrap_u64 (by omega)]))
 refine hwNE ?_
 refine HL.pa ?_ (POp.shl64 rfl rfl rfl rfl (by decide) (by rw [hsl]; omega))
 rw [hsl]
 refine hwNE ?_
 rw [hsr]
 refine HL.pa ?_ ((POp.conv (k' := .u64) rfl).of (v' := .int .u64 ((0 : Nat) : Int)) (by rfl))
 refine hwNE ?_
 refine HL.pa ?_ (POp.xor64 (a := 2 * n) (b := 0) rfl rfl rfl rfl (by omega) (by decide))
 rw [Nat.xor_zero]
 refine hwNE ?_
 refine HL.one (H1.callz1 (vs := [.int .u64 ((2 * n : Nat) : Int)]) rfl rfl (fun w' _ => groups_fn (2 * n) w') ?_)
 rintro bz -
 refine hwNE ?_
 refine HC.grow0 5 1 ?_
 refine HC.sub [(4, .pointer (some ⟨b4, 0, none⟩)), (20, .func (.func 169) #[] #[.pointer (some ⟨bz, 0, none⟩)])] (A.blk bz [.int .u64 ((2 * n : Nat) : Int)] 150 :: bytG b4 [] none 0) ?_ esA (by unfold bytG; repeat (first | exact Hs.nil _ | (refine Hs.cons pickA ?_)))
 refine HC.rangeFunc (α := Nat × Option Addr × Nat) (lb := [.pointer (some ⟨bz, 0, none⟩)]) (fun q => A.blk bz [.int .u64 (q.1 : Int)] 150 :: bytG b4 (vint (2 * n)) q.2.1 q.2.2) (fun _ => True) rfl ?_ ?_
 ·intro D l L hL w1 hM1
  refine groups1_fn (2 * n) (by omega) ?_ w1 hM1
  intro z ys a c hz hlen
  refine Yld.ofH hL memA rfl rfl ?_
  dsimp only [List.zip_cons_cons, List.zip_nil_right, putAll]
  refine hwNE ?_
  refine HX.ra hL rplA ?_
  unfold bytG
  by_cases hlt : z < 128
  ·rw [decide_eq_true hlt, if_pos hlt]
   have hz2 : z % 128 = z := Nat.mod_eq_of_lt hlt
   rw [hz2]
   have hub := ub_snoc ys (g := z) (by omega)
   refine hwNE ?_
   refine HL.one (H1.lit (cs := [.int .u8 (z : Int)]) rfl rfl rfl rfl rfl rfl (fun b9 => ?_))
   refine hwNE ?_
   refine HL.one (H1.app1 (u := .int .u8 (z : Int)) rfl rfl (fun _ _ => by first | ((repeat (first | with_reducible exact Rpl.here | with_reducible apply Rpl.there)); done) | (repeat (first | exact Rpl.here | apply Rpl.there))) memA rfl rfl (by omega) rfl rfl (fun a' c' => ?_))
   rw [hub]
   refine hwNE ?_
   refine HL.one (H1.st (b := b4) rfl rfl (by intro _ h; cases h) (by intro _ h; cases h) rplA (by exact Nat.zero_lt_one) ?_)
   refine hwNE ?_
   refine HX.rp_n hL rplA fun w' hM => ⟨rfl, (some ⟨a', 0, none⟩, c'), trivial, ?_⟩
   dsimp only
   rw [List.length_append]
   exact hM.tail
  ·rw [decide_eq_false hlt, if_neg hlt]
   have hub := ub_snoc ys (g := z % 128 + 128) (by omega)
   refine hwNE ?_
   refine HL.pa ?_ (POp.or8 (a := z % 128) (b := 128) rfl rfl rfl rfl (by omega) (by decide))
   rw [or_128 (by omega)]
   refine hwNE ?_
   refine HL.one (H1.lit (cs := [.int .u8 ((z % 128 + 128 : Nat) : Int)]) rfl rfl rfl rfl rfl rfl (fun b9 => ?_))
   refine hwNE ?_
   refine HL.one (H1.app1 (u := .int .u8 ((z % 128 + 128 : Nat) : Int)) rfl rfl (fun _ _ => by first | ((repeat (first | with_reducible exact Rpl.here | with_reducible apply Rpl.there)); done) | (repeat (first | exact Rpl.here | apply Rpl.there))) memA rfl rfl (by omega) rfl rfl (fun a' c' => ?_))
   rw [hub]
   refine hwNE ?_
   refine HL.one (H1.st (b := b4) rfl rfl (by intro _ h; cases h) (by intro _ h; cases h) rplA (by exact Nat.zero_lt_one) ?_)
   refine hwNE ?_
   refine HX.rp_n hL rplA fun w' hM => ⟨rfl, (some ⟨a', 0, none⟩, c'), trivial, ?_⟩
   dsimp only
   rw [List.length_append]
   exact hM.tail
 ·rintro D ⟨zf, a, c⟩ -
  dsimp only
  unfold bytG
  refine hwNE ?_
  refine HL.openg (e := 5) (a := a) (xs := ub (vint (2 * n))) memA (by have := vint_pos (2 * n); omega) ?_
  rintro b rfl
  refine HL.one (H1.bstrg (ys := vint (2 * n)) rfl memA rfl ?_)
  refine hwNE ?_
  exact HX.retM2 rfl rfl rfl (by repeat (first | exact Pick.here | apply Pick.there)) fun w' hM => ⟨rfl, hM.ext⟩
end Go.Sx
/- Chapter 2: the words of a block: the walks. -/
namespace Go.Sx
open Go Go.Proofs Go.RowKit
theorem hbDD {G G2 : Prop} (x : G2) (hwq : Hold G2 → G := by
  intro hQq
  repeat' (first | apply HL.fold | apply HA.fold | apply HL.nil | apply HX.n_then | apply HC.seq | apply HC.region | refine HL.pa ?_ | refine HL.ga rfl ?_ | refine HL.na rfl ?_ | refine HL.nu rfl rfl ?_ | apply HC.skip | apply HC.exit | apply HC.ret | apply HX.e_block | refine HX.e_other rfl ?_ | apply HX.e_then | apply HX.e_again | apply HX.n_block | apply HX.r_then | apply HX.r_block | apply HX.r_again | refine HC.cond_yes rfl ?_ | refine HC.cond_no rfl ?_ | refine HL.one (H1.ldb rfl memA rfl rfl ?_) | refine HC.cond rfl (fun hc => ?_) (fun hc => ?_) | refine HC.cond_b rfl (fun hc => ?_) (fun hc => ?_))
  exact hQq.get) : G := hwq ⟨x⟩
def nats (l : List Nat) : List Value := l.map fun n : Nat => zv (n : Int)
theorem nats_get {l : List Nat} {i : Nat} (h : i < l.length) : (nats l)[i]? = some (zv ((l[i] : Nat) : Int)) := by simp [nats, h]
def ws (l : List UInt32) : List Value := l.map w32
theorem mixW_take {x : UInt32} {l : List Nat} {i : Nat} (h : i < l.length) : mixW x (l.take (i + 1)) = mixW x (l.take i) ^^^ rot x l[i] := by
 unfold mixW
 rw [List.take_succ_eq_append_getElem h, List.foldl_append]; rfl
theorem wrap_neg {n : Nat} (h0 : 0 < n) (h : n < 32) : IntKind.u64.wrap (-(n : Int)) = ((18446744073709551616 - n : Nat) : Int) := by
 simp [IntKind.wrap, IntKind.bits, IntKind.signed]; omega
attribute [local irreducible] WC WL WX POp Then Again Fn NX W1 WA WO QL RP RA Yld LoopAt HC HL HX HN H1 HA HO HQ HB HP A.blk A.grow A.rd A.obj A.mp AgainH CutH
theorem rotate_fn (x : UInt32) (n : Nat) (h0 : 0 < n) (h : n < 32) (w : World) : Fn Tryz.prog 198 #[w32 x, zv (-(n : Int))] w fun v w' => v = w32 (rot x n) ∧ w = w' := by
 have hand : (18446744073709551616 - n) &&& 31 = 32 - n := by
  rw [show 31 = 2 ^ 5 - 1 from rfl, Nat.and_two_pow_sub_one_eq_mod]; omega
 refine enter (l := [_, _]) rfl Tryz.ntmps198 rfl ?_
 repeat' (first | apply WL.fold | apply WA.fold | apply WL.nil | apply WX.n_then | apply WC.seq | apply WC.region | refine WL.pa ?_ | refine WL.ga rfl ?_ | refine WL.na rfl ?_ | refine WL.nu rfl rfl ?_ | apply WC.block | apply WC.skip | apply WC.exit | apply WC.ret | apply WX.e_block | refine WX.e_other rfl ?_ | apply WX.e_then | apply WX.e_again | apply WX.n_block | apply WX.r_then | apply WX.r_block | apply WX.r_again | refine WC.cond_yes rfl ?_ | refine WC.cond_no rfl ?_ | refine WC.cond rfl (fun hc => ?_) (fun hc => ?_) | refine WC.cond_b rfl (fun hc => ?_) (fun hc => ?_))
 refine WL.pa ?_ ((POp.conv (k' := .u64) rfl).of (v' := .int .u64 ((18446744073709551616 - n : Nat) : Int)) (by rw [wrap_neg h0 h]))
 repeat' (first | apply WL.fold | apply WA.fold | apply WL.nil | apply WX.n_then | apply WC.seq | apply WC.region | refine WL.pa ?_ | refine WL.ga rfl ?_ | refine WL.na rfl ?_ | refine WL.nu rfl rfl ?_ | apply WC.block | apply WC.skip | apply WC.exit | apply WC.ret | apply WX.e_block | refine WX.e_other rfl ?_ | apply WX.e_then | apply WX.e_again | apply WX.n_block | apply WX.r_then | apply WX.r_block | apply WX.r_again | refine WC.cond_yes rfl ?_ | refine WC.cond_no rfl ?_ | refine WC.cond rfl (fun hc => ?_) (fun hc => ?_) | refine WC.cond_b rfl (fun hc => ?_) (fun hc => ?_))
 refine WL.pa ?_ (POp.and64 (b := 31) rfl rfl rfl rfl (by omega) (by decide))
 rw [hand]
 repeat' (first | apply WL.fold | apply WA.fold | apply WL.nil | apply WX.n_then | apply WC.seq | apply WC.region | refine WL.pa ?_ | refine WL.ga rfl ?_ | refine WL.na rfl ?_ | refine WL.nu rfl rfl ?_ | apply WC.block | apply WC.skip | apply WC.exit | apply WC.ret | apply WX.e_block | refine WX.e_other rfl ?_ | apply WX.e_then | apply WX.e_again | apply WX.n_block | apply WX.r_then | apply WX.r_block | apply WX.r_again | refine WC.cond_yes rfl ?_ | refine WC.cond_no rfl ?_ | refine WC.cond rfl (fun hc => ?_) (fun hc => ?_) | refine WC.cond_b rfl (fun hc => ?_) (fun hc => ?_))
 refine WL.pa ?_ (POp.sub64 (a := 32) (b := 32 - n) rfl rfl rfl rfl (by omega) (by decide))
 rw [show 32 - (32 - n) = n from by omega]
 repeat' (first | apply WL.fold | apply WA.fold | apply WL.nil | apply WX.n_then | apply WC.seq | apply WC.region | refine WL.pa ?_ | refine WL.ga rfl ?_ | refine WL.na rfl ?_ | refine WL.nu rfl rfl ?_ | apply WC.block | apply WC.skip | apply WC.exit | apply WC.ret | apply WX.e_block | refine WX.e_other rfl ?_ | apply WX.e_then | apply WX.e_again | apply WX.n_block | apply WX.r_then | apply WX.r_block | apply WX.r_again | refine WC.cond_yes rfl ?_ | refine WC.cond_no rfl ?_ | refine WC.cond rfl (fun hc => ?_) (fun hc => ?_) | refine WC.cond_b rfl (fun hc => ?_) (fun hc => ?_))
 exact WX.ret1 rfl rfl ⟨rfl, rfl⟩
theorem mixed_fn (x : UInt32) (l : List Nat) (hl : ∀ n ∈ l, 0 < n ∧ n < 32) {b c : Nat} (w : World) (hr : Rd w (.slice (some ⟨b, 0, none⟩) l.length c) (nats l)) (hs : l.length ≤ 1000) :
  Fn Tryz.prog 174 #[w32 x, .slice (some ⟨b, 0, none⟩) l.length c] w fun v w' => v = w32 (mixW x l) ∧ w = w' := by
 refine enter (l := [_, _]) rfl Tryz.ntmps174 rfl ?_
 repeat' (first | apply WL.fold | apply WA.fold | apply WL.nil | apply WX.n_then | apply WC.seq | apply WC.region | refine WL.pa ?_ | refine WL.ga rfl ?_ | refine WL.na rfl ?_ | refine WL.nu rfl rfl ?_ | apply WC.block | apply WC.skip | apply WC.exit | apply WC.ret | apply WX.e_block | refine WX.e_other rfl ?_ | apply WX.e_then | apply WX.e_again | apply WX.n_block | apply WX.r_then | apply WX.r_block | apply WX.r_again | refine WC.cond_yes rfl ?_ | refine WC.cond_no rfl ?_ | refine WC.cond rfl (fun hc => ?_) (fun hc => ?_) | refine WC.cond_b rfl (fun hc => ?_) (fun hc => ?_))
 refine WC.loop (α := Nat) (fun i => [(0, w32 x), (5, w32 (mixW x (l.take i))), (8, .slice (some ⟨b, 0, none⟩) l.length c), (9, zv (l.length : Int)), (10, zv (i : Int))])
  (fun i w' => i ≤ l.length ∧ w' = w) (fun i => l.length - i) 0 esA ⟨by omega, rfl⟩ ?_
 rintro i w' ⟨hi, rfl⟩
 by_cases hlt : i < l.length
 ·have hn := hl _ (List.getElem_mem hlt)
  have hm := mixW_take (x := x) hlt
  have hc := hr.cell (nats_get hlt)
  rw [Nat.zero_add] at hc
  generalize l[i] = n at hn hm hc
  repeat' (first | apply WL.fold | apply WA.fold | apply WL.nil | apply WX.n_then | apply WC.seq | apply WC.region | refine WL.pa ?_ | refine WL.ga rfl ?_ | refine WL.na rfl ?_ | refine WL.nu rfl rfl ?_ | apply WC.block | apply WC.skip | apply WC.exit | apply WC.ret | apply WX.e_block | refine WX.e_other rfl ?_ | apply WX.e_then | apply WX.e_again | apply WX.n_block | apply WX.r_then | apply WX.r_block | apply WX.r_again | refine WC.cond_yes rfl ?_ | refine WC.cond_no rfl ?_ | refine WC.cond rfl (fun hc => ?_) (fun hc => ?_) | refine WC.cond_b rfl (fun hc => ?_) (fun hc => ?_))
  refine WL.load rfl hc rfl ?_
  repeat' (first | apply WL.fold | apply WA.fold | apply WL.nil | apply WX.n_then | apply WC.seq | apply WC.region | refine WL.pa ?_ | refine WL.ga rfl ?_ | refine WL.na rfl ?_ | refine WL.nu rfl rfl ?_ | apply WC.block | apply WC.skip | apply WC.exit | apply WC.ret | apply WX.e_block | refine WX.e_other rfl ?_ | apply WX.e_then | apply WX.e_again | apply WX.n_block | apply WX.r_then | apply WX.r_block | apply WX.r_again | refine WC.cond_yes rfl ?_ | refine WC.cond_no rfl ?_ | refine WC.cond rfl (fun hc => ?_) (fun hc => ?_) | refine WC.cond_b rfl (fun hc => ?_) (fun hc => ?_))
  refine WL.call rfl rfl (rotate_fn x n hn.1 hn.2 w') ?_
  rintro v w2 ⟨rfl, rfl⟩
  repeat' (first | apply WL.fold | apply WA.fold | apply WL.nil | apply WX.n_then | apply WC.seq | apply WC.region | refine WL.pa ?_ | refine WL.ga rfl ?_ | refine WL.na rfl ?_ | refine WL.nu rfl rfl ?_ | apply WC.block | apply WC.skip | apply WC.exit | apply WC.ret | apply WX.e_block | refine WX.e_other rfl ?_ | apply WX.e_then | apply WX.e_again | apply WX.n_block | apply WX.r_then | apply WX.r_block | apply WX.r_again | refine WC.cond_yes rfl ?_ | refine WC.cond_no rfl ?_ | refine WC.cond rfl (fun hc => ?_) (fun hc => ?_) | refine WC.cond_b rfl (fun hc => ?_) (fun hc => ?_))
  refine WX.again (i + 1) ⟨hlt, rfl⟩ (by show l.length - (i + 1) < l.length - i; omega) ?_
  rw [hm]; repeat (first | exact trivial | refine ⟨rfl, ?_⟩)
 ·obtain rfl : i = l.length := by omega
  rw [List.take_length]
  repeat' (first | apply WL.fold | apply WA.fold | apply WL.nil | apply WX.n_then | apply WC.seq | apply WC.region | refine WL.pa ?_ | refine WL.ga rfl ?_ | refine WL.na rfl ?_ | refine WL.nu rfl rfl ?_ | apply WC.block | apply WC.skip | apply WC.exit | apply WC.ret | apply WX.e_block | refine WX.e_other rfl ?_ | apply WX.e_then | apply WX.e_again | apply WX.n_block | apply WX.r_then | apply WX.r_block | apply WX.r_again | refine WC.cond_yes rfl ?_ | refine WC.cond_no rfl ?_ | refine WC.cond rfl (fun hc => ?_) (fun hc => ?_) | refine WC.cond_b rfl (fun hc => ?_) (fun hc => ?_))
  exact WX.ret1 rfl rfl ⟨rfl, rfl⟩
end Go.Sx
/- Chapter 2: the words of a block, and what a block does to a state: the walks. -/
namespace Go.Sx
open Go Go.Proofs Go.RowKit
def schW (l : List UInt8) (i : Nat) : List Value := row 64 fun j => w32 (if j < i then wW l j else 0)
theorem schW_get {l : List UInt8} {i j : Nat} (h : j < i) (hj : j < 64) : (schW l i)[j]? = some (w32 (wW l j)) := by
 unfold schW
 rw [row_get _ hj, if_pos h]
theorem schW_set {l : List UInt8} {i : Nat} (h : i < 64) : (schW l i).set i (w32 (wW l i)) = schW l (i + 1) := by
 unfold schW
 rw [row_set]
 refine row_congr fun j _ => ?_
 by_cases e : j = i
 ·subst e; rw [if_pos rfl, if_pos (Nat.lt_succ_self _)]
 ·have : (j < i + 1) = (j < i) := by simp only [eq_iff_iff]; omega
  rw [if_neg e]; simp only [this]
theorem schW_len (l : List UInt8) (i : Nat) : (schW l i).length = 64 := row_len _ _
theorem row_one' {n : Nat} {f : Nat → Value} (h : ∀ i, (f i).oneCell' = true) : ∀ v ∈ row n f, v.oneCell' = true := by
 intro v hv
 obtain ⟨i, -, rfl⟩ := List.mem_map.1 hv
 exact h i
theorem ub_at {w : World} {b off n c : Nat} {l : List UInt8} (h : Rd w (.slice (some ⟨b, off, none⟩) n c) (ub l)) {i : Nat} (hi : i < l.length) : w.cell? ⟨b, off + i, none⟩ = some (b8 (l.getD i 0)) := by
 have : (ub l)[i]? = some (b8 (l.getD i 0)) := by simp [ub, hi]
 exact h.cell this
theorem blk_rd {w : World} {b n : Nat} {cs : List Value} {e : TypeId} (h : Blk w b cs e) (hn : cs.length = n) : Rd w (.slice (some ⟨b, 0, none⟩) n n) cs := by
 have := Rd.of_blk (l := n) (c := n) h (Nat.le_of_eq hn.symm) (Nat.le_refl _)
 rwa [← hn, List.take_length, hn] at this
attribute [local irreducible] WC WL WX POp Then Again Fn NX W1 WA WO QL RP RA Yld LoopAt HC HL HX HN H1 HA HO HQ HB HP A.blk A.grow A.rd A.obj A.mp AgainH CutH
attribute [local irreducible] wordAt mixW
theorem qwA {G G2 : Prop} (x : G2) (hwq : Hold G2 → G := by
  intro hQq
  repeat' (first | refine HQ.pa ?_ | refine HQ.ga rfl ?_ | refine HQ.na rfl ?_ | refine HQ.nu rfl ?_ | refine HQ.ldb rfl memA rfl rfl ?_)
  exact hQq.get) : G := hwq ⟨x⟩
set_option maxRecDepth 100000 in
set_option maxHeartbeats 4000000 in
theorem schedule_fn {bb off c : Nat} (l : List UInt8) (hl : l.length = 64) (w : World) (hr : Rd w (.slice (some ⟨bb, off, none⟩) 64 c) (ub l)) :
  Fn Tryz.prog 173 #[.slice (some ⟨bb, off, none⟩) 64 c] w fun v w' => v = .agg (schW l 64).toArray ∧ Ext w w' := by
 refine enterH (l := [_]) rfl Tryz.ntmps173 rfl ?_
 refine hwNE ?_
 refine HL.one (H1.alloc (cs := schW l 0) (by kernel_rfl) rfl (fun b2 => ?_))
 refine hbDD ?_
 refine HC.cut (α := Unit) (fun _ => [(0, .slice (some ⟨bb, off, none⟩) 64 c), (2, .pointer (some ⟨b2, 0, none⟩))]) (fun _ => [A.blk b2 (schW l 16) 222]) (fun _ => True) ?_ ?_
 ·repeat refine HC.seq ?_
  refine hwNE ?_
  refine HC.loop (α := Nat) (fun i => [(0, .slice (some ⟨bb, off, none⟩) 64 c), (2, .pointer (some ⟨b2, 0, none⟩)), (7, zv (i : Int))]) (fun i => [A.blk b2 (schW l i) 222]) (fun i => i ≤ 16) (fun i => 16 - i) 0 (Nat.zero_le _) esA (Hs.refl _) ?_
  rintro i hi
  by_cases hlt : i < 16
  ·have h0 := ub_at hr (i := 4 * i) (by omega)
   have h1 := ub_at hr (i := 4 * i + 1) (by omega)
   have h2 := ub_at hr (i := 4 * i + 2) (by omega)
   have h3 := ub_at hr (i := 4 * i + 3) (by omega)
   have hset := schW_set (l := l) (i := i) (by omega)
   rw [wW_lo hlt] at hset
   unfold wordAt bt at hset
   refine hwNE ?_
   refine HC.anyC ([(⟨bb, off + 4 * i, none⟩, b8 (l.getD (4 * i) 0)), (⟨bb, off + (4 * i + 1), none⟩, b8 (l.getD (4 * i + 1) 0)), (⟨bb, off + (4 * i + 2), none⟩, b8 (l.getD (4 * i + 2) 0)), (⟨bb, off + (4 * i + 3), none⟩, b8 (l.getD (4 * i + 3) 0))]) rfl ?_
   refine HB.pa 0 rfl ?_
   refine HB.pa 1 rfl ?_
   refine HB.pa 2 rfl ?_
   refine HB.pa 3 rfl ?_
   refine HB.pa 4 rfl ?_ (POp.index_slice (o := off + 4 * i) rfl rfl (by omega) (by omega) (by omega))
   refine HB.ld 5 rfl rfl memD ?_
   refine HB.pa 6 rfl ?_
   refine HB.pa 7 rfl ?_
   refine HB.pa 8 rfl ?_
   refine HB.pa 9 rfl ?_
   refine HB.pa 10 rfl ?_
   refine HB.pa 11 rfl ?_
   refine HB.pa 12 rfl ?_ (POp.index_slice (o := off + (4 * i + 1)) rfl rfl (by omega) (by omega) (by omega))
   refine HB.ld 13 rfl rfl memD ?_
   refine HB.pa 14 rfl ?_
   refine HB.pa 15 rfl ?_
   refine HB.pa 16 rfl ?_
   refine HB.pa 17 rfl ?_
   refine HB.pa 18 rfl ?_
   refine HB.pa 19 rfl ?_
   refine HB.pa 20 rfl ?_
   refine HB.pa 21 rfl ?_ (POp.index_slice (o := off + (4 * i + 2)) rfl rfl (by omega) (by omega) (by omega))
   refine HB.ld 22 rfl rfl memD ?_
   refine HB.pa 23 rfl ?_
   refine HB.pa 24 rfl ?_
   refine HB.pa 25 rfl ?_
   refine HB.pa 26 rfl ?_
   refine HB.pa 27 rfl ?_
   refine HB.pa 28 rfl ?_
   refine HB.pa 29 rfl ?_
   refine HB.pa 30 rfl ?_ (POp.index_slice (o := off + (4 * i + 3)) rfl rfl (by omega) (by omega) (by omega))
   refine HB.ld 31 rfl rfl memD ?_
   refine HB.pa 32 rfl ?_
   refine HB.pa 33 rfl ?_
   refine HB.pa 34 rfl ?_
   refine HB.all (by (exact Keep.base h0 (Keep.base h1 (Keep.base h2 (Keep.base h3 Keep.nil))))) [35] (by kernel_rfl) rfl ⟨⟨_, rfl, ?_⟩, trivial⟩
   refine HP.one ?_
   refine H1.st (b := b2) rfl rfl (by intro _ h; cases h) (by intro _ h; cases h) rplA (by rw [schW_len]; omega) ?_
   rw [hset]
   apply HB.fold
   refine HB.done (by (exact Keep.base h0 (Keep.base h1 (Keep.base h2 (Keep.base h3 Keep.nil))))) (by kernel_rfl) ?_
   refine hwNE ?_
   exact HX.again (i + 1) hlt (by show 16 - (i + 1) < 16 - i; omega) esA (Hs.refl _)
  ·obtain rfl : i = 16 := by omega
   refine hwNE ?_
   exact HX.cut () trivial esA (Hs.refl _)
 rintro - -
 refine hwNE ?_
 refine HC.loop (α := Nat) (fun i => [(2, .pointer (some ⟨b2, 0, none⟩)), (4, zv (i : Int))]) (fun i => [A.blk b2 (schW l i) 222]) (fun i => 16 ≤ i ∧ i ≤ 64) (fun i => 64 - i) 16 ⟨Nat.le_refl _, by omega⟩ esA (Hs.refl _) ?_
 rintro i ⟨hi0, hi⟩
 by_cases hlt : i < 64
 ·have g2 := schW_get (l := l) (i := i) (j := i - 2) (by omega) (by omega)
  have g7 := schW_get (l := l) (i := i) (j := i - 7) (by omega) (by omega)
  have g15 := schW_get (l := l) (i := i) (j := i - 15) (by omega) (by omega)
  have g16 := schW_get (l := l) (i := i) (j := i - 16) (by omega) (by omega)
  have k7 := schW_get (l := l) (i := i + 1) (j := i - 7) (by omega) (by omega)
  have k16 := schW_get (l := l) (i := i + 1) (j := i - 16) (by omega) (by omega)
  have hset := schW_set (l := l) (i := i) hlt
  rw [wW_hi (by omega)] at hset
  have e2 : ((i : Int) - 2).toNat = i - 2 := by omega
  have e15 : ((i : Int) - 15).toNat = i - 15 := by omega
  refine hwNE ?_
  refine HC.quietS [(some 50, [4], []), (some 51, [50], [0]), (some 52, [2, 51], [1]), (some 53, [52], [2]), (some 54, [4], []), (some 55, [54], [4]), (some 56, [2, 55], [5]), (some 57, [56], [6]), (some 5, [53], [3, 0, 1, 2, 3]), (some 6, [57], [7, 8, 0, 1, 2, 3, 4, 5, 6, 7, 8])] (by kernel_rfl) (by kernel_rfl) (by kernel_rfl) ?_
  refine qwA ?_
  rw [e15]
  refine HQ.ldb rfl memA g15 rfl ?_
  refine qwA ?_
  rw [e2]
  refine HQ.ldb rfl memA g2 rfl ?_
  refine qwA ?_
  refine HQ.nil ?_
  refine hwNE ?_
  refine HC.anyC ([(⟨b2, i - 16, none⟩, w32 (wW l (i - 16))), (⟨b2, i - 7, none⟩, w32 (wW l (i - 7)))]) rfl ?_
  refine HB.pa 0 rfl ?_
  refine HB.pa 1 rfl ?_
  refine HB.pa 2 rfl ?_
  refine HB.pa 3 rfl ?_ (POp.index_array (o := i - 16) rfl rfl (by omega) (by omega) (by omega))
  refine HB.ld 4 rfl rfl memD ?_
  refine HB.pa 5 rfl ?_
  refine HB.pa 8 rfl ?_
  refine HB.pa 9 rfl ?_
  refine HB.pa 12 rfl ?_
  refine HB.pa 13 rfl ?_
  refine HB.pa 14 rfl ?_ (POp.index_array (o := i - 7) rfl rfl (by omega) (by omega) (by omega))
  refine HB.ld 15 rfl rfl memD ?_
  refine HB.pa 17 rfl ?_
  refine HB.pa 20 rfl ?_
  refine HB.pa 21 rfl ?_
  refine HB.all (by (first | exact Keep.blk memD g16 (Keep.blk memD g7 Keep.nil) | exact Keep.blk memD k16 (Keep.blk memD k7 Keep.nil))) [6, 18] (by kernel_rfl) rfl ⟨⟨_, rfl, ?_⟩, ⟨_, rfl, ?_⟩, trivial⟩
  ·refine HP.one ?_
   refine H1.lit (cs := nats [7, 18]) rfl rfl rfl rfl rfl rfl (fun b6 => ?_)
   apply HB.fold
   refine HB.all (by (first | exact Keep.blk memD g16 (Keep.blk memD g7 Keep.nil) | exact Keep.blk memD k16 (Keep.blk memD k7 Keep.nil))) [7, 18] (by kernel_rfl) rfl ⟨⟨_, rfl, ?_⟩, ⟨_, rfl, ?_⟩, trivial⟩
   ·refine HP.one ?_
    refine H1.call0 rfl rfl (fun w' hM => mixed_fn (wW l (i - 15)) [7, 18] (by decide) w' (blk_rd (hM.blk memA) rfl) (by decide)) ?_
    apply HB.fold
    refine HB.pa 10 rfl ?_
    refine HB.pa 11 rfl ?_
    refine HB.pa 16 rfl ?_
    refine HB.all (by (first | exact Keep.blk memD g16 (Keep.blk memD g7 Keep.nil) | exact Keep.blk memD k16 (Keep.blk memD k7 Keep.nil))) [18] (by kernel_rfl) rfl ⟨⟨_, rfl, ?_⟩, trivial⟩
    refine HP.one ?_
    refine H1.lit (cs := nats [17, 19]) rfl rfl rfl rfl rfl rfl (fun b18 => ?_)
    apply HB.fold
    refine HB.all (by (first | exact Keep.blk memD g16 (Keep.blk memD g7 Keep.nil) | exact Keep.blk memD k16 (Keep.blk memD k7 Keep.nil))) [19] (by kernel_rfl) rfl ⟨⟨_, rfl, ?_⟩, trivial⟩
    refine HP.one ?_
    refine H1.call0 rfl rfl (fun w' hM => mixed_fn (wW l (i - 2)) [17, 19] (by decide) w' (blk_rd (hM.blk memA) rfl) (by decide)) ?_
    apply HB.fold
    refine HB.pa 22 rfl ?_
    refine HB.pa 23 rfl ?_
    refine HB.pa 24 rfl ?_
    refine HB.all (by (first | exact Keep.blk memD g16 (Keep.blk memD g7 Keep.nil) | exact Keep.blk memD k16 (Keep.blk memD k7 Keep.nil))) [25] (by kernel_rfl) rfl ⟨⟨_, rfl, ?_⟩, trivial⟩
    refine HP.one ?_
    refine H1.st (b := b2) rfl rfl (by intro _ h; cases h) (by intro _ h; cases h) rplA (by rw [schW_len]; omega) ?_
    rw [hset]
    apply HB.fold
    refine HB.done (by (first | exact Keep.blk memD g16 (Keep.blk memD g7 Keep.nil) | exact Keep.blk memD k16 (Keep.blk memD k7 Keep.nil))) (by kernel_rfl) ?_
    refine hwNE ?_
    exact HX.again (i + 1) ⟨by omega, hlt⟩ (by show 64 - (i + 1) < 64 - i; omega) esA (by repeat (first | exact Hs.nil _ | (refine Hs.cons pickA ?_)))
   ·refine HP.one ?_
    refine H1.lit (cs := nats [17, 19]) rfl rfl rfl rfl rfl rfl (fun b18 => ?_)
    apply HB.fold
    refine HB.all (by (first | exact Keep.blk memD g16 (Keep.blk memD g7 Keep.nil) | exact Keep.blk memD k16 (Keep.blk memD k7 Keep.nil))) [7] (by kernel_rfl) rfl ⟨⟨_, rfl, ?_⟩, trivial⟩
    refine HP.one ?_
    refine H1.call0 rfl rfl (fun w' hM => mixed_fn (wW l (i - 15)) [7, 18] (by decide) w' (blk_rd (hM.blk memA) rfl) (by decide)) ?_
    apply HB.fold
    refine HB.pa 10 rfl ?_
    refine HB.pa 11 rfl ?_
    refine HB.pa 16 rfl ?_
    refine HB.all (by (first | exact Keep.blk memD g16 (Keep.blk memD g7 Keep.nil) | exact Keep.blk memD k16 (Keep.blk memD k7 Keep.nil))) [19] (by kernel_rfl) rfl ⟨⟨_, rfl, ?_⟩, trivial⟩
    refine HP.one ?_
    refine H1.call0 rfl rfl (fun w' hM => mixed_fn (wW l (i - 2)) [17, 19] (by decide) w' (blk_rd (hM.blk memA) rfl) (by decide)) ?_
    apply HB.fold
    refine HB.pa 22 rfl ?_
    refine HB.pa 23 rfl ?_
    refine HB.pa 24 rfl ?_
    refine HB.all (by (first | exact Keep.blk memD g16 (Keep.blk memD g7 Keep.nil) | exact Keep.blk memD k16 (Keep.blk memD k7 Keep.nil))) [25] (by kernel_rfl) rfl ⟨⟨_, rfl, ?_⟩, trivial⟩
    refine HP.one ?_
    refine H1.st (b := b2) rfl rfl (by intro _ h; cases h) (by intro _ h; cases h) rplA (by rw [schW_len]; omega) ?_
    rw [hset]
    apply HB.fold
    refine HB.done (by (first | exact Keep.blk memD g16 (Keep.blk memD g7 Keep.nil) | exact Keep.blk memD k16 (Keep.blk memD k7 Keep.nil))) (by kernel_rfl) ?_
    refine hwNE ?_
    exact HX.again (i + 1) ⟨by omega, hlt⟩ (by show 64 - (i + 1) < 64 - i; omega) esA (by repeat (first | exact Hs.nil _ | (refine Hs.cons pickA ?_)))
  ·refine HP.one ?_
   refine H1.lit (cs := nats [17, 19]) rfl rfl rfl rfl rfl rfl (fun b18 => ?_)
   apply HB.fold
   refine HB.all (by (first | exact Keep.blk memD g16 (Keep.blk memD g7 Keep.nil) | exact Keep.blk memD k16 (Keep.blk memD k7 Keep.nil))) [6] (by kernel_rfl) rfl ⟨⟨_, rfl, ?_⟩, trivial⟩
   refine HP.one ?_
   refine H1.lit (cs := nats [7, 18]) rfl rfl rfl rfl rfl rfl (fun b6 => ?_)
   apply HB.fold
   refine HB.all (by (first | exact Keep.blk memD g16 (Keep.blk memD g7 Keep.nil) | exact Keep.blk memD k16 (Keep.blk memD k7 Keep.nil))) [7] (by kernel_rfl) rfl ⟨⟨_, rfl, ?_⟩, trivial⟩
   refine HP.one ?_
   refine H1.call0 rfl rfl (fun w' hM => mixed_fn (wW l (i - 15)) [7, 18] (by decide) w' (blk_rd (hM.blk memA) rfl) (by decide)) ?_
   apply HB.fold
   refine HB.pa 10 rfl ?_
   refine HB.pa 11 rfl ?_
   refine HB.pa 16 rfl ?_
   refine HB.all (by (first | exact Keep.blk memD g16 (Keep.blk memD g7 Keep.nil) | exact Keep.blk memD k16 (Keep.blk memD k7 Keep.nil))) [19] (by kernel_rfl) rfl ⟨⟨_, rfl, ?_⟩, trivial⟩
   refine HP.one ?_
   refine H1.call0 rfl rfl (fun w' hM => mixed_fn (wW l (i - 2)) [17, 19] (by decide) w' (blk_rd (hM.blk memA) rfl) (by decide)) ?_
   apply HB.fold
   refine HB.pa 22 rfl ?_
   refine HB.pa 23 rfl ?_
   refine HB.pa 24 rfl ?_
   refine HB.all (by (first | exact Keep.blk memD g16 (Keep.blk memD g7 Keep.nil) | exact Keep.blk memD k16 (Keep.blk memD k7 Keep.nil))) [25] (by kernel_rfl) rfl ⟨⟨_, rfl, ?_⟩, trivial⟩
   refine HP.one ?_
   refine H1.st (b := b2) rfl rfl (by intro _ h; cases h) (by intro _ h; cases h) rplA (by rw [schW_len]; omega) ?_
   rw [hset]
   apply HB.fold
   refine HB.done (by (first | exact Keep.blk memD g16 (Keep.blk memD g7 Keep.nil) | exact Keep.blk memD k16 (Keep.blk memD k7 Keep.nil))) (by kernel_rfl) ?_
   refine hwNE ?_
   exact HX.again (i + 1) ⟨by omega, hlt⟩ (by show 64 - (i + 1) < 64 - i; omega) esA (by repeat (first | exact Hs.nil _ | (refine Hs.cons pickA ?_)))
 ·obtain rfl : i = 64 := by omega
  refine hwNE ?_
  refine HL.one (H1.ldAgg (vs := schW l 64) rfl memA (schW_len _ _) (fun i v h => by rwa [Nat.zero_add]) rfl ?_)
  refine hwNE ?_
  refine HL.one (H1.stAgg rfl rfl (schW_len _ _) (row_one' fun _ => rfl) rplA rfl ?_)
  refine hwNE ?_
  exact HX.retc1 rfl rfl memA (schW_len _ _) fun w' hM => ⟨rfl, hM.ext⟩
end Go.Sx
/- Chapter 2: what a block does to a state: the walk. -/
namespace Go.Sx
open Go Go.Proofs Go.RowKit
theorem hbDE {G G2 : Prop} (x : G2) (hwq : Hold G2 → G := by
  intro hQq
  repeat' (first | refine HL.pa ?_ (POp.nilCheck rfl) | apply HL.fold | apply HA.fold | apply HL.nil | apply HX.n_then | apply HC.seq | apply HC.region | refine HL.pa ?_ | refine HL.ga rfl ?_ | refine HL.na rfl ?_ | refine HL.nu rfl rfl ?_ | apply HC.skip | apply HC.exit | apply HC.ret | apply HX.e_block | refine HX.e_other rfl ?_ | apply HX.e_then | apply HX.e_again | apply HX.n_block | apply HX.r_then | apply HX.r_block | apply HX.r_again | refine HC.cond_yes rfl ?_ | refine HC.cond_no rfl ?_ | refine HL.one (H1.ldb rfl memA rfl rfl ?_) | refine HC.cond rfl (fun hc => ?_) (fun hc => ?_) | refine HC.cond_b rfl (fun hc => ?_) (fun hc => ?_))
  exact hQq.get) : G := hwq ⟨x⟩
def RoundG (w : World) : Prop := ∀ i v, (ws kL)[i]? = some v → w.cell? ⟨0, i, none⟩ = some v
theorem RoundG.ext {w w' : World} (h : RoundG w) (k : Ext w w') : RoundG w' := fun i v hv => cell_ext k (h i v hv)
theorem kL_len : kL.length = 64 := rfl
theorem kW_get {i : Nat} (h : i < 64) : (ws kL)[i]? = some (w32 (kW i)) := by
 have : i < kL.length := h
 unfold kW ws
 rw [List.getElem?_map, List.getD_eq_getElem?_getD, List.getElem?_eq_getElem this]; rfl
def addL (s v : S8) (i : Nat) : List Value := row 8 fun j => w32 (if j < i then s.l.getD j 0 + v.l.getD j 0 else s.l.getD j 0)
theorem addL_get {s v : S8} {i : Nat} (h : i < 8) : (addL s v i)[i]? = some (w32 (s.l.getD i 0)) := by
 unfold addL
 rw [row_get _ h, if_neg (Nat.lt_irrefl _)]
theorem addL_set {s v : S8} {i : Nat} : (addL s v i).set i (w32 (s.l.getD i 0 + v.l.getD i 0)) = addL s v (i + 1) := by
 unfold addL
 rw [row_set]
 refine row_congr fun j _ => ?_
 by_cases e : j = i
 ·subst e; rw [if_pos rfl, if_pos (Nat.lt_succ_self _)]
 ·have : (j < i + 1) = (j < i) := by simp only [eq_iff_iff]; omega
  rw [if_neg e]; simp only [this]
theorem S8.get {s : S8} {i : Nat} (h : i < 8) : (ws s.l)[i]? = some (w32 (s.l.getD i 0)) := by
 have : i < s.l.length := h
 unfold ws
 rw [List.getElem?_map, List.getD_eq_getElem?_getD, List.getElem?_eq_getElem this]; rfl
theorem ws_one {l : List UInt32} : ∀ v ∈ ws l, v.oneCell' = true := by
 intro v hv
 obtain ⟨x, -, rfl⟩ := List.mem_map.1 hv
 rfl
attribute [local irreducible] WC WL WX POp Then Again Fn NX W1 WA WO QL RP RA Yld LoopAt HC HL HX HN H1 HA HO HQ HB HP A.blk A.grow A.rd A.obj A.mp AgainH CutH
attribute [local irreducible] mixW kL
set_option maxRecDepth 100000 in
set_option maxHeartbeats 4000000 in
theorem add_fn {w0 w : World} {H : List Atom} {bh bb off c : Nat} (s : S8) (l : List UInt8) (hl : l.length = 64) (hG : RoundG w0) (hM : Mm w0 (A.blk bh (ws s.l) 185 :: H) w)
  (hr : ∀ w', Mm w0 H w' → Rd w' (.slice (some ⟨bb, off, none⟩) 64 c) (ub l)) :
  Fn Tryz.prog 149 #[.pointer (some ⟨bh, 0, none⟩), .slice (some ⟨bb, off, none⟩) 64 c] w fun v w' => v = .tuple #[] ∧ Mm w0 (A.blk bh (ws (comp s l).l) 185 :: H) w' := by
 refine enterK (l := [_, _]) hM rfl Tryz.ntmps149 rfl ?_
 refine hbDE ?_
 refine HL.one (H1.callx (vs := [_]) rfl rfl (fun w' hM => schedule_fn l hl w' (hr w' hM.tail)) ?_)
 refine hbDE ?_
 refine HL.one (H1.alloc (cs := schW l 0) (by kernel_rfl) rfl (fun b4 => ?_))
 refine hbDE ?_
 refine HL.one (H1.stAgg (cs := schW l 0) rfl rfl (schW_len _ _) (row_one' fun _ => rfl) rplA (by rw [schW_len, schW_len]) ?_)
 refine hbDE ?_
 refine HL.one (H1.ldAgg (vs := ws s.l) rfl memA rfl (fun i v h => by rwa [Nat.zero_add]) rfl ?_)
 refine hbDE ?_
 refine HL.one (H1.alloc (cs := List.replicate 8 (.int .u32 0)) (by kernel_rfl) rfl (fun b5 => ?_))
 refine hbDE ?_
 refine HL.one (H1.stAgg (cs := List.replicate 8 (.int .u32 0)) rfl rfl rfl ws_one rplA rfl ?_)
 refine hbDE ?_
 refine HL.one (H1.ldAggw (vs := ws kL) rfl (by unfold ws; rw [List.length_map, kL_len]) (fun w' hM i v hv => by rw [Nat.zero_add]; exact cell_ext hM.ext (hG i v hv)) rfl ?_)
 refine hbDE ?_
 refine HC.cut (α := Unit) (fun _ => [(0, .pointer (some ⟨bh, 0, none⟩)), (5, .pointer (some ⟨b5, 0, none⟩))]) (fun _ => A.blk b5 (ws (rnds l s 64).l) 185 :: A.blk bh (ws s.l) 185 :: H) (fun _ => True) ?_ ?_
 ·repeat refine HC.seq ?_
  refine HC.block ?_
  refine HC.loop (α := Nat) (fun i => [(0, .pointer (some ⟨bh, 0, none⟩)), (4, .pointer (some ⟨b4, 0, none⟩)), (5, .pointer (some ⟨b5, 0, none⟩)), (18, .agg (ws kL).toArray), (19, zv (i : Int))])
   (fun i => A.blk b5 (ws (rnds l s i).l) 185 :: A.blk b4 (schW l 64) 222 :: A.blk bh (ws s.l) 185 :: H) (fun i => i ≤ 64) (fun i => 64 - i) 0 (Nat.zero_le _) esA (Hs.refl _) ?_
  rintro i hi
  by_cases hlt : i < 64
  ·have hk := kW_get hlt
   have hw := schW_get (l := l) (i := 64) hlt hlt
   have hstep : rnds l s (i + 1) = rnd (kW i) (wW l i) (rnds l s i) := rfl
   generalize rnds l s i = S at hstep
   refine hwNB ?_
   refine HL.pa ?_ (POp.index_agg (v := w32 (kW i)) rfl rfl rfl hlt hk)
   refine hwNB ?_
   refine HC.quietS [(some 23, [5], []), (some 24, [23], [0]), (some 25, [5], []), (some 26, [25], [2]), (some 8, [24], [1, 0, 1]), (some 9, [26], [3, 4, 0, 1, 2, 3, 4])] (by kernel_rfl) (by kernel_rfl) (by kernel_rfl) ?_
   refine qwA ?_
   refine HQ.nil ?_
   refine hwNB ?_
   refine HC.anyC ([(⟨b5, 7, none⟩, w32 S.h), (⟨b5, 5, none⟩, w32 S.f), (⟨b5, 6, none⟩, w32 S.g), (⟨b4, i, none⟩, w32 (wW l i))]) rfl ?_
   refine HB.pa 0 rfl ?_
   refine HB.ld 1 rfl rfl memD ?_
   refine HB.pa 2 rfl ?_
   refine HB.pa 6 rfl ?_
   refine HB.pa 7 rfl ?_
   refine HB.ld 8 rfl rfl memD ?_
   refine HB.pa 9 rfl ?_
   refine HB.pa 10 rfl ?_
   refine HB.pa 11 rfl ?_
   refine HB.pa 12 rfl ?_
   refine HB.ld 13 rfl rfl memD ?_
   refine HB.pa 14 rfl ?_
   refine HB.pa 15 rfl ?_
   refine HB.pa 17 rfl ?_
   refine HB.pa 19 rfl ?_
   refine HB.pa 20 rfl ?_
   refine HB.ld 21 rfl rfl memD ?_
   refine HB.all (by (exact Keep.blk (cs := ws S.l) memD rfl (Keep.blk (cs := ws S.l) memD rfl (Keep.blk (cs := ws S.l) memD rfl (Keep.blk memD hw Keep.nil))))) [3] (by kernel_rfl) rfl ⟨⟨_, rfl, ?_⟩, trivial⟩
   refine HP.one ?_
   refine H1.lit (cs := nats [6, 11, 25]) rfl rfl rfl rfl rfl rfl (fun b6 => ?_)
   apply HB.fold
   refine HB.all (by (exact Keep.blk (cs := ws S.l) memD rfl (Keep.blk (cs := ws S.l) memD rfl (Keep.blk (cs := ws S.l) memD rfl (Keep.blk memD hw Keep.nil))))) [4] (by kernel_rfl) rfl ⟨⟨_, rfl, ?_⟩, trivial⟩
   refine HP.one ?_
   refine H1.call0 rfl rfl (fun w' hM => mixed_fn S.e [6, 11, 25] (by decide) w' (blk_rd (hM.blk memA) rfl) (by decide)) ?_
   apply HB.fold
   refine HB.pa 5 rfl ?_
   refine HB.pa 16 rfl ?_
   refine HB.pa 18 rfl ?_
   refine HB.pa 22 rfl ?_
   refine HB.pa 23 rfl ?_
   refine HB.done (by (exact Keep.blk (cs := ws S.l) memD rfl (Keep.blk (cs := ws S.l) memD rfl (Keep.blk (cs := ws S.l) memD rfl (Keep.blk memD hw Keep.nil))))) (by kernel_rfl) ?_
   refine hwNB ?_
   refine HC.sub [(0, .pointer (some ⟨bh, 0, none⟩)), (4, .pointer (some ⟨b4, 0, none⟩)), (5, .pointer (some ⟨b5, 0, none⟩)), (18, .agg (ws kL).toArray), (19, zv (i : Int)), (8, w32 S.a), (10, w32 (rT (kW i) (wW l i) S))]
    (A.blk b5 (ws S.l) 185 :: A.blk b4 (schW l 64) 222 :: A.blk bh (ws s.l) 185 :: H) ?_ esA (Hs.refl _).skip
   refine HC.anyC ([(⟨b5, 1, none⟩, w32 S.b), (⟨b5, 2, none⟩, w32 S.c)]) rfl ?_
   refine HB.pa 0 rfl ?_
   refine HB.pa 3 rfl ?_
   refine HB.pa 4 rfl ?_
   refine HB.ld 5 rfl rfl memD ?_
   refine HB.pa 6 rfl ?_
   refine HB.pa 7 rfl ?_
   refine HB.pa 8 rfl ?_
   refine HB.ld 9 rfl rfl memD ?_
   refine HB.pa 10 rfl ?_
   refine HB.pa 11 rfl ?_
   refine HB.pa 12 rfl ?_
   refine HB.ld 13 rfl rfl memD ?_
   refine HB.pa 14 rfl ?_
   refine HB.ld 15 rfl rfl memD ?_
   refine HB.pa 16 rfl ?_
   refine HB.pa 17 rfl ?_
   refine HB.all (by (exact Keep.blk (cs := ws S.l) memD rfl (Keep.blk (cs := ws S.l) memD rfl Keep.nil))) [1] (by kernel_rfl) rfl ⟨⟨_, rfl, ?_⟩, trivial⟩
   refine HP.one ?_
   refine H1.lit (cs := nats [2, 13, 22]) rfl rfl rfl rfl rfl rfl (fun b7 => ?_)
   apply HB.fold
   refine HB.all (by (exact Keep.blk (cs := ws S.l) memD rfl (Keep.blk (cs := ws S.l) memD rfl Keep.nil))) [2] (by kernel_rfl) rfl ⟨⟨_, rfl, ?_⟩, trivial⟩
   refine HP.one ?_
   refine H1.call0 rfl rfl (fun w' hM => mixed_fn S.a [2, 13, 22] (by decide) w' (blk_rd (hM.blk memA) rfl) (by decide)) ?_
   apply HB.fold
   refine HB.pa 18 rfl ?_
   refine HB.pa 19 rfl ?_
   refine HB.done (by (exact Keep.blk (cs := ws S.l) memD rfl (Keep.blk (cs := ws S.l) memD rfl Keep.nil))) (by kernel_rfl) ?_
   refine hwNB ?_
   refine HC.sub [(0, .pointer (some ⟨bh, 0, none⟩)), (4, .pointer (some ⟨b4, 0, none⟩)), (5, .pointer (some ⟨b5, 0, none⟩)), (18, .agg (ws kL).toArray), (19, zv (i : Int)), (10, w32 (rT (kW i) (wW l i) S)), (11, w32 (rU S))]
    (A.blk b5 (ws S.l) 185 :: A.blk b4 (schW l 64) 222 :: A.blk bh (ws s.l) 185 :: H) ?_ esA (Hs.refl _).skip
   generalize hT : rT (kW i) (wW l i) S = T
   generalize hU : rU S = U
   have hstep' : rnds l s (i + 1) = ⟨T + U, S.a, S.b, S.c, S.d + T, S.e, S.f, S.g⟩ := by rw [hstep, ← hT, ← hU]; rfl
   refine HC.any rfl ?_
   refine HA.pa 0 rfl ?_ (POp.arr_lo (i := 1) rfl rfl rfl (by decide))
   refine HA.pa 1 rfl ?_ (POp.arr_hi (i := 7) rfl rfl rfl (by decide))
   refine HA.all [2] (by kernel_rfl) rfl ⟨⟨_, rfl, ?_⟩, trivial⟩
   refine HO.one ?_
   refine H1.copyB (cur := ws S.l) (cs := ws [S.a, S.b, S.c, S.d, S.e, S.f, S.g]) (cur' := ws [S.a, S.a, S.b, S.c, S.d, S.e, S.f, S.g]) rfl rfl rfl (fun w' hM j v hv => ?_) ws_one (by simp [ws, S8.l]) rfl rplA rfl ?_
   ·rw [add_lit, Nat.zero_add]
    refine (hM.blk (cs := ws S.l) memA).cell ?_
    have hj : j < 7 := (List.getElem?_eq_some_iff.1 hv).1
    match j, hj, hv with
    | 0, _, h | 1, _, h | 2, _, h | 3, _, h | 4, _, h | 5, _, h | 6, _, h => exact h
   apply HA.fold
   refine HA.done (by kernel_rfl) ?_
   refine hwNB ?_
   refine HL.one (H1.st rfl rfl (by intro _ h; cases h) (by intro _ h; cases h) rplA (by simp [ws]) ?_)
   refine hwNB ?_
   refine HL.one (H1.st rfl rfl (by intro _ h; cases h) (by intro _ h; cases h) rplA (by simp [ws]) ?_)
   refine hwNB ?_
   refine HX.again (i + 1) hlt (by show 64 - (i + 1) < 64 - i; omega) esA ?_
   rw [hstep']
   exact Hs.refl _
  ·obtain rfl : i = 64 := by omega
   refine hwNB ?_
   exact HX.cut () trivial esA (Hs.cons Pick.here (Hs.refl _).skip)
 rintro - -
 have hv : ∀ i, i < 8 → (ws (rnds l s 64).l)[i]? = some (w32 ((rnds l s 64).l.getD i 0)) := fun i h => S8.get h
 rw [show comp s l = s.add (rnds l s 64) from rfl]
 generalize rnds l s 64 = V at hv
 refine hwNB ?_
 refine HC.loop (α := Nat) (fun i => [(0, .pointer (some ⟨bh, 0, none⟩)), (5, .pointer (some ⟨b5, 0, none⟩)), (82, zv (i : Int))])
  (fun i => A.blk b5 (ws V.l) 185 :: A.blk bh (addL s V i) 185 :: H) (fun i => i ≤ 8) (fun i => 8 - i) 0 (Nat.zero_le _) esA (Hs.refl _) ?_
 rintro i hi
 by_cases hlt : i < 8
 ·have h1 := hv i hlt
  have h2 := addL_get (s := s) (v := V) hlt
  have h3 := addL_set (s := s) (v := V) (i := i)
  refine hwNB ?_
  refine HC.anyC ([(⟨b5, i, none⟩, w32 (V.l.getD i 0))]) rfl ?_
  refine HB.pa 0 rfl ?_
  refine HB.pa 1 rfl ?_
  refine HB.pa 2 rfl ?_ (POp.nilCheck rfl)
  refine HB.pa 3 rfl ?_
  refine HB.pa 5 rfl ?_
  refine HB.pa 6 rfl ?_
  refine HB.ld 7 rfl rfl memD ?_
  refine HB.pa 9 rfl ?_ (POp.nilCheck rfl)
  refine HB.all (by (exact Keep.blk memD h1 Keep.nil)) [4] (by kernel_rfl) rfl ⟨⟨_, rfl, ?_⟩, trivial⟩
  refine HP.one ?_
  refine H1.ldb rfl memA h2 rfl ?_
  apply HB.fold
  refine HB.pa 8 rfl ?_
  refine HB.pa 10 rfl ?_
  refine HB.all (by (exact Keep.blk memD h1 Keep.nil)) [11] (by kernel_rfl) rfl ⟨⟨_, rfl, ?_⟩, trivial⟩
  refine HP.one ?_
  refine H1.st (b := bh) rfl rfl (by intro _ h; cases h) (by intro _ h; cases h) rplA (by unfold addL; rw [row_len]; exact hlt) ?_
  rw [h3]
  apply HB.fold
  refine HB.done (by (exact Keep.blk memD h1 Keep.nil)) (by kernel_rfl) ?_
  refine hwNB ?_
  exact HX.again (i + 1) hlt (by show 8 - (i + 1) < 8 - i; omega) esA (Hs.refl _)
 ·obtain rfl : i = 8 := by omega
  refine hwNB ?_
  exact HX.end0 rfl fun w' hM => ⟨rfl, hM.tail⟩
end Go.Sx
/-
 The layer with atoms: bytes of a string to which more is added; strings out of bytes.
-/
namespace Go.Sx
open Go Go.RowKit
def A.gb (e : TypeId) (b c n : Nat) (xs : List Value) : Atom :=
 A.obj b fun o => ∃ cur fz, o = .cells cur e fz ∧ (∀ q, q < cur.size → ¬ (fz.1 ≤ q ∧ q < fz.2)) ∧ n ≤ c ∧ cur.size = c ∧ cur.toList.take n = xs ∧ xs.length = n
theorem Mm.gb {w0 w : World} {H : List Atom} {e : TypeId} {b c n : Nat} {xs : List Value} (h : Mm w0 H w) (hm : A.gb e b c n xs ∈ H) :
  ∃ cur fz, w.heap[b]? = some (.cells cur e fz) ∧ (∀ q, q < cur.size → ¬ (fz.1 ≤ q ∧ q < fz.2)) ∧ n ≤ c ∧ cur.size = c ∧ cur.toList.take n = xs ∧ xs.length = n := by
 obtain ⟨o, h1, cur, fz, rfl, h2⟩ := h.obj hm
 exact ⟨cur, fz, h1, h2⟩
theorem gb_cell {w0 w : World} {H : List Atom} {e : TypeId} {b c n : Nat} {xs : List Value} (h : Mm w0 H w) (hm : A.gb e b c n xs ∈ H) {j : Nat} {v : Value} (hv : xs[j]? = some v) : w.cell? ⟨b, j, none⟩ = some v := by
 obtain ⟨cur, fz, h1, -, h3, h4, h5, h6⟩ := h.gb hm
 have hj : j < n := by have := (List.getElem?_eq_some_iff.1 hv).1; omega
 rw [← h5, List.getElem?_take_of_lt hj] at hv
 simp only [World.cell?, h1]
 simpa using hv
theorem gb_rd {w0 w : World} {H : List Atom} {e : TypeId} {b c n off m c2 : Nat} {xs : List Value} (h : Mm w0 H w) (hm : A.gb e b c n xs ∈ H) (h1 : off + m ≤ n) (h2 : m ≤ c2) : Rd w (.slice (some ⟨b, off, none⟩) m c2) ((xs.drop off).take m) := by
 have hl : ((xs.drop off).take m).length = m := by
  obtain ⟨cur, fz, -, -, -, -, -, h6⟩ := h.gb hm
  rw [List.length_take, List.length_drop, h6]; omega
 refine ⟨some ⟨b, off, none⟩, c2, by rw [hl], by rw [hl]; exact h2, .inr ⟨b, off, rfl, ?_, fun i u hu => ?_⟩⟩
 ·obtain ⟨cur, fz, hb, -⟩ := h.gb hm
  exact (Array.getElem?_eq_some_iff.1 hb).1
 ·have hi : i < m := by have := (List.getElem?_eq_some_iff.1 hu).1; omega
  rw [List.getElem?_take_of_lt hi, List.getElem?_drop] at hu
  exact gb_cell h hm hu
section
variable {P : Program} {r : Option Nat} {N : Nat} {ds : List Deferred} {ol rest : List Oper} {Q : Post} {E : Env} {w0 : World} {H : List Atom} {next : Act → World → Prop} {g : Option (Nat × Bool)}
variable {d : Nat} {t ty : TypeId} {pos : String} {af : Array Edge} {x y : Operand}
theorem H1.sgb {src dst e : TypeId} {s : ByteArray} [hs : UTy P src .string] [hd' : UTy P dst (.slice e)] [he : UTy P e (.int .u8)] (hx : Env.ev E x = some (.string s)) (hd : Nat.blt d N = true)
  (h : ∀ b c, HN N ds next ((d, .slice (some ⟨b, 0, none⟩) s.size c) :: E) w0 (A.gb e b c s.size (ub s.data.toList) :: H)) : H1 P r N ds next ⟨some d, .convert src dst x, ty, pos, af, g⟩ Q E w0 H := fun w hM => by
 have hrun := run_bytes_of_string (P := P) w src dst e s hs.is hd'.is he.is
 have hge := grownCap_ge w s.size 0 e
 obtain ⟨R, hR⟩ : ∃ R, R = bytesRow s (grownCap w s.size 0 e) := ⟨_, rfl⟩
 rw [← hR] at hrun
 have hsz : s.data.size = s.size := rfl
 refine W1.run (v := .slice (some ⟨w.heap.size, 0, none⟩) s.size (grownCap w s.size 0 e)) (w' := w.drew.alloc (.cells R e (R.size, R.size + 1))) (fun a ha => ?_) rfl hd (h w.heap.size (grownCap w s.size 0 e) _ ?_)
 ·simp only [execOp, ha.ev hx, Sem.run_bind, hrun, Result.andThen, Sem.run_pure]
 ·refine (hM.more ((Ext.drew w).trans (Ext.alloc w.drew _))).cons ⟨_, heap_alloc_new w.drew _, _, _, rfl, fun q hq hh => ?_, hge, ?_, ?_, ?_⟩ (by simp [A.gb, A.obj]) fun b hb => ?_
  ·have := hh.1
   simp only at this
   omega
  ·rw [hR]; simp only [bytesRow, Array.size_append, Array.size_map, Array.size_replicate]; omega
  ·rw [hR]
   simp only [bytesRow, Array.toList_append, Array.toList_map]
   rw [List.take_append_of_le_length (by rw [List.length_map, Array.length_toList]; omega), List.take_of_length_le (by rw [List.length_map, Array.length_toList]; omega)]
   rfl
  ·unfold ub; rw [List.length_map, Array.length_toList]; omega
  ·have hb' : b = w.heap.size := by simpa [A.gb, A.obj] using hb
   subst hb'
   refine ⟨fun hm => ?_, hM.ext.size, by simp⟩
   have := (hM.rng _ hm).2
   omega
theorem H1.appG1 {e : TypeId} {z u : Value} {bb n c b b2 : Nat} {xs : List Value} {H' : Nat → Nat → List Atom} [h : UTy P t (.slice e)] [hi : ITy P e z 1 bb]
  (hx : Env.ev E x = some (.slice (some ⟨b, 0, none⟩) n c)) (hy : Env.ev E y = some (.slice (some ⟨b2, 0, none⟩) 1 1)) (hr : ∀ b' c', Rpl (A.gb e b c n xs) (A.gb e b' c' (n + 1) (xs ++ [u])) H (H' b' c'))
  (hm : A.blk b2 [u] e ∈ H) (h1 : u.oneCell' = true) (hzs : z.cells.size = 1) (hnm : n + 1 ≤ 1000000) (hb : Nat.ble bb 1000 = true) (hd : Nat.blt d N = true)
  (hn : ∀ b' c', HN N ds next ((d, .slice (some ⟨b', 0, none⟩) (n + 1) c') :: E) w0 (H' b' c')) :
  H1 P r N ds next ⟨some d, .call ⟨.builtin .append, #[x, y], #[t, t]⟩, ty, pos, af, g⟩ Q E w0 H := fun w hM => by
 obtain ⟨i, hi1, hi2, hi3, hi4⟩ := hi.parts
 obtain ⟨cur, fz, hb1, hfz, hnc, hcs, htk, hxl⟩ := hM.gb (hr 0 0).mem
 have hnews : ∀ j v, [u][j]? = some v → w.cell? ((⟨b2, 0, none⟩ : Addr).add j) = some v := fun j v hj => by
  rw [add_lit, Nat.zero_add]
  exact (hM.blk hm).cell hj
 have hlc : cur.toList.length = c := by simpa using hcs
 by_cases hroom : n + 1 ≤ c
 ·have hst := run_storeCells_cells (P := P) b n [u] 0 w (fun j hj => by
   have hj0 : j = 0 := by simpa using hj
   subst hj0
   have hlt : n < cur.size := by omega
   simp [World.cell?, hb1, hlt]) (fun j hj => by
   have hj0 : j = 0 := by simpa using hj
   subst hj0
   have := hfz n (by omega)
   simp only [World.frozen?, hb1, Nat.add_zero]
   simpa using this) (by simpa using h1)
  have hf := run_firstCells_some (P := P) w i.size 1 ⟨b2, 0, none⟩ 1 1 [u] (by rw [hi3]; rfl) hnews
  rw [hi3] at hf
  have hrun : (Builtin.append_ #[t, t] ty #[.slice (some ⟨b, 0, none⟩) n c, .slice (some ⟨b2, 0, none⟩) 1 1]).run P w = .ok (.slice (some ⟨b, 0, none⟩) (n + 1) c) (w.setCells b n [u]) := by
   simp only [Nat.add_zero] at hst
   simp [Builtin.append_, run_underlying h.is, sizeOf, typeInfo, hi1, Builtin.lenOf, hroom, hf, Addr.add_lit, hi3, hst]
  have hnew : (w.setCells b n [u]).heap[b]? = some (.cells (cur.setIfInBounds n u) e fz) := by
   simp [World.setCells, World.setCell, Array.getElem?_modify, hb1]
  refine W1.run (v := .slice (some ⟨b, 0, none⟩) (n + 1) c) (w' := w.setCells b n [u]) (fun a ha => ?_) rfl hd (hn b c _ (hM.turn (hr b c) ?_ ?_ ?_ (by simp [World.setCells, World.setCell]) (fun q hq hq' => ?_) ⟨_, hnew, _, _, rfl, fun q hq => hfz q (by simpa using hq), hroom, by simpa using hcs, ?_, by simp [hxl]⟩ (by simp [A.gb, A.obj]) fun b' hb' => .inl hb'))
  ·simp only [execOp, resolve, invoke, Go.builtin, Sem.run_bind, Sem.run_pure, Result.andThen, List.map_toArray, List.map_cons, List.map_nil, ha.ev hx, ha.ev hy, hrun]
  ·simp [World.setCells, World.setCell]
  ·simp [World.setCells, World.setCell]
  ·simp [World.setCells, World.setCell]
  ·have hne : ¬ b = q := fun e => hq' (by simp [A.gb, A.obj, e])
   simp [World.setCells, World.setCell, Array.getElem?_modify, hne]
  ·rw [Array.toList_setIfInBounds, List.take_succ_eq_append_getElem (by rw [List.length_set]; omega), List.getElem_set_self, List.take_set, htk]
   rw [List.set_eq_of_length_le (by omega)]
 ·have hrun := run_append_grow (P := P) (w := w) t ty e i z h.is hi1 hi2 ⟨b, 0, none⟩ n c xs (by rw [hi3, hxl]; omega) (fun j v hv => by
   rw [add_lit, Nat.zero_add]; exact gb_cell hM (hr 0 0).mem hv) ⟨b2, 0, none⟩ 1 1 [u] (by rw [hi3]; rfl) hnews (by omega) (by omega) (growslice_fits (by omega) (Nat.le_trans (Nat.mul_le_mul hnm (by rw [hi4]; exact Nat.le_of_ble_eq_true hb)) (by decide)))
  have hge := grownCap_ge w (n + 1) c e
  have hM2 := hM
  refine W1.run (v := .slice (some ⟨w.heap.size, 0, none⟩) (n + 1) (grownCap w (n + 1) c e)) (w' := w.drew.alloc (.cells (xs.toArray ++ [u].toArray ++ Builtin.zeroCells z.cells (grownCap w (n + 1) c e - (n + 1))) e)) (fun a ha => ?_) rfl hd
   (hn _ _ _ (hM.turn (hr _ _) rfl rfl rfl (by simp) (fun q hq hq' => ?_) ⟨_, heap_alloc_new w.drew _, _, _, rfl, fun q _ hh => by simp at hh, hge, ?_, ?_, by simp [hxl]⟩ (by simp [A.gb, A.obj]) fun b' hb' => .inr ?_))
  ·simp only [execOp, resolve, invoke, Go.builtin, Sem.run_bind, Sem.run_pure, Result.andThen, List.map_toArray, List.map_cons, List.map_nil, ha.ev hx, ha.ev hy, hrun]
  ·exact (Ext.alloc w.drew _).block q hq
  ·simp [Builtin.zeroCells, hzs, hxl]; omega
  ·simp only [Array.toList_append]
   rw [List.take_append_of_le_length (by simp [hxl]), List.take_of_length_le (by simp [hxl])]
  ·have hb' : b' = w.heap.size := by simpa [A.gb, A.obj] using hb'
   subst hb'
   exact ⟨Nat.le_refl _, by simp⟩
theorem H1.bstrB {dst e eb : TypeId} {b c : Nat} {ys : List UInt8} [h : UTy P t (.slice e)] [he : UTy P e (.int .u8)] [hs : UTy P dst .string] (hx : Env.ev E x = some (.slice (some ⟨b, 0, none⟩) ys.length c)) (hm : A.blk b (ub ys) eb ∈ H)
  (hd : Nat.blt d N = true) (hn : HN N ds next ((d, .string ⟨ys.toArray⟩) :: E) w0 H) : H1 P r N ds next ⟨some d, .convert t dst x, ty, pos, af, g⟩ Q E w0 H := fun w hM =>
 W1.bytes_string hx rfl (fun j hj => by
  rw [add_lit, Nat.zero_add]
  exact (hM.blk hm).cell (by simp [ub, hj])) hd (hn w hM)
theorem POp.cut3 {e : TypeId} {b off l c lo hi mx : Nat} {z : Value} {sz bb : Nat} {k1 k2 k3 : IntKind} {n1 n2 n3 : Int} {y1 y2 y3 : Operand} [h : UTy P t (.slice e)] [hi' : ITy P e z sz bb] (hx : Env.ev E x = some (.slice (some ⟨b, off, none⟩) l c))
  (h1 : Env.ev E y1 = some (.int k1 n1)) (h2 : Env.ev E y2 = some (.int k2 n2)) (h3 : Env.ev E y3 = some (.int k3 n3)) (e1 : n1 = (lo : Int)) (e2 : n2 = (hi : Int)) (e3 : n3 = (mx : Int)) (h4 : lo ≤ hi) (h5 : hi ≤ mx) (h6 : mx ≤ c) (hne : lo < mx) :
  POp P N ds E (.slice t x (some y1) (some y2) (some y3)) ty (.slice (some ⟨b, off + lo * sz, none⟩) (hi - lo) (mx - lo)) := fun a ha d pos af g w => by
 subst e1; subst e2; subst e3
 have hc : ¬ mx = lo := by omega
 simp [execOp, ha.ev hx, ha.ev h1, ha.ev h2, ha.ev h3, Instr.sliceAt, Instr.slice, run_underlying h.is, Instr.sliceBounds, run_bound (show (0 : Int) ≤ (mx : Int) by omega) (show (mx : Int) ≤ ((c : Nat) : Int) by omega),
  run_bound (show (0 : Int) ≤ (hi : Int) by omega) (show (hi : Int) ≤ ((mx : Nat) : Int) by omega), run_bound (show (0 : Int) ≤ (lo : Int) by omega) (show (lo : Int) ≤ ((hi : Nat) : Int) by omega), Sem.run_bind, run_sizeOf, hc, add_lit]
end
end Go.Sx
/-
 The layer with atoms: parts of a block that are stored whole; strings copied into a block; slices of the call's own that are cleared and cut.
-/
namespace Go.Sx
open Go Go.RowKit
section
variable {P : Program} {r : Option Nat} {N : Nat} {ds : List Deferred} {ol rest : List Oper} {Q : Post} {E : Env} {w0 : World} {H : List Atom} {next : Act → World → Prop} {g : Option (Nat × Bool)}
variable {d : Option Nat} {t ty : TypeId} {pos : String} {af : Array Edge} {x y : Operand}
end
end Go.Sx
/-
 More operations that ask nothing of the world: quotients and shifts of any number; a slice from an index on.
-/
namespace Go.Sx
open Go Go.RowKit
section
variable {P : Program} {N : Nat} {ds : List Deferred} {E : Env} {t ty t' : TypeId} {x y lo : Operand} {m n : Int} {k' : IntKind}
theorem tdiv_abs {m n : Int} (h : 0 < n) (h1 : -9223372036854775808 ≤ m) (h2 : m ≤ 9223372036854775807) : -9223372036854775808 ≤ m.tdiv n ∧ m.tdiv n ≤ 9223372036854775807 := by
 by_cases hm : 0 ≤ m
 ·rw [Int.tdiv_eq_ediv_of_nonneg hm]
  have h3 := Int.ediv_le_self n hm
  have h4 := Int.ediv_nonneg hm (Int.le_of_lt h)
  omega
 ·have e : m.tdiv n = -((-m) / n) := by
   rw [← Int.tdiv_eq_ediv_of_nonneg (by omega), Int.neg_tdiv, Int.neg_neg]
  have h3 := Int.ediv_le_self n (show 0 ≤ -m by omega)
  have h4 := Int.ediv_nonneg (show 0 ≤ -m by omega) (Int.le_of_lt h)
  omega
theorem POp.quoT (hx : Env.ev E x = some (.int .i64 m)) (hy : Env.ev E y = some (.int .i64 n)) (h0 : -9223372036854775808 ≤ m) (h1 : m ≤ 9223372036854775807) (h2 : 0 < n) :
  POp P N ds E (.binOp .quo t x y t') ty (.int .i64 (m.tdiv n)) := POp.bin hx hy guard_int fun w => by
 have e : n ≠ 0 := by omega
 rw [binOp_quo]
 simp only [Op.intDiv, e, if_false]
 have h3 := tdiv_abs h2 h0 h1
 rw [IntWalk.i64_in _ ⟨h3.1, h3.2⟩]; rfl
theorem shr_abs {m : Int} (n : Nat) (h1 : -9223372036854775808 ≤ m) (h2 : m ≤ 9223372036854775807) : -9223372036854775808 ≤ m / 2 ^ n ∧ m / 2 ^ n ≤ 9223372036854775807 := by
 have hp : (0 : Int) < 2 ^ n := Int.pow_pos (by decide)
 constructor
 ·refine Int.le_ediv_of_mul_le hp ?_
  have : (1 : Int) ≤ 2 ^ n := hp
  generalize (2 : Int) ^ n = q at *
  omega
 ·by_cases h : 0 ≤ m
  ·have := Int.ediv_le_self (2 ^ n) h
   omega
  ·have := Int.ediv_neg_of_neg_of_pos (show m < 0 by omega) hp
   omega
theorem POp.shrI {b : Nat} (hx : Env.ev E x = some (.int .i64 m)) (hy : Env.ev E y = some (.int k' n)) (en : n = (b : Int)) (h1 : b < 64) :
  POp P N ds E (.binOp .shr t x y t') ty (.int .i64 (m / 2 ^ b)) := POp.bin hx hy guard_int fun w => by
 subst en
 rw [binOp_shr, shift_shr_i64 k' m b (by omega) (by omega)]
 simp
theorem POp.cut_l {e : TypeId} {b off l c : Nat} {z : Value} {sz bb : Nat} [h : UTy P t (.slice e)] [hi' : ITy P e z sz bb] (hx : Env.ev E x = some (.slice (some ⟨b, off, none⟩) l c))
  (hl : Env.ev E lo = some (.int k' m)) (h0 : 0 ≤ m) (h1 : m ≤ l) (hne : m < c) :
  POp P N ds E (.slice t x (some lo) none none) ty (.slice (some ⟨b, off + m.toNat * sz, none⟩) (l - m.toNat) (c - m.toNat)) := fun a ha d pos af g w => by
 have hc : ¬ c = m.toNat := by omega
 simp [execOp, ha.ev hx, ha.ev hl, Instr.sliceAt, Instr.slice, run_underlying h.is, Instr.sliceBounds, run_bound h0 h1, Sem.run_bind, run_sizeOf, hc, add_lit]
end
end Go.Sx
/- Chapter 2: the digest of a string: the walks. -/
namespace Go.Sx
open Go Go.Proofs Go.RowKit
theorem digL_at (s : S8) : ∀ (i k : Nat), i < 8 → k < 4 → (digL s)[4 * i + k]? = some ((s.l.getD i 0) >>> UInt32.ofNat (24 - 8 * k)).toUInt8 := by
 intro i k hi hk
 match i, hi, k, hk with
 | 0, _, 0, _ | 0, _, 1, _ | 0, _, 2, _ | 0, _, 3, _ => rfl
 | 1, _, 0, _ | 1, _, 1, _ | 1, _, 2, _ | 1, _, 3, _ => rfl
 | 2, _, 0, _ | 2, _, 1, _ | 2, _, 2, _ | 2, _, 3, _ => rfl
 | 3, _, 0, _ | 3, _, 1, _ | 3, _, 2, _ | 3, _, 3, _ => rfl
 | 4, _, 0, _ | 4, _, 1, _ | 4, _, 2, _ | 4, _, 3, _ => rfl
 | 5, _, 0, _ | 5, _, 1, _ | 5, _, 2, _ | 5, _, 3, _ => rfl
 | 6, _, 0, _ | 6, _, 1, _ | 6, _, 2, _ | 6, _, 3, _ => rfl
 | 7, _, 0, _ | 7, _, 1, _ | 7, _, 2, _ | 7, _, 3, _ => rfl
def dgC (s : S8) (m : Nat) : List Value := row 32 fun q => b8 (if q < m then (digL s).getD q 0 else 0)
theorem dgC_set {s : S8} {i k : Nat} (hi : i < 8) (hk : k < 4) : (dgC s (4 * i + k)).set (4 * i + k) (b8 ((s.l.getD i 0) >>> UInt32.ofNat (24 - 8 * k)).toUInt8) = dgC s (4 * i + (k + 1)) := by
 have h := digL_at s i k hi hk
 unfold dgC
 rw [row_set]
 refine row_congr fun j _ => ?_
 by_cases e : j = 4 * i + k
 ·subst e
  have e2 : (digL s).getD (4 * i + k) 0 = ((s.l.getD i 0) >>> UInt32.ofNat (24 - 8 * k)).toUInt8 := by rw [List.getD_eq_getElem?_getD, h]; rfl
  rw [if_pos rfl, if_pos (by omega), e2]
 ·have : (j < 4 * i + (k + 1)) = (j < 4 * i + k) := by simp only [eq_iff_iff]; omega
  rw [if_neg e]; simp only [this]
theorem dgC_32 (s : S8) : dgC s 32 = ub (digL s) := rfl
attribute [local irreducible] WC WL WX POp Then Again Fn NX W1 WA WO QL RP RA Yld LoopAt HC HL HX HN H1 HA HO HQ HB HP A.blk A.grow A.rd A.obj A.mp AgainH CutH
attribute [local irreducible] mixW kL digL
set_option maxHeartbeats 1000000 in
theorem digest_fn (s : S8) (w : World) : Fn Tryz.prog 150 #[.agg (ws s.l).toArray] w fun v w' => v = .string ⟨(digL s).toArray⟩ ∧ Ext w w' := by
 refine enterH (l := [_]) rfl Tryz.ntmps150 rfl ?_
 refine hwNE ?_
 refine HL.one (H1.boxAgg (cs := ws s.l) rfl rfl (fun b1 => ?_))
 refine hwNE ?_
 refine HL.one (H1.alloc (cs := dgC s 0) (by kernel_rfl) rfl (fun b3 => ?_))
 refine hwNE ?_
 refine HL.one (H1.ldAgg (vs := ws s.l) rfl memA rfl (fun i v h => by rwa [Nat.zero_add]) rfl ?_)
 refine hwNE ?_
 refine HC.loop (α := Nat) (fun i => [(3, .pointer (some ⟨b3, 0, none⟩)), (7, .agg (ws s.l).toArray), (8, zv (i : Int))]) (fun i => [A.blk b3 (dgC s (4 * i)) 225]) (fun i => i ≤ 8) (fun i => 8 - i) 0 (Nat.zero_le _) esA (by repeat (first | exact Hs.nil _ | (refine Hs.cons pickA ?_))) ?_
 rintro i hi
 by_cases hlt : i < 8
 ·have hx := S8.get (s := s) hlt
  refine hwNE ?_
  refine HL.pa ?_ (POp.index_agg (v := w32 (s.l.getD i 0)) rfl rfl rfl hlt hx)
  refine hwNE ?_
  refine HC.loop (α := Nat) (fun k => [(3, .pointer (some ⟨b3, 0, none⟩)), (7, .agg (ws s.l).toArray), (8, zv (i : Int)), (4, zv (i : Int)), (5, w32 (s.l.getD i 0)), (12, zv (k : Int))]) (fun k => [A.blk b3 (dgC s (4 * i + k)) 225]) (fun k => k ≤ 4) (fun k => 4 - k) 0 (Nat.zero_le _) esA (Hs.refl _) ?_
  rintro k hk
  by_cases hlt2 : k < 4
  ·have hset := dgC_set (s := s) hlt hlt2
   refine hwNE ?_
   refine HL.pa ?_ (POp.shr32 (s := 24 - 8 * k) rfl rfl (by omega) (by omega))
   refine hwNE ?_
   rw [show (4 * (i : Int) + (k : Int)).toNat = 4 * i + k from by omega]
   refine HL.one (H1.st (b := b3) rfl rfl (by intro _ h; cases h) (by intro _ h; cases h) rplA (by unfold dgC; rw [row_len]; omega) ?_)
   rw [hset]
   refine hwNE ?_
   exact HX.again (k + 1) hlt2 (by show 4 - (k + 1) < 4 - k; omega) esA (Hs.refl _)
  ·obtain rfl : k = 4 := by omega
   refine hwNE ?_
   exact HX.again (i + 1) hlt (by show 8 - (i + 1) < 8 - i; omega) esA (Hs.refl _)
 ·obtain rfl : i = 8 := by omega
  rw [dgC_32]
  refine hwNE ?_
  refine HL.pa ?_ (POp.arr_all rfl)
  refine hwNE ?_
  refine HL.one (H1.bstrB (ys := digL s) (b := b3) (c := 32) (by rw [digL_len]; rfl) memA rfl ?_)
  refine hwNE ?_
  exact HX.ret1 rfl rfl fun w' hM => ⟨rfl, hM.ext⟩
theorem chunk_fn {n c bp : Nat} (w : World) : Fn Tryz.prog 148 #[.slice (some ⟨bp, 0, none⟩) n c, zv 64] w fun v w' => ∃ q : Nat × Nat, True ∧ v = .func (.func 172) #[] #[.pointer (some ⟨q.1, 0, none⟩), .pointer (some ⟨q.2, 0, none⟩)] ∧
  Mm w [A.blk q.2 [zv 64] 3, A.blk q.1 [.slice (some ⟨bp, 0, none⟩) n c] 116] w' := by
 refine enterH (l := [_, _]) rfl Tryz.ntmps148 rfl ?_
 refine hwNE ?_
 refine HL.one (H1.box rfl rfl rfl (fun b1 => ?_))
 refine hwNE ?_
 refine HL.one (H1.box rfl rfl rfl (fun b2 => ?_))
 refine hwNE ?_
 exact HX.ret1 rfl rfl fun w' hM => ⟨(b1, b2), trivial, rfl, hM⟩
set_option maxHeartbeats 1000000 in
theorem chunk1_fn {w0 : World} {K0 K1 : Atom} {Hq : Nat → List Atom} {b1 b2 bp c l : Nat} (nq : Nat) (hc : 64 * nq ≤ c) (hn : nq ≤ 100000)
  (hy : ∀ q, q < nq → ∀ w, Mm w0 (K0 :: K1 :: A.blk b2 [zv 64] 3 :: A.blk b1 [.slice (some ⟨bp, 0, none⟩) (64 * nq) c] 116 :: Hq q) w →
   Yld Tryz.prog l [.slice (some ⟨bp, 64 * q, none⟩) 64 64] w fun b w' => b = true ∧ ∃ _z : Unit, True ∧
    Mm w0 (K0 :: K1 :: A.blk b2 [zv 64] 3 :: A.blk b1 [.slice (some ⟨bp, 0, none⟩) (64 * nq) c] 116 :: Hq (q + 1)) w') :
  ∀ w, Mm w0 (K0 :: K1 :: A.blk b2 [zv 64] 3 :: A.blk b1 [.slice (some ⟨bp, 0, none⟩) (64 * nq) c] 116 :: Hq 0) w →
   Fn Tryz.prog 172 (.func (.yield l) #[] #[] :: [.pointer (some ⟨b1, 0, none⟩), .pointer (some ⟨b2, 0, none⟩)]).toArray w fun _ w' => ∃ _z : Unit, True ∧ Mm w0 (K0 :: K1 :: Hq nq) w' := by
 intro w hM
 refine enterK (l := [_, _, _]) hM rfl Tryz.ntmps172 rfl ?_
 refine hwNE ?_
 refine HC.loop (α := Nat) (fun q => [(0, .func (.yield l) #[] #[]), (1, .pointer (some ⟨b1, 0, none⟩)), (2, .pointer (some ⟨b2, 0, none⟩)), (4, zv ((64 * q : Nat) : Int))]) (fun q => K0 :: K1 :: A.blk b2 [zv 64] 3 :: A.blk b1 [.slice (some ⟨bp, 0, none⟩) (64 * nq) c] 116 :: Hq q)
  (fun q => q ≤ nq) (fun q => nq - q) 0 (Nat.zero_le _) esA (Hs.refl _) ?_
 rintro q hq
 by_cases hlt : q < nq
 ·have hlt' : ((64 * q : Nat) : Int) < ((64 * nq : Nat) : Int) := by omega
  have hmin : min (64 : Int) (((64 * nq - ((64 * q : Nat) : Int).toNat : Nat)) : Int) = 64 := by omega
  refine hwNE ?_
  refine HC.quietS [(some 13, [2], []), (some 14, [1], []), (some 15, [4], []), (some 16, [14, 15], [1, 2]), (some 17, [16], [3]), (some 18, [13, 17], [0, 4]), (some 5, [18], [5, 0, 1, 2, 3, 4, 5])] (by kernel_rfl) (by kernel_rfl) (by kernel_rfl) ?_
  refine qwA ?_
  refine HQ.pa ?_ (POp.cut_l rfl rfl (by omega) (by omega) (by omega))
  refine qwA ?_
  rw [hmin]
  refine HQ.nil ?_
  refine hwNE ?_
  refine HL.pa ?_ (POp.cut3 (lo := 64 * q) (hi := 64 * q + 64) (mx := 64 * q + 64) rfl rfl rfl rfl rfl (by omega) (by omega) (by omega) (by omega) (by omega) (by omega))
  rw [show 64 * q + 64 - 64 * q = 64 from by omega, Nat.zero_add, Nat.mul_one]
  refine HL.one (H1.yield (vs := [.slice (some ⟨bp, 64 * q, none⟩) 64 64]) rfl rfl rfl (hy q hlt) ?_)
  rintro - -
  refine hwNE ?_
  exact HX.again (q + 1) hlt (by show nq - (q + 1) < nq - q; omega) (by refine ⟨rfl, rfl, rfl, ?_, trivial⟩; show some (zv _) = some (zv _); congr 2) (Hs.refl _)
 ·obtain rfl : q = nq := by omega
  refine hwNE ?_
  exact HX.end0 rfl fun w' hM => ⟨(), trivial, hM.sub (Hs.cons Pick.here (Hs.cons Pick.here (Hs.refl _).skip.skip))⟩
end Go.Sx
/- Chapter 2: Sum and Chain: the walks. -/
namespace Go.Sx
open Go Go.Proofs Go.RowKit
theorem ub_app1 (ys : List UInt8) (b : UInt8) : ub ys ++ [b8 b] = ub (ys ++ [b]) := by simp [ub]
theorem ub_len (ys : List UInt8) : (ub ys).length = ys.length := by simp [ub]
theorem ub_mid (ys : List UInt8) (i : Nat) : ((ub ys).drop i).take 64 = ub ((ys.drop i).take 64) := by simp [ub, List.map_drop, List.map_take]
theorem rep_snoc (L : List UInt8) (j : Nat) : L ++ List.replicate j 0 ++ [(0 : UInt8)] = L ++ List.replicate (j + 1) 0 := by
 rw [List.append_assoc, List.replicate_succ']
theorem rng_snoc (L : List UInt8) (n j : Nat) : L ++ (List.range j).map (shaT n) ++ [shaT n j] = L ++ (List.range (j + 1)).map (shaT n) := by
 rw [List.append_assoc, List.range_succ, List.map_append]; rfl
attribute [local irreducible] WC WL WX POp Then Again Fn NX W1 WA WO QL RP RA Yld LoopAt HC HL HX HN H1 HA HO HQ HB HP A.blk A.grow A.rd A.obj A.mp AgainH CutH
attribute [local irreducible] A.gb kL digL shaI shaT
set_option maxHeartbeats 2000000 in
theorem sum_fn (s : ByteArray) (hs : s.size ≤ 900000) (w : World) (hG : RoundG w) : Fn Tryz.prog 125 #[.string s] w fun v w' => v = .string (sumS s) ∧ Ext w w' := by
 have hlen : s.data.toList.length = s.size := by rw [Array.length_toList]; rfl
 obtain ⟨n, hn⟩ : ∃ n, n = s.size := ⟨_, rfl⟩
 have hz : shaZ n < 64 := by unfold shaZ; omega
 have hP : shaP s.data.toList = s.data.toList ++ [128] ++ List.replicate (shaZ n) 0 ++ (List.range 8).map (shaT n) := by unfold shaP; rw [hlen, hn]
 have hPl := shaP_len s.data.toList
 have hPm := shaP_mod s.data.toList
 rw [hlen, ← hn] at hPl
 refine enterMH (l := [_]) rfl Tryz.ntmps125 rfl ?_
 refine hwNE ?_
 refine HL.build (cs := ws shaI.l) rfl (by kernel_rfl) rfl ?_
 refine hwNE ?_
 refine HL.one (H1.alloc (cs := List.replicate 8 (.int .u32 0)) (by kernel_rfl) rfl (fun b3 => ?_))
 refine hwNE ?_
 refine HL.one (H1.stAgg (cs := List.replicate 8 (.int .u32 0)) rfl rfl rfl ws_one rplA rfl ?_)
 refine hwNE ?_
 refine HL.one (H1.sgb (e := 5) rfl rfl (fun bp0 c0 => ?_))
 rw [← hn]
 refine hwNE ?_
 refine HL.one (H1.lit (cs := [b8 128]) rfl rfl rfl rfl rfl rfl (fun b9 => ?_))
 refine hwNE ?_
 refine HL.one (H1.appG1 (u := b8 128) rfl rfl (fun _ _ => by first | ((repeat (first | with_reducible exact Rpl.here | with_reducible apply Rpl.there)); done) | (repeat (first | exact Rpl.here | apply Rpl.there))) memA rfl rfl (by omega) rfl rfl (fun bp1 c1 => ?_))
 rw [ub_app1]
 refine hwNE ?_
 refine HC.loop (α := Nat × Nat × Nat) (fun z => [(0, .string s), (3, .pointer (some ⟨b3, 0, none⟩)), (4, .slice (some ⟨z.2.1, 0, none⟩) (n + 1 + z.1) z.2.2)])
  (fun z => [A.blk b3 (ws shaI.l) 185, A.gb 5 z.2.1 z.2.2 (n + 1 + z.1) (ub (s.data.toList ++ [128] ++ List.replicate z.1 0))]) (fun z => z.1 ≤ shaZ n) (fun z => shaZ n - z.1) (0, bp1, c1) (Nat.zero_le _) esA
  (by show Hs _ [_, A.gb _ bp1 c1 (n + 1) (ub (s.data.toList ++ [128] ++ []))]; rw [List.append_nil]; exact Hs.cons (Pick.there (Pick.there Pick.here)) (Hs.cons (Pick.there Pick.here) (Hs.nil _))) ?_
 rintro ⟨j, bp, c⟩ hj
 dsimp only at hj ⊢
 by_cases hlt : j < shaZ n
 ·have hne : ¬ (((n + 1 + j : Nat) : Int) % 64 = 56) := by unfold shaZ at hlt; omega
  refine hwNE ?_
  refine HL.one (H1.lit (cs := [b8 0]) rfl rfl rfl rfl rfl rfl (fun b9 => ?_))
  refine hwNE ?_
  refine HL.one (H1.appG1 (u := b8 0) rfl rfl (fun _ _ => by first | ((repeat (first | with_reducible exact Rpl.here | with_reducible apply Rpl.there)); done) | (repeat (first | exact Rpl.here | apply Rpl.there))) memA rfl rfl (by omega) rfl rfl (fun bp2 c2 => ?_))
  rw [ub_app1, rep_snoc]
  refine hwNE ?_
  exact HX.again (j + 1, bp2, c2) hlt (by show shaZ n - (j + 1) < shaZ n - j; omega) esA (Hs.cons (Pick.there Pick.here) (Hs.cons (Pick.there Pick.here) (Hs.nil _)))
 ·obtain rfl : j = shaZ n := by omega
  have hne : ((n + 1 + shaZ n : Nat) : Int) % 64 = 56 := by unfold shaZ; omega
  refine hwNE ?_
  refine HC.loop (α := Nat × Nat × Nat) (fun z => [(0, .string s), (3, .pointer (some ⟨b3, 0, none⟩)), (4, .slice (some ⟨z.2.1, 0, none⟩) (n + 1 + shaZ n + z.1) z.2.2), (5, zv (7 - (z.1 : Int)))])
   (fun z => [A.blk b3 (ws shaI.l) 185, A.gb 5 z.2.1 z.2.2 (n + 1 + shaZ n + z.1) (ub (s.data.toList ++ [128] ++ List.replicate (shaZ n) 0 ++ (List.range z.1).map (shaT n)))]) (fun z => z.1 ≤ 8) (fun z => 8 - z.1) (0, bp, c) (Nat.zero_le _) esA
   (by show Hs _ [_, A.gb _ bp c (n + 1 + shaZ n) (ub (s.data.toList ++ [128] ++ List.replicate (shaZ n) 0 ++ []))]; rw [List.append_nil]; exact Hs.refl _) ?_
  rintro ⟨k, bp2, c2⟩ hk
  dsimp only at hk ⊢
  by_cases hlt2 : k < 8
  ·have hge : (0 : Int) ≤ 7 - (k : Int) := by omega
   refine hwNE ?_
   rw [← hn]
   refine hwNE ?_
   refine HL.pa ?_ (POp.shr (a := 8 * n) (b := 8 * (7 - k)) rfl rfl (by omega) (by omega) (by omega))
   refine hwNE ?_
   refine HL.one (H1.lit (cs := [b8 (shaT n k)]) rfl rfl (by unfold shaT; rfl) rfl rfl rfl (fun b9 => ?_))
   refine hwNE ?_
   refine HL.one (H1.appG1 (u := b8 (shaT n k)) rfl rfl (fun _ _ => by first | ((repeat (first | with_reducible exact Rpl.here | with_reducible apply Rpl.there)); done) | (repeat (first | exact Rpl.here | apply Rpl.there))) memA rfl rfl (by omega) rfl rfl (fun bp3 c3 => ?_))
   rw [ub_app1, rng_snoc]
   refine hwNE ?_
   refine HX.again (k + 1, bp3, c3) hlt2 (by show 8 - (k + 1) < 8 - k; omega) ⟨rfl, rfl, rfl, ?_, trivial⟩ (Hs.cons (Pick.there Pick.here) (Hs.cons (Pick.there Pick.here) (Hs.nil _)))
   show some (zv _) = some (zv _)
   congr 2
   show (7 - (k : Int)) - 1 = 7 - ((k + 1 : Nat) : Int)
   omega
  ·obtain rfl : k = 8 := by omega
   have hge : ¬ ((0 : Int) ≤ 7 - ((8 : Nat) : Int)) := by omega
   obtain ⟨nq, hq⟩ : ∃ nq, 64 * nq = n + 1 + shaZ n + 8 := ⟨(n + 1 + shaZ n + 8) / 64, by omega⟩
   have hnq : nq = (shaP s.data.toList).length / 64 := by rw [hPl]; omega
   rw [← hP, ← hq]
   have hsum : sumS s = ⟨(digL (sums (shaP s.data.toList) nq)).toArray⟩ := by unfold sumS sumL; rw [hnq]
   rw [hsum]
   rw [← hq] at hPl
   generalize shaP s.data.toList = Pd at hPl
   refine hwNE ?_
   refine HL.one (H1.callz (vs := [_, zv 64]) rfl rfl (fun w' _ => chunk_fn (n := 64 * nq) (c := c2) (bp := bp2) w') ?_)
   rintro ⟨q1, q2⟩ -
   dsimp only
   refine hwNE ?_
   refine HC.sub [(3, .pointer (some ⟨b3, 0, none⟩)), (34, .func (.func 172) #[] #[.pointer (some ⟨q1, 0, none⟩), .pointer (some ⟨q2, 0, none⟩)])]
    (A.blk q2 [zv 64] 3 :: A.blk q1 [.slice (some ⟨bp2, 0, none⟩) (64 * nq) c2] 116 :: [A.blk b3 (ws (sums Pd 0).l) 185, A.gb 5 bp2 c2 (64 * nq) (ub Pd)]) ?_ esA (by repeat (first | exact Hs.nil _ | (refine Hs.cons pickA ?_)))
   refine HC.rangeFunc (α := Unit) (lb := [.pointer (some ⟨q1, 0, none⟩), .pointer (some ⟨q2, 0, none⟩)]) (fun _ => [A.blk b3 (ws (sums Pd nq).l) 185, A.gb 5 bp2 c2 (64 * nq) (ub Pd)]) (fun _ => True) rfl ?_ ?_
   ·intro D l L hL w1 hM1
    have hc2 : 64 * nq ≤ c2 := by
     obtain ⟨_, _, _, _, h, _⟩ := hM1.gb (e := 5) (b := bp2) (c := c2) (n := 64 * nq) (xs := ub Pd) memA
     exact h
    refine chunk1_fn (Hq := fun q => [A.blk b3 (ws (sums Pd q).l) 185, A.gb 5 bp2 c2 (64 * nq) (ub Pd)]) nq hc2 (by omega) ?_ w1 hM1
    intro q hqlt
    refine Yld.ofH hL memA rfl rfl ?_
    dsimp only [List.zip_cons_cons, List.zip_nil_right, putAll]
    refine hwNE ?_
    refine HX.ra hL rplA ?_
    refine hwNE ?_
    have hl64 : ((Pd.drop (64 * q)).take 64).length = 64 := by rw [List.length_take, List.length_drop]; omega
    refine HL.one (H1.callk (α := Unit) (V := fun _ => .tuple #[]) (I := fun _ => True)
     (H' := fun _ => A.blk b3 (ws (sums Pd (q + 1)).l) 185 :: [L .busy none, A.dfr D, A.blk q2 [zv 64] 3, A.blk q1 [.slice (some ⟨bp2, 0, none⟩) (64 * nq) c2] 116, A.gb 5 bp2 c2 (64 * nq) (ub Pd)])
     (vs := [.pointer (some ⟨b3, 0, none⟩), .slice (some ⟨bp2, 64 * q, none⟩) 64 64]) rfl rfl (fun w' hM => ?_) ?_)
    ·refine (add_fn (H := [L .busy none, A.dfr D, A.blk q2 [zv 64] 3, A.blk q1 [.slice (some ⟨bp2, 0, none⟩) (64 * nq) c2] 116, A.gb 5 bp2 c2 (64 * nq) (ub Pd)]) (sums Pd q) ((Pd.drop (64 * q)).take 64) hl64 hG
      (hM.sub (Hs.cons (Pick.there (Pick.there (Pick.there (Pick.there Pick.here)))) (Hs.refl _))) (fun w2 hM2 => ?_)).mono fun v w2 h => ⟨(), trivial, h⟩
     have := gb_rd hM2 (e := 5) (b := bp2) (c := c2) (n := 64 * nq) (xs := ub Pd) (off := 64 * q) (m := 64) (c2 := 64) memA (by omega) (Nat.le_refl _)
     rwa [ub_mid] at this
    rintro - -
    refine hwNE ?_
    refine HX.rp_n hL rplA fun w' hM => ⟨rfl, (), trivial, ?_⟩
    exact hM.sub (Hs.cons (Pick.there Pick.here) (Hs.cons (Pick.there Pick.here) (Hs.cons (Pick.there Pick.here) (Hs.cons (Pick.there Pick.here) (Hs.refl _)))))
   ·rintro D - -
    refine hwNE ?_
    refine HL.one (H1.ldAgg (vs := ws (sums Pd nq).l) rfl memA rfl (fun i v h => by rwa [Nat.zero_add]) rfl ?_)
    refine hwNE ?_
    refine HL.one (H1.callx (vs := [_]) rfl rfl (fun w' _ => digest_fn (sums Pd nq) w') ?_)
    refine hwNE ?_
    exact HX.retM1 rfl rfl Pick.here fun w' hM => ⟨rfl, hM.ext⟩
end Go.Sx
/- Chapter 2: marked digests; Chain: the walks. -/
namespace Go.Sx
open Go Go.Proofs Go.RowKit
theorem joinB_fn (c b off : Nat) (l : List ByteArray) (w : World) (hR : Rd w (.slice (some ⟨b, off, none⟩) l.length c) (strs l)) (hb : b < w.heap.size) (hl : l.length ≤ 100) (hc : l.length ≤ c) (hs : (catS l).size ≤ 1000000) :
  Fn Tryz.prog 171 #[.slice (some ⟨b, off, none⟩) l.length c, .string (ByteArray.mk #[])] w fun v w' => v = .string (catS l) ∧ Ext w w' := by
 have hlen : (Lib.join (l.map (·.data.toList)) (ByteArray.mk #[]).data.toList).length = (catS l).size := by
  rw [← join_empty l]; rfl
 have := Tryz.strings_Join b off c l (ByteArray.mk #[]) w (fun j x hx => hR.cell (by simp [strs, hx])) hb (by omega) hc (by omega)
 refine Calls.mono this ?_
 rintro e w' ⟨rfl, h2⟩
 exact ⟨_, rfl, by rw [join_empty], h2⟩
def mkB (m : UInt8) : ByteArray := ByteArray.mk #[m]
def markS (m : UInt8) (l : List ByteArray) : ByteArray := sumS (mkB m ++ catS l)
def chainS (h r : ByteArray) : ByteArray := markS 2 [h, r]
theorem markS_size (m : UInt8) (l : List ByteArray) : (markS m l).size = 32 := sumS_size _
theorem chainS_size (h r : ByteArray) : (chainS h r).size = 32 := sumS_size _
theorem catS_2 (a b : ByteArray) : (catS [a, b]).size = a.size + b.size := by
 show ((a.data.toList ++ (b.data.toList ++ []) : List UInt8).toArray).size = _
 rw [List.size_toArray, List.append_nil, List.length_append, Array.length_toList, Array.length_toList]; rfl
theorem catS_1 (a : ByteArray) : (catS [a]).size = a.size := by
 show ((a.data.toList ++ [] : List UInt8).toArray).size = _
 rw [List.size_toArray, List.append_nil, Array.length_toList]; rfl
theorem mkB_size (m : UInt8) (s : ByteArray) : (mkB m ++ s).size = 1 + s.size := by
 rw [ByteArray.size_append]; rfl
attribute [local irreducible] WC WL WX POp Then Again Fn NX W1 WA WO QL RP RA Yld LoopAt HC HL HX HN H1 HA HO HQ HB HP A.blk A.grow A.rd A.obj A.mp AgainH CutH
attribute [local irreducible] sumS
theorem marked_fn (m : ByteArray) (w : World) : Fn Tryz.prog 147 #[.string m] w fun v w' => ∃ b : Nat, True ∧ v = .func (.func 170) #[] #[.pointer (some ⟨b, 0, none⟩)] ∧ Mm w [A.blk b [.string m] 9] w' := by
 refine enterH (l := [_]) rfl Tryz.ntmps147 rfl ?_
 refine hwNE ?_
 refine HL.one (H1.box rfl rfl rfl (fun b1 => ?_))
 refine hwNE ?_
 exact HX.ret1 rfl rfl fun w' hM => ⟨b1, trivial, rfl, hM⟩
theorem marked1_fn {b1 b2 : Nat} (m : UInt8) (l : List ByteArray) (w : World) (hG : RoundG w) (h1 : w.cell? ⟨b1, 0, none⟩ = some (.string (mkB m))) (h2 : Rd w (.slice (some ⟨b2, 0, none⟩) l.length l.length) (strs l)) (hb : b2 < w.heap.size) (hl : l.length ≤ 100) (hs : (catS l).size ≤ 800000) :
  Fn Tryz.prog 170 #[.slice (some ⟨b2, 0, none⟩) l.length l.length, .pointer (some ⟨b1, 0, none⟩)] w fun v w' => v = .string (markS m l) ∧ Ext w w' := by
 have hsz := mkB_size m (catS l)
 have hm1 : (mkB m).size = 1 := rfl
 refine enterH (l := [_, _]) rfl Tryz.ntmps170 rfl ?_
 refine hwNE ?_
 refine HC.quietS [(some 4, [1], []), (some 5, [0], []), (some 6, [5], [1]), (some 7, [4, 6], [0, 2]), (some 8, [7], [3, 2]), (some 3, [8], [4, 4, 0, 1, 2, 3, 4])] (by kernel_rfl) (by kernel_rfl) (by kernel_rfl) ?_
 refine HQ.ld rfl (fun w' hM => cell_ext hM.ext h1) rfl ?_
 refine qwA ?_
 refine HQ.call (vs := [.slice (some ⟨b2, 0, none⟩) l.length l.length, .string (ByteArray.mk #[])]) rfl rfl (fun w' hM => joinB_fn _ _ _ l w' (h2.ext hM.ext) (Nat.lt_of_lt_of_le hb hM.ext.size) hl (Nat.le_refl _) (by omega)) ?_
 refine qwA ?_
 refine HQ.call (vs := [_]) rfl rfl (fun w' hM => sum_fn (mkB m ++ catS l) (by omega) w' (hG.ext hM.ext)) ?_
 refine qwA ?_
 refine HQ.nil ?_
 refine hwNE ?_
 exact HX.ret1 rfl rfl fun w' hM => ⟨rfl, hM.ext⟩
end Go.Sx
/- Plain, chapter 2: the root of a list: by a stack of complete parts, and by halves. -/
namespace Go.Sx
open Go Go.RowKit
theorem snocI {α : Type} {p : List α → Prop} (h0 : p []) (h1 : ∀ l x, p l → p (l ++ [x])) (l : List α) : p l := by
 have : ∀ m : List α, p m.reverse := fun m => by
  induction m with
  | nil => exact h0
  | cons x m ih => rw [List.reverse_cons]; exact h1 _ _ ih
 simpa using this l.reverse
def nodeS (a b : ByteArray) : ByteArray := markS 1 [a, b]
def leafS (s : ByteArray) : ByteArray := markS 0 [s]
theorem nodeS_size (a b : ByteArray) : (nodeS a b).size = 32 := markS_size _ _
theorem leafS_size (s : ByteArray) : (leafS s).size = 32 := markS_size _ _
def mergeR : List (Nat × ByteArray) → List (Nat × ByteArray)
 | [] => []
 | [x] => [x]
 | x :: y :: r => if y.1 = x.1 then mergeR ((2 * x.1, nodeS y.2 x.2) :: r) else x :: y :: r
termination_by l => l.length
def stkR (l : List ByteArray) : List (Nat × ByteArray) := l.foldl (fun st s => mergeR ((1, leafS s) :: st)) []
def topR (out : ByteArray) (r : List (Nat × ByteArray)) : ByteArray := r.foldl (fun out y => nodeS y.2 out) out
def topS : List (Nat × ByteArray) → ByteArray
 | [] => sumS ⟨#[]⟩
 | x :: r => topR x.2 r
def rootS (l : List ByteArray) : ByteArray := topS (stkR l)
theorem stkR_snoc (l : List ByteArray) (s : ByteArray) : stkR (l ++ [s]) = mergeR ((1, leafS s) :: stkR l) := by unfold stkR; rw [List.foldl_append]; rfl
def sumR (l : List (Nat × ByteArray)) : Nat := (l.map Prod.fst).sum
theorem sumR_merge (l : List (Nat × ByteArray)) : sumR (mergeR l) = sumR l := by
 fun_induction mergeR l with
 | case1 => rfl
 | case2 => rfl
 | case3 x y r h ih =>
  rw [ih]
  simp only [sumR, List.map_cons, List.sum_cons, h]
  omega
 | case4 => rfl
theorem sumR_stk (l : List ByteArray) : sumR (stkR l) = l.length := by
 refine snocI (p := fun l => sumR (stkR l) = l.length) rfl (fun l s ih => ?_) l
 ·rw [stkR_snoc, sumR_merge, List.length_append]
  show 1 + sumR (stkR l) = _
  rw [ih]
  show _ = l.length + 1
  omega
def leftN (n : Nat) : Nat := 2 ^ Nat.log2 (n - 1)
theorem leftN_lt {n : Nat} (h : 2 ≤ n) : leftN n < n := by
 have := Nat.log2_self_le (n := n - 1) (by omega)
 unfold leftN; omega
theorem leftN_pos (n : Nat) : 0 < leftN n := Nat.two_pow_pos _
theorem leftN_eq {n j : Nat} (h1 : 2 ^ j < n) (h2 : n ≤ 2 * 2 ^ j) : leftN n = 2 ^ j := by
 have h3 := Nat.two_pow_pos j
 have h4 : Nat.log2 (n - 1) = j := (Nat.log2_eq_iff (by omega)).2 ⟨by omega, by rw [Nat.pow_succ]; omega⟩
 unfold leftN
 rw [h4]
def mroot (l : List ByteArray) : ByteArray :=
 if _h : 2 ≤ l.length then nodeS (mroot (l.take (leftN l.length))) (mroot (l.drop (leftN l.length))) else match l with
  | [] => sumS ⟨#[]⟩
  | x :: _ => leafS x
termination_by l.length
decreasing_by
 ·rw [List.length_take]; have := leftN_lt _h; omega
 ·rw [List.length_drop]; have := leftN_pos l.length; omega
theorem mroot_nil : mroot [] = sumS ⟨#[]⟩ := by rw [mroot]; rfl
theorem mroot_one (x : ByteArray) : mroot [x] = leafS x := by rw [mroot]; rfl
theorem mroot_step {l : List ByteArray} (h : 2 ≤ l.length) : mroot l = nodeS (mroot (l.take (leftN l.length))) (mroot (l.drop (leftN l.length))) := by rw [mroot, dif_pos h]
theorem mroot_app {a b : List ByteArray} {j : Nat} (ha : a.length = 2 ^ j) (h1 : 0 < b.length) (h2 : b.length ≤ 2 ^ j) : mroot (a ++ b) = nodeS (mroot a) (mroot b) := by
 have hp := Nat.two_pow_pos j
 have hl : leftN (a ++ b).length = a.length := by rw [List.length_append, ha]; exact leftN_eq (by omega) (by omega)
 rw [mroot_step (by rw [List.length_append]; omega), hl, List.take_left, List.drop_left]
inductive Parts : List (Nat × ByteArray) → List ByteArray → Prop
 | nil : Parts [] []
 | cons {st : List (Nat × ByteArray)} {l c : List ByteArray} {j : Nat} : Parts st l → c.length = 2 ^ j → (∀ x, st.head? = some x → 2 ^ j < x.1) → Parts ((2 ^ j, mroot c) :: st) (l ++ c)
theorem parts_head {st : List (Nat × ByteArray)} {l : List ByteArray} (h : Parts st l) {x : Nat × ByteArray} (hx : st.head? = some x) : ∃ m, x.1 = 2 ^ m := by
 cases h with
 | nil => cases hx
 | cons => cases hx; exact ⟨_, rfl⟩
theorem pow_two_lt {i j : Nat} (h : 2 ^ i < 2 ^ j) : 2 * 2 ^ i ≤ 2 ^ j := by
 have h1 : i < j := (Nat.pow_lt_pow_iff_right (by decide)).1 h
 have := Nat.pow_le_pow_right (n := 2) (by decide) (show i + 1 ≤ j from h1)
 rw [Nat.pow_succ] at this; omega
theorem parts_merge : ∀ (k : Nat) {st : List (Nat × ByteArray)} {l c : List ByteArray} {j : Nat}, st.length = k → Parts st l → c.length = 2 ^ j → (∀ x, st.head? = some x → 2 ^ j ≤ x.1) → Parts (mergeR ((2 ^ j, mroot c) :: st)) (l ++ c)
 | 0, st, l, c, j, hk, hp, hc, hh => by
  obtain rfl : st = [] := List.length_eq_zero_iff.1 hk
  have e : mergeR [((2 ^ j, mroot c) : Nat × ByteArray)] = [(2 ^ j, mroot c)] := by rw [mergeR]
  rw [e]
  exact .cons hp hc fun x h => by cases h
 | k + 1, st, l, c, j, hk, hp, hc, hh => by
  cases hp with
  | nil => cases hk
  | @cons st l c1 i hp1 hc1 hh1 =>
   have h1 := hh _ rfl
   dsimp only at h1
   by_cases he : 2 ^ i = 2 ^ j
   ·have e : mergeR (((2 ^ j, mroot c) : Nat × ByteArray) :: (2 ^ i, mroot c1) :: st) = mergeR ((2 ^ (j + 1), mroot (c1 ++ c)) :: st) := by
     rw [mergeR, if_pos he, mroot_app hc1 (by have := Nat.two_pow_pos j; omega) (by omega), Nat.pow_succ, Nat.mul_comm (2 ^ j)]
    rw [e, List.append_assoc]
    refine parts_merge k (by simpa using hk) hp1 (by rw [List.length_append, Nat.pow_succ]; omega) fun x hx => ?_
    have h2 := hh1 x hx
    obtain ⟨m, hm⟩ := parts_head hp1 hx
    rw [hm, he] at h2
    rw [hm, Nat.pow_succ, Nat.mul_comm]
    exact pow_two_lt h2
   ·have e : mergeR (((2 ^ j, mroot c) : Nat × ByteArray) :: (2 ^ i, mroot c1) :: st) = (2 ^ j, mroot c) :: (2 ^ i, mroot c1) :: st := by rw [mergeR, if_neg he]
    rw [e]
    exact .cons (.cons hp1 hc1 hh1) hc fun x hx => by cases hx; dsimp only; omega
theorem parts_stk (l : List ByteArray) : Parts (stkR l) l := by
 refine snocI (p := fun l => Parts (stkR l) l) .nil (fun l s ih => ?_) l
 ·rw [stkR_snoc, ← mroot_one s]
  refine parts_merge (j := 0) _ rfl ih rfl fun x hx => ?_
  obtain ⟨m, hm⟩ := parts_head ih hx
  rw [hm]; exact Nat.two_pow_pos m
theorem parts_top {st : List (Nat × ByteArray)} {l : List ByteArray} (h : Parts st l) : ∀ (t : List ByteArray), 0 < t.length → (∀ x, st.head? = some x → t.length ≤ x.1) → topR (mroot t) st = mroot (l ++ t) := by
 induction h with
 | nil => intro t _ _; rfl
 | @cons st l c j hp hc hh ih =>
  intro t h1 h2
  have h3 := h2 _ rfl
  dsimp only at h3
  show topR (nodeS (mroot c) (mroot t)) st = _
  rw [← mroot_app hc h1 h3, List.append_assoc]
  refine ih _ (by rw [List.length_append]; omega) fun x hx => ?_
  have h4 := hh x hx
  obtain ⟨m, hm⟩ := parts_head hp hx
  rw [hm] at h4 ⊢
  have := pow_two_lt h4
  rw [List.length_append]; omega
theorem parts_root {st : List (Nat × ByteArray)} {l : List ByteArray} (h : Parts st l) : topS st = mroot l := by
 cases h with
 | nil => exact mroot_nil.symm
 | @cons st l c j hp hc hh =>
  exact parts_top hp c (by have := Nat.two_pow_pos j; omega) fun x hx => by have := hh x hx; omega
theorem rootS_eq (l : List ByteArray) : rootS l = mroot l := parts_root (parts_stk l)
end Go.Sx
/- Chapter 1: the encoding of a string: the walk. -/
namespace Go.Sx
open Go Go.Proofs Go.RowKit
theorem strN_size {n : Nat} (h : n ≤ 1099511627776) : (strN n).size ≤ 9 := by
 show (putN n).length ≤ 9
 exact vint_len 8 (2 * n) (by omega)
attribute [local irreducible] WC WL WX POp Then Again Fn NX W1 WA WO QL RP RA Yld LoopAt HC HL HX HN H1 HA HO HQ HB HP A.blk A.grow A.rd A.obj A.mp AgainH CutH
theorem putString_fn (s : ByteArray) (hs : s.size ≤ 65536) (w : World) : Fn Tryz.prog 192 #[.string s] w fun v w' => v = .tuple #[.string (strN s.size ++ s), .int .i64 0] ∧ Ext w w' := by
 have hz := strN_size (n := s.size) (by omega)
 refine enterH (l := [_]) rfl Tryz.ntmps192 rfl ?_
 refine hwNE ?_
 refine HL.one (H1.callx (vs := [zv (s.size : Int)]) rfl rfl (fun w' _ => putInt_fn s.size (by omega) w') ?_)
 refine hwNE ?_
 exact HX.ret2 rfl rfl rfl fun w' hM => ⟨rfl, hM.ext⟩
end Go.Sx
/- Chapter 24: leaf: the walk. -/
namespace Go.Sx
open Go Go.Proofs Go.RowKit
def numB (x : Int) : ByteArray := strN x.toNat
def numsB (l : List Int) : ByteArray := l.foldl (fun s x => s ++ numB x) ⟨#[]⟩
theorem numsB_snoc (l : List Int) (x : Int) : numsB (l ++ [x]) = numsB l ++ numB x := by unfold numsB; rw [List.foldl_append]; rfl
theorem numsB_size1 : ∀ {l : List Int} (s : ByteArray), (∀ x ∈ l, x ≤ 1099511627776) → (l.foldl (fun s x => s ++ numB x) s).size ≤ s.size + 9 * l.length
 | [], _, _ => Nat.le_refl _
 | x :: l, s, h => by
  have h1 := numsB_size1 (l := l) (s ++ numB x) fun y hy => h y (.tail _ hy)
  have h2 : (numB x).size ≤ 9 := strN_size (n := x.toNat) (by have := h x (.head _); omega)
  have h3 : (s ++ numB x).size = s.size + (numB x).size := ByteArray.size_append
  show (l.foldl _ (s ++ numB x)).size ≤ _
  rw [List.length_cons]; omega
theorem numsB_size {l : List Int} (h : ∀ x ∈ l, x ≤ 1099511627776) : (numsB l).size ≤ 9 * l.length := by
 have := numsB_size1 (l := l) ⟨#[]⟩ h
 have h0 : (⟨#[]⟩ : ByteArray).size = 0 := rfl
 unfold numsB; omega
def leafN (n : Nd) : List Int := [n.id, n.kind, n.pack, (n.src.length : Int)] ++ n.src
def leafB (n : Nd) (d : ByteArray) : ByteArray := numsB (leafN n) ++ d
structure NdOk (n : Nd) : Prop where
 len : n.src.length ≤ 8
 num : ∀ x ∈ leafN n, 0 ≤ x ∧ x ≤ 1099511627776
attribute [local irreducible] WC WL WX POp Then Again Fn NX W1 WA WO QL RP RA Yld LoopAt HC HL HX HN H1 HA HO HQ HB HP A.blk A.grow A.rd A.obj A.mp AgainH CutH
attribute [local irreducible] A.mq A.mit
set_option maxHeartbeats 1000000 in
theorem leaf_fn {v g : Value} {l : List Nd} {D : List ByteArray} {U : Nat → Value} {i : Nat} (hi : i < l.length) (hlD : l.length = D.length) (_ : l.length ≤ 400000) (hok : NdOk (ndAt l i)) (hd : (getB D i).size ≤ 1000) (w : World) (hR : RdN w v l U) (hG : Rd w g (strs D)) :
  Fn Tryz.prog 88 #[.agg #[v, g], zv (i : Int)] w fun u w' => u = .string (leafB (ndAt l i) (getB D i)) ∧ Ext w w' := by
 have hU := rd_one (hR.src i hi)
 have hsrc := hR.src i hi
 obtain ⟨a, c, rfl, hc, -⟩ := id hR.shape
 obtain ⟨b, off, rfl, hb⟩ := hR.cell hi
 have hx := hb i hi
 obtain ⟨a2, c2, rfl, hc2⟩ : ∃ a c, g = .slice a D.length c ∧ D.length ≤ c := by
  obtain ⟨a, c, h1, h2, -⟩ := id hG
  have hz : (strs D).length = D.length := by simp [strs]
  rw [hz] at h1 h2
  exact ⟨a, c, h1, h2⟩
 obtain ⟨bd, offd, rfl⟩ := rd_addr hG (j := i) (by omega)
 have hdc := hG.cell (strs_getB (l := D) (i := i) (by omega))
 generalize ndAt l i = n at hok hsrc hx
 generalize getB D i = d at hd hdc
 generalize U i = Ui at hU hsrc hx
 obtain ⟨a4, c4, e4, hc4, -⟩ := id hsrc
 rw [ints_len] at e4 hc4
 subst e4
 have hcat : catL (fun i => if i = 0 then [n.id, n.kind, n.pack, (n.src.length : Int)] else n.src) 2 = leafN n := rfl
 have hll : (leafN n).length = 4 + n.src.length := by unfold leafN; rw [List.length_append]; rfl
 refine enterH (l := [_, _]) rfl Tryz.ntmps88 rfl ?_
 refine hwNB ?_
 refine HL.one (H1.boxAgg (cs := [.slice (some ⟨b, off, none⟩) l.length c, .slice (some ⟨bd, offd, none⟩) D.length c2]) rfl rfl (fun b1 => ?_))
 refine hwNB ?_
 refine HL.one (H1.ldAggw (b := b) (off := off + i * 4) (vs := ndC n (.slice a4 n.src.length c4)) rfl rfl (fun w' hM j u hu => cell_ext hM.ext (hx j u hu)) rfl ?_)
 refine hwNB ?_
 refine HL.one (H1.alloc (cs := ndC ⟨0, 0, 0, []⟩ (.slice none 0 0)) rfl rfl (fun b9 => ?_))
 refine hwNB ?_
 refine HL.one (H1.stAgg (cs := ndC ⟨0, 0, 0, []⟩ (.slice none 0 0)) (vs := ndC n (.slice a4 n.src.length c4)) rfl rfl rfl (nd_one hU) rplA rfl ?_)
 refine hwNB ?_
 refine HL.one (H1.lit (cs := [zv n.id, zv n.kind, zv n.pack, zv (n.src.length : Int)]) rfl rfl rfl rfl rfl rfl (fun b8 => ?_))
 refine hwNB ?_
 refine HL.one (H1.lit (cs := [.slice (some ⟨b8, 0, none⟩) 4 4, .slice a4 n.src.length c4]) rfl rfl rfl rfl rfl rfl (fun b7 => ?_))
 refine hwNB ?_
 refine HL.one (H1.callz (vs := [_]) rfl rfl (fun w' hM => concat_fn (n := 2) (V := fun i => if i = 0 then .slice (some ⟨b8, 0, none⟩) 4 4 else .slice a4 n.src.length c4) (L := fun i => if i = 0 then [n.id, n.kind, n.pack, (n.src.length : Int)] else n.src) (by decide) (by rw [hcat, hll]; omega) (by rw [hcat, hll]; have := hok.len; omega) w' (fun i hi => ?_) (fun i hi => ?_)) ?_)
 ·have hb7 := hM.blk (b := b7) (cs := [.slice (some ⟨b8, 0, none⟩) 4 4, .slice a4 n.src.length c4]) memA
  match i, hi with
  | 0, _ => exact hb7.cell rfl
  | 1, _ => exact hb7.cell rfl
 ·match i, hi with
  | 0, _ => exact Rd.of_blk (hM.blk (b := b8) memA) (Nat.le_refl 4) (Nat.le_refl 4)
  | 1, _ => exact hsrc.ext hM.ext
 rintro ⟨a5, c5⟩ -
 dsimp only
 rw [hcat]
 refine hwNB ?_
 have hnum := hok.num
 generalize hN : leafN n = N at hnum hll
 refine HC.loop (α := Nat) (fun k => [(1, zv (i : Int)), (2, .pointer (some ⟨b1, 0, none⟩)), (6, .string (numsB (N.take k))), (29, .slice a5 N.length c5), (30, zv (N.length : Int)), (31, zv (k : Int))]) (fun _ => [A.grow 3 1 a5 c5 N.length (ints N), A.blk b1 [.slice (some ⟨b, off, none⟩) l.length c, .slice (some ⟨bd, offd, none⟩) D.length c2] 84]) (fun k => k ≤ N.length) (fun k => N.length - k) 0 (Nat.zero_le _) esA (Hs.cons Pick.here (Hs.cons (Pick.there (Pick.there (Pick.there Pick.here))) (Hs.refl _).skip.skip.skip)) ?_
 intro k hk
 have hsz := numsB_size (l := N.take k) fun x hx => (hnum x (List.mem_of_mem_take hx)).2
 have hl8 := hok.len
 rw [List.length_take] at hsz
 by_cases hlt : k < N.length
 rotate_left
 ·have hk' : ¬ ((k : Nat) : Int) < (N.length : Int) := by omega
  obtain rfl : k = N.length := by omega
  rw [List.take_length] at hsz ⊢
  refine hwNB ?_
  refine HL.one (H1.ld0 rfl hdc rfl ?_)
  refine hwNB ?_
  exact HX.ret1 rfl rfl fun w' hM => ⟨by unfold leafB; rw [hN], hM.ext⟩
 have hk' : ((k : Nat) : Int) < (N.length : Int) := by omega
 refine HC.openg (.head _) (by omega) ?_
 rintro b0 rfl
 have hget := ints_getI hlt
 have hx0 := hnum (getI N k) (getI_mem hlt)
 have htk := getI_take hlt
 have hz9 := strN_size (n := (getI N k).toNat) (by omega)
 generalize getI N k = x at hget hx0 htk hz9
 refine hwNB ?_
 refine HL.one (H1.ldg rfl (.head _) hget rfl ?_)
 refine hwNB ?_
 refine HL.one (H1.callx (vs := [zv x]) rfl rfl (fun w' hM => by
  have h1 := putInt_fn x.toNat (by omega) w'
  rw [show ((x.toNat : Nat) : Int) = x by omega] at h1
  exact h1) ?_)
 refine hwNB ?_
 exact HX.again (k + 1) hlt (by show N.length - (k + 1) < N.length - k; omega) (by rw [htk, numsB_snoc]; repeat (first | exact trivial | refine ⟨rfl, ?_⟩)) (Hs.refl _)
end Go.Sx
/- Plain, chapter 24: roots of states; a deletion and its tombstone. -/
namespace Go.Sx
open Go Go.RowKit
def leafP (q : Nd × ByteArray) : ByteArray := leafB q.1 q.2
def rootP (p : List (Nd × ByteArray)) : ByteArray := rootS (p.map leafP)
theorem zip_back (p : List (Nd × ByteArray)) : (ndsP p).zip (digP p) = p := by
 induction p with
 | nil => rfl
 | cons q p ih =>
  show (q.1, q.2) :: (ndsP p).zip (digP p) = q :: p
  rw [ih]
theorem ndsP_len (p : List (Nd × ByteArray)) : (ndsP p).length = p.length := List.length_map ..
theorem digP_len (p : List (Nd × ByteArray)) : (digP p).length = p.length := List.length_map ..
def eqNd (a b : Nd) : Bool := decide (a.id = b.id) && decide (a.kind = b.kind) && decide (a.pack = b.pack) && decide (a.src = b.src)
theorem eqNd_iff {a b : Nd} : eqNd a b = true ↔ a = b := by
 unfold eqNd
 simp only [Bool.and_eq_true, decide_eq_true_eq]
 constructor
 ·rintro ⟨⟨⟨h1, h2⟩, h3⟩, h4⟩
  cases a; cases b
  dsimp only at h1 h2 h3 h4
  rw [h1, h2, h3, h4]
 ·rintro rfl
  exact ⟨⟨⟨rfl, rfl⟩, rfl⟩, rfl⟩
def eqNs : List Nd → List Nd → Bool
 | [], [] => true
 | a :: l, b :: m => eqNd a b && eqNs l m
 | _, _ => false
theorem eqNs_iff : ∀ {l m : List Nd}, eqNs l m = true ↔ l = m
 | [], [] => ⟨fun _ => rfl, fun _ => rfl⟩
 | [], _ :: _ => ⟨(fun h => by cases h), (fun h => by cases h)⟩
 | _ :: _, [] => ⟨(fun h => by cases h), (fun h => by cases h)⟩
 | a :: l, b :: m => by
  show (eqNd a b && eqNs l m) = true ↔ _
  rw [Bool.and_eq_true, eqNd_iff, eqNs_iff, List.cons.injEq]
def chkP (bef aft : ByteArray) (ns : List Int) (ds : List ByteArray) (l : List Nd) (D : List ByteArray) (l2 : List Nd) (D2 : List ByteArray) : Bool :=
 okS l D && okS l2 D2 && decide (ns.length ≠ 0) && decide (bef = rootP (l.zip D)) && decide (aft = rootP (l2.zip D2)) && decide (derA l ns = ns) && decide (digP (prN l D ns true) = ds) && (eqNs (ndsP (prN l D ns false)) l2 && decide (digP (prN l D ns false) = D2))
theorem okS_valid {l : List Nd} {D : List ByteArray} (h : okS l D = true) : ValidP l := validN_iff.1 (okS_facts h).1
theorem okS_of {l : List Nd} {D : List ByteArray} (h : ValidP l) (hl : l.length = D.length) (hd : ∀ d ∈ D, d.size = 32) : okS l D = true := by
 unfold okS
 rw [validN_iff.2 h, decide_eq_true hl, Bool.true_and, Bool.true_and, List.all_eq_true]
 exact fun d hd' => decide_eq_true (hd d hd')
theorem prN_dig {l : List Nd} {D : List ByteArray} {g : List Int} {b : Bool} {d : ByteArray} (h : d ∈ digP (prN l D g b)) : d ∈ D := by
 unfold digP prN at h
 obtain ⟨q, hq, rfl⟩ := List.mem_map.1 h
 exact (List.of_mem_zip (List.mem_filter.1 hq).1).2
theorem left_ok {l : List Nd} {D : List ByteArray} (h : okS l D = true) (p : Nat → Bool) : okS (ndsP (prN l D (derL l p l.length) false)) (digP (prN l D (derL l p l.length) false)) = true := by
 have h1 := okS_facts h
 have hv := okS_valid h
 refine okS_of ?_ (by rw [ndsP_len, digP_len]) fun d hd => h1.2.2 d (prN_dig hd)
 rw [prN_nds h1.2.1]
 exact left_valid hv (derL_isClosed hv p)
theorem lost_idsP {l : List Nd} {D : List ByteArray} (h : okS l D = true) (p : Nat → Bool) : idsN (ndsP (prN l D (derL l p l.length) true)) = srtI (derL l p l.length) := by
 rw [prN_nds (okS_facts h).2.1]
 exact lost_ids (okS_valid h) p
theorem lost_len {l : List Nd} {D : List ByteArray} (h : okS l D = true) (p : Nat → Bool) : (prN l D (derL l p l.length) true).length = (derL l p l.length).length := by
 have := congrArg List.length (lost_idsP h p)
 rwa [srtI_len, idsN, List.length_map, ndsP_len] at this
theorem tomb_true {l : List Nd} {D : List ByteArray} (h : okS l D = true) (p : Nat → Bool) (hne : derL l p l.length ≠ []) :
  chkP (rootP (l.zip D)) (rootP (prN l D (derL l p l.length) false)) (srtI (derL l p l.length)) (digP (prN l D (derL l p l.length) true)) l D (ndsP (prN l D (derL l p l.length) false)) (digP (prN l D (derL l p l.length) false)) = true := by
 have hc : ∀ b, prN l D (srtI (derL l p l.length)) b = prN l D (derL l p l.length) b := prN_congr fun x => mem_srtI
 have hlen : (srtI (derL l p l.length)).length ≠ 0 := by
  rw [srtI_len]
  exact fun e => hne (List.length_eq_zero_iff.1 e)
 unfold chkP
 rw [h, left_ok h p, zip_back, derA_twice (okS_valid h), hc, hc, decide_eq_true hlen, decide_eq_true rfl, decide_eq_true rfl, decide_eq_true rfl, decide_eq_true rfl, decide_eq_true rfl, eqNs_iff.2 rfl]
 rfl
end Go.Sx
