/- Chapter 24: sane: the walk. -/
import Derived.Test.YtfmiakflhkpnfaaGreatDoorQT10
namespace Go.Sx
open Go Go.Proofs Go.RowKit
def baseC (s4 s7 : Value) : List Value := [.slice none 0 0, .slice none 0 0, .slice none 0 0, .slice none 0 0, s4, .slice none 0 0, .slice none 0 0, s7]
section
variable {vb v g : Value} {B : Nat → List Rc} {l : List Nd} {D : List ByteArray} {U : Nat → Value} {o d : Int}
theorem delete_no (hq : delQ B l D o d = none) (hl : l.length ≤ 400000) (hls : ∀ i, i < l.length → (ndAt l i).src.length ≤ 1000000) (hD : D.length ≤ 1000000) (hDs : ∀ d ∈ D, d.size ≤ 1000) (hB7 : (B 7).length ≤ 1000000) (hB4 : (B 4).length ≤ 1000000) (hB5 : (B 5).length ≤ 1000000) (w : World) (hG : RoundG w) (hB : BaseV w vb B) (hR : RdN w v l U) (hS : Rd w g (strs D)) :
  Fn Tryz.prog 9 #[vb, v, g, zv o, zv d] w fun u w' => u = delNo ∧ Ext w w' := (delete_fn o d hl hls hD hDs hB7 hB4 hB5 w hG hB hR hS).mono fun u w' h => by
 rcases h with ⟨-, h⟩ | ⟨pk, h, -⟩
 ·exact h
 ·rw [hq] at h; cases h
theorem delete_yes {pk : Int} (hq : delQ B l D o d = some pk) (hl : l.length ≤ 400000) (hls : ∀ i, i < l.length → (ndAt l i).src.length ≤ 1000000) (hD : D.length ≤ 1000000) (hDs : ∀ d ∈ D, d.size ≤ 1000) (hB7 : (B 7).length ≤ 1000000) (hB4 : (B 4).length ≤ 1000000) (hB5 : (B 5).length ≤ 1000000) (w : World) (hG : RoundG w) (hB : BaseV w vb B) (hR : RdN w v l U) (hS : Rd w g (strs D)) :
  Fn Tryz.prog 9 #[vb, v, g, zv o, zv d] w fun u w' => ∃ z : DelZ, ndsZ z.left = ndsP (prN l D (goneL l pk) false) ∧ u = delYes o d l D pk z ∧ Mm w (delH l D pk z) w' := (delete_fn o d hl hls hD hDs hB7 hB4 hB5 w hG hB hR hS).mono fun u w' h => by
 rcases h with ⟨h, -⟩ | ⟨pk', h, h2⟩
 ·rw [hq] at h; cases h
 ·rw [hq] at h; cases h; exact h2
end
attribute [local irreducible] WC WL WX POp Then Again Fn NX W1 WA WO QL RP RA Yld LoopAt HC HL HX HN H1 HA HO HQ HB HP A.blk A.grow A.rd A.obj A.mp AgainH CutH
attribute [local irreducible] A.mq A.mit A.all sumS rootP
end Go.Sx
/- Plain, chapter 24: the nodes that integers determine are valid. -/
namespace Go.Sx
open Go Go.RowKit
def yI (y : List Int) (j : Nat) : Int := y.getD j 0
def lastId : List Nd → Int
 | [] => 0
 | n :: l => match l with
  | [] => n.id
  | _ :: _ => lastId l
theorem lastId_snoc (l : List Nd) (n : Nd) : lastId (l ++ [n]) = n.id := by
 induction l with
 | nil => rfl
 | cons m l ih =>
  cases l with
  | nil => rfl
  | cons k l => exact ih
def srcA (l : List Nd) (y : List Int) : Nat := (pickI21 (yI y 2) l.length).toNat
def srcB (l : List Nd) (y : List Int) : Nat := (pickI21 (yI y 3) l.length).toNat
def idM (l : List Nd) (y : List Int) : Int := lastId l + 1 + pickI21 (yI y 0) 3
def isSrc (l : List Nd) (y : List Int) : Prop := 0 < l.length ∧ 0 < pickI21 ((yI y 0).tdiv 3) 3
instance (l : List Nd) (y : List Int) : Decidable (isSrc l y) := by unfold isSrc; infer_instance
def mkNd (l : List Nd) (y : List Int) : Nd :=
 if isSrc l y then ⟨idM l y, 2 + pickI21 ((yI y 1).tdiv 4) 4, (ndAt l (srcA l y)).pack, (ndAt l (min (srcA l y) (srcB l y))).id :: if srcA l y = srcB l y then [] else [(ndAt l (max (srcA l y) (srcB l y))).id]⟩
 else ⟨idM l y, 1, 1 + pickI21 (yI y 1) 4, []⟩
def madeL (rows : List (List Int)) : Nat → List Nd
 | 0 => []
 | i + 1 => madeL rows i ++ [mkNd (madeL rows i) (rows.getD i [])]
theorem madeL_len (rows : List (List Int)) : ∀ i, (madeL rows i).length = i
 | 0 => rfl
 | i + 1 => by show (_ ++ [_]).length = _; rw [List.length_append, madeL_len rows i]; rfl
theorem mkNd_id (l : List Nd) (y : List Int) : (mkNd l y).id = idM l y := by unfold mkNd; split <;> rfl
theorem ndAt_app_l {l : List Nd} {n : Nd} {i : Nat} (h : i < l.length) : ndAt (l ++ [n]) i = ndAt l i := by unfold ndAt; rw [List.getD_eq_getElem?_getD, List.getD_eq_getElem?_getD, List.getElem?_append_left h]
theorem ndAt_app_r (l : List Nd) (n : Nd) : ndAt (l ++ [n]) l.length = n := by unfold ndAt; simp
theorem valid_snoc {l : List Nd} {n : Nd} (h : ValidP l) (hl : l.length < 400) (hn : HasP l n) (hi : ∀ j, j < l.length → (ndAt l j).id < n.id) : ValidP (l ++ [n]) := by
 refine ⟨by rw [List.length_append]; exact hl, fun i j hij hj => ?_, fun i hi2 => ?_⟩
 ·rw [List.length_append, List.length_singleton] at hj
  by_cases e : j = l.length
  ·subst e
   rw [ndAt_app_r, ndAt_app_l hij]
   exact hi i hij
  ·rw [ndAt_app_l (by omega), ndAt_app_l (by omega)]
   exact h.asc i j hij (by omega)
 ·rw [List.length_append, List.length_singleton] at hi2
  by_cases e : i = l.length
  ·subst e
   rw [ndAt_app_r, List.take_left' rfl]
   exact hasN_iff.2 hn
  ·rw [ndAt_app_l (by omega), List.take_append_of_le_length (by omega)]
   exact h.node i (by omega)
structure MadeP (l : List Nd) : Prop where
 valid : ValidP l
 id : ∀ j, j < l.length → (ndAt l j).id ≤ lastId l
 last : 0 ≤ lastId l ∧ lastId l ≤ 3 * l.length
 pack : ∀ j, j < l.length → 1 ≤ (ndAt l j).pack ∧ (ndAt l j).pack ≤ 4
theorem ValidP.nil : ValidP [] := ⟨Nat.zero_le _, (fun _ _ _ h => by cases h), (fun _ h => by cases h)⟩
theorem made_nil : MadeP [] := ⟨ValidP.nil, (fun _ h => by cases h), by decide, (fun _ h => by cases h)⟩
theorem pickNat (c : Int) {n : Nat} (h : 0 < n) : (pickI21 c n).toNat < n ∧ ((pickI21 c n).toNat : Int) = pickI21 c n := by
 have := pickI21_lt c (n := (n : Int)) (by omega)
 omega
theorem made_step {l : List Nd} (h : MadeP l) (hl : l.length < 100) (y : List Int) : MadeP (l ++ [mkNd l y]) := by
 have h1 := pickI21_lt (yI y 0) (n := 3) (by decide)
 have h2 := pickI21_lt (yI y 1) (n := 4) (by decide)
 have h3 := pickI21_lt ((yI y 1).tdiv 4) (n := 4) (by decide)
 have hl1 := h.last
 have hid : idM l y = lastId l + 1 + pickI21 (yI y 0) 3 := rfl
 have hok : idOk (idM l y) := by unfold idOk; omega
 have hless : ∀ j, j < l.length → (ndAt l j).id < idM l y := fun j hj => by have := h.id j hj; omega
 have hnd : (idsN l).Nodup := ascI_nodup (idsN_asc h.valid)
 have hn : HasP l (mkNd l y) ∧ 1 ≤ (mkNd l y).pack ∧ (mkNd l y).pack ≤ 4 := by
  unfold mkNd
  split
  ·rename_i hs
   have ha := pickNat (yI y 2) hs.1
   have hb := pickNat (yI y 3) hs.1
   rw [show (pickI21 (yI y 2) l.length).toNat = srcA l y from rfl] at ha
   rw [show (pickI21 (yI y 3) l.length).toNat = srcB l y from rfl] at hb
   generalize srcA l y = a at ha
   generalize srcB l y = b at hb
   have hpa := h.pack a ha.1
   have hida : ∀ j, j < l.length → ∃ n ∈ l, (ndAt l j).id = n.id := fun j hj => ⟨_, mem_nd.2 ⟨j, hj, rfl⟩, rfl⟩
   have hmem : (ndAt l a).id ∈ (ndAt l (min a b)).id :: if a = b then [] else [(ndAt l (max a b)).id] := by
    by_cases e : a = b
    ·rw [if_pos e]; subst e; rw [Nat.min_self]; exact .head _
    ·rw [if_neg e]
     by_cases e2 : a ≤ b
     ·rw [Nat.min_eq_left e2]; exact .head _
     ·rw [Nat.max_eq_left (by omega)]; exact .tail _ (.head _)
   refine ⟨⟨hok, ⟨hpa.1, by dsimp only; omega⟩, by dsimp only; omega, by dsimp only; omega, ?_, ?_, ?_, .inr ?_, ?_⟩, hpa⟩
   ·dsimp only; split <;> simp
   ·dsimp only; constructor
    ·intro e; omega
    ·intro e; split at e <;> simp at e
   ·intro x hx
    rw [pkOf_mem]
    dsimp only at hx
    rcases List.mem_cons.1 hx with rfl | hx
    ·exact hida _ (by omega)
    ·split at hx
     ·cases hx
     ·rw [List.mem_singleton] at hx; subst hx; exact hida _ (by omega)
   ·unfold ownB
    rw [List.any_eq_true]
    exact ⟨_, hmem, by rw [pkOf_uniq hnd (mem_nd.2 ⟨a, ha.1, rfl⟩)]; simp⟩
   ·dsimp only
    by_cases e : a = b
    ·rw [if_pos e]; exact ascI_short (Nat.le_refl 1)
    ·rw [if_neg e]
     unfold AscI
     refine List.pairwise_cons.2 ⟨fun z hz => ?_, List.pairwise_singleton _ _⟩
     rw [List.mem_singleton] at hz; subst hz
     exact h.valid.asc _ _ (by omega) (by omega)
  ·refine ⟨⟨hok, ⟨by dsimp only; omega, by dsimp only; omega⟩, by dsimp only; omega, by dsimp only; omega, by simp, ⟨fun _ => rfl, fun _ => rfl⟩, (fun x hx => by cases hx), .inl rfl, ascI_short (Nat.zero_le _)⟩, by dsimp only; omega, by dsimp only; omega⟩
 refine ⟨valid_snoc h.valid (by omega) hn.1 fun j hj => by rw [mkNd_id]; exact hless j hj, fun j hj => ?_, ?_, fun j hj => ?_⟩
 ·rw [lastId_snoc, mkNd_id]
  rw [List.length_append, List.length_singleton] at hj
  by_cases e : j = l.length
  ·subst e; rw [ndAt_app_r, mkNd_id]; exact Int.le_refl _
  ·rw [ndAt_app_l (by omega)]
   have := hless j (by omega); omega
 ·rw [lastId_snoc, mkNd_id, List.length_append, List.length_singleton]
  omega
 ·rw [List.length_append, List.length_singleton] at hj
  by_cases e : j = l.length
  ·subst e; rw [ndAt_app_r]; exact hn.2
  ·rw [ndAt_app_l (by omega)]; exact h.pack j (by omega)
theorem madeL_ok (rows : List (List Int)) : ∀ i, i ≤ 100 → MadeP (madeL rows i)
 | 0, _ => made_nil
 | i + 1, h => made_step (madeL_ok rows i (by omega)) (by rw [madeL_len]; omega) _
end Go.Sx
/- Chapters 1 and 6: the reference's numbers: the walks. -/
namespace Go.Sx
open Go Go.Proofs Go.RowKit
section
variable {P : Program} {N : Nat} {ds : List Deferred} {E : Env} {t t' ty : TypeId} {x y : Operand} {a b : Nat}
theorem POp.remU (hx : Env.ev E x = some (.int .u64 (a : Int))) (hy : Env.ev E y = some (.int .u64 (b : Int))) (h2 : 0 < b) : POp P N ds E (.binOp .rem t x y t') ty (.int .u64 ((a % b : Nat) : Int)) := POp.bin hx hy guard_int fun w => by
 have e : (b : Int) ≠ 0 := by omega
 rw [binOp_rem]
 simp only [Op.intDiv, e, if_false]
 rw [Int.tmod_eq_emod_of_nonneg (by omega)]; rfl
theorem POp.quoU (hx : Env.ev E x = some (.int .u64 (a : Int))) (hy : Env.ev E y = some (.int .u64 (b : Int))) (h1 : a < 18446744073709551616) (h2 : 0 < b) : POp P N ds E (.binOp .quo t x y t') ty (.int .u64 ((a / b : Nat) : Int)) := POp.bin hx hy guard_int fun w => by
 have e : (b : Int) ≠ 0 := by omega
 have hle : a / b ≤ a := Nat.div_le_self a b
 rw [binOp_quo]
 simp only [Op.intDiv, e, if_false]
 rw [Int.tdiv_eq_ediv_of_nonneg (by omega), show (a : Int) / (b : Int) = ((a / b : Nat) : Int) from rfl, wrap_u64 (by omega)]; rfl
theorem POp.addU (hx : Env.ev E x = some (.int .u64 (a : Int))) (hy : Env.ev E y = some (.int .u64 (b : Int))) (h1 : a + b < 18446744073709551616) : POp P N ds E (.binOp .add t x y t') ty (.int .u64 ((a + b : Nat) : Int)) := (POp.add' hx hy).of (by
 rw [show (a : Int) + (b : Int) = ((a + b : Nat) : Int) by omega, wrap_u64 h1])
theorem POp.mulU (hx : Env.ev E x = some (.int .u64 (a : Int))) (hy : Env.ev E y = some (.int .u64 (b : Int))) (h1 : a * b < 18446744073709551616) : POp P N ds E (.binOp .mul t x y t') ty (.int .u64 ((a * b : Nat) : Int)) := (POp.mul' hx hy).of (by
 rw [show (a : Int) * (b : Int) = ((a * b : Nat) : Int) by simp, wrap_u64 h1])
end
theorem unz_hi24 {z : Nat} (h : z < 9223372036854775808) : unz z ≤ 4611686018427387903 ∧ -4611686018427387904 ≤ unz z := by
 unfold unz; split <;> omega
def refIntV24 (z : Nat) : Value := if unz z < -4611686018427387903 then .tuple #[.string (mkBA []), zv 10] else .tuple #[.string (mkBA (vint z)), zv 0]
def zz24 (x : Int) : Nat := if 0 ≤ x then (2 * x).toNat else (-2 * x - 1).toNat
theorem unz_zz (x : Int) : unz (zz24 x) = x := by unfold unz zz24; split <;> split <;> omega
def rnB (x : Int) : ByteArray := if -4611686018427387903 ≤ x ∧ x ≤ 4611686018427387903 then mkBA (vint (zz24 x)) else mkBA []
def rnE (x : Int) : Int := if -4611686018427387903 ≤ x ∧ x ≤ 4611686018427387903 then 0 else 10
theorem rnB_size (x : Int) : (rnB x).size ≤ 9 := by
 unfold rnB
 split
 ·exact vint_len 8 (zz24 x) (by unfold zz24; split <;> omega)
 ·exact Nat.zero_le _
def rnsB (l : List Int) : ByteArray := l.foldl (fun s x => s ++ rnB x) ⟨#[]⟩
theorem rnsB_snoc (l : List Int) (x : Int) : rnsB (l ++ [x]) = rnsB l ++ rnB x := by unfold rnsB; rw [List.foldl_append]; rfl
theorem rnsB_size (l : List Int) : (rnsB l).size ≤ 9 * l.length := by
 refine snocI (p := fun l => (rnsB l).size ≤ 9 * l.length) (Nat.le_refl _) (fun l x ih => ?_) l
 have := rnB_size x
 rw [rnsB_snoc, ByteArray.size_append, List.length_append, List.length_singleton]
 omega
attribute [local irreducible] WC WL WX POp Then Again Fn NX W1 WA WO QL RP RA Yld LoopAt HC HL HX HN H1 HA HO HQ HB HP A.blk A.grow A.rd A.obj A.mp AgainH CutH
theorem zigzag24_fn (z : Nat) (hz : z < 9223372036854775808) (w : World) : Fn Tryz.prog 120 #[zv (unz z)] w fun v w' => v = .int .u64 (z : Int) ∧ w = w' := by
 refine enter (l := [_]) rfl Tryz.ntmps120 rfl ?_
 by_cases h : z % 2 = 0
 ·have hu : unz z = ((z / 2 : Nat) : Int) := by unfold unz; rw [if_pos h]
  have h0 : ¬ ((z / 2 : Nat) : Int) < 0 := by omega
  have e : z / 2 * 2 = z := by omega
  rw [hu]
  repeat' (first | apply WL.fold | apply WA.fold | apply WL.nil | apply WX.n_then | apply WC.seq | apply WC.region | refine WL.pa ?_ | refine WL.ga rfl ?_ | refine WL.na rfl ?_ | refine WL.nu rfl rfl ?_ | apply WC.block | apply WC.skip | apply WC.exit | apply WC.ret | apply WX.e_block | refine WX.e_other rfl ?_ | apply WX.e_then | apply WX.e_again | apply WX.n_block | apply WX.r_then | apply WX.r_block | apply WX.r_again | refine WC.cond_yes rfl ?_ | refine WC.cond_no rfl ?_ | refine WC.cond rfl (fun hc => ?_) (fun hc => ?_) | refine WC.cond_b rfl (fun hc => ?_) (fun hc => ?_))
  refine WL.pa ?_ ((POp.conv (k' := .u64) rfl).of (v' := .int .u64 ((z / 2 : Nat) : Int)) (by rw [wrap_u64 (by omega)]))
  repeat' (first | apply WL.fold | apply WA.fold | apply WL.nil | apply WX.n_then | apply WC.seq | apply WC.region | refine WL.pa ?_ | refine WL.ga rfl ?_ | refine WL.na rfl ?_ | refine WL.nu rfl rfl ?_ | apply WC.block | apply WC.skip | apply WC.exit | apply WC.ret | apply WX.e_block | refine WX.e_other rfl ?_ | apply WX.e_then | apply WX.e_again | apply WX.n_block | apply WX.r_then | apply WX.r_block | apply WX.r_again | refine WC.cond_yes rfl ?_ | refine WC.cond_no rfl ?_ | refine WC.cond rfl (fun hc => ?_) (fun hc => ?_) | refine WC.cond_b rfl (fun hc => ?_) (fun hc => ?_))
  refine WL.pa ?_ (POp.mulU (a := z / 2) (b := 2) rfl rfl (by omega))
  rw [e]
  repeat' (first | apply WL.fold | apply WA.fold | apply WL.nil | apply WX.n_then | apply WC.seq | apply WC.region | refine WL.pa ?_ | refine WL.ga rfl ?_ | refine WL.na rfl ?_ | refine WL.nu rfl rfl ?_ | apply WC.block | apply WC.skip | apply WC.exit | apply WC.ret | apply WX.e_block | refine WX.e_other rfl ?_ | apply WX.e_then | apply WX.e_again | apply WX.n_block | apply WX.r_then | apply WX.r_block | apply WX.r_again | refine WC.cond_yes rfl ?_ | refine WC.cond_no rfl ?_ | refine WC.cond rfl (fun hc => ?_) (fun hc => ?_) | refine WC.cond_b rfl (fun hc => ?_) (fun hc => ?_))
  exact WX.ret1 rfl rfl ⟨rfl, rfl⟩
 ·have hu : unz z = -((z / 2 : Nat) : Int) - 1 := by unfold unz; rw [if_neg h]
  obtain ⟨m, hm⟩ : ∃ m, m = z / 2 := ⟨_, rfl⟩
  rw [← hm] at hu
  have h0 : -(m : Int) - 1 < 0 := by omega
  have e1 : -(-(m : Int) - 1) = ((m + 1 : Nat) : Int) := by omega
  have e2 : (m + 1) * 2 - 1 = z := by omega
  rw [hu]
  repeat' (first | apply WL.fold | apply WA.fold | apply WL.nil | apply WX.n_then | apply WC.seq | apply WC.region | refine WL.pa ?_ | refine WL.ga rfl ?_ | refine WL.na rfl ?_ | refine WL.nu rfl rfl ?_ | apply WC.block | apply WC.skip | apply WC.exit | apply WC.ret | apply WX.e_block | refine WX.e_other rfl ?_ | apply WX.e_then | apply WX.e_again | apply WX.n_block | apply WX.r_then | apply WX.r_block | apply WX.r_again | refine WC.cond_yes rfl ?_ | refine WC.cond_no rfl ?_ | refine WC.cond rfl (fun hc => ?_) (fun hc => ?_) | refine WC.cond_b rfl (fun hc => ?_) (fun hc => ?_))
  rw [e1]
  refine WL.pa ?_ ((POp.conv (k' := .u64) rfl).of (v' := .int .u64 ((m + 1 : Nat) : Int)) (by rw [wrap_u64 (by omega)]))
  repeat' (first | apply WL.fold | apply WA.fold | apply WL.nil | apply WX.n_then | apply WC.seq | apply WC.region | refine WL.pa ?_ | refine WL.ga rfl ?_ | refine WL.na rfl ?_ | refine WL.nu rfl rfl ?_ | apply WC.block | apply WC.skip | apply WC.exit | apply WC.ret | apply WX.e_block | refine WX.e_other rfl ?_ | apply WX.e_then | apply WX.e_again | apply WX.n_block | apply WX.r_then | apply WX.r_block | apply WX.r_again | refine WC.cond_yes rfl ?_ | refine WC.cond_no rfl ?_ | refine WC.cond rfl (fun hc => ?_) (fun hc => ?_) | refine WC.cond_b rfl (fun hc => ?_) (fun hc => ?_))
  refine WL.pa ?_ (POp.mulU (a := m + 1) (b := 2) rfl rfl (by omega))
  repeat' (first | apply WL.fold | apply WA.fold | apply WL.nil | apply WX.n_then | apply WC.seq | apply WC.region | refine WL.pa ?_ | refine WL.ga rfl ?_ | refine WL.na rfl ?_ | refine WL.nu rfl rfl ?_ | apply WC.block | apply WC.skip | apply WC.exit | apply WC.ret | apply WX.e_block | refine WX.e_other rfl ?_ | apply WX.e_then | apply WX.e_again | apply WX.n_block | apply WX.r_then | apply WX.r_block | apply WX.r_again | refine WC.cond_yes rfl ?_ | refine WC.cond_no rfl ?_ | refine WC.cond rfl (fun hc => ?_) (fun hc => ?_) | refine WC.cond_b rfl (fun hc => ?_) (fun hc => ?_))
  refine WL.pa ?_ (POp.sub64 (a := (m + 1) * 2) (b := 1) rfl rfl rfl rfl (by omega) (by omega))
  rw [e2]
  repeat' (first | apply WL.fold | apply WA.fold | apply WL.nil | apply WX.n_then | apply WC.seq | apply WC.region | refine WL.pa ?_ | refine WL.ga rfl ?_ | refine WL.na rfl ?_ | refine WL.nu rfl rfl ?_ | apply WC.block | apply WC.skip | apply WC.exit | apply WC.ret | apply WX.e_block | refine WX.e_other rfl ?_ | apply WX.e_then | apply WX.e_again | apply WX.n_block | apply WX.r_then | apply WX.r_block | apply WX.r_again | refine WC.cond_yes rfl ?_ | refine WC.cond_no rfl ?_ | refine WC.cond rfl (fun hc => ?_) (fun hc => ?_) | refine WC.cond_b rfl (fun hc => ?_) (fun hc => ?_))
  exact WX.ret1 rfl rfl ⟨rfl, rfl⟩
attribute [local irreducible] unz
set_option maxHeartbeats 1000000 in
theorem putZ24_fn (z0 : Nat) (hz0 : z0 < 9223372036854775808) (w : World) : Fn Tryz.prog 53 #[zv (unz z0)] w fun v w' => v = refIntV24 z0 ∧ Ext w w' := by
 have hub := unz_hi24 hz0
 refine enterH (l := [_]) rfl Tryz.ntmps53 rfl ?_
 by_cases h1 : unz z0 < -4611686018427387903
 ·refine hwNB ?_
  exact HX.ret2 rfl rfl rfl fun w' hM => ⟨by unfold refIntV24; rw [if_pos h1]; rfl, hM.ext⟩
 have h2 : ¬ (4611686018427387903 : Int) < unz z0 := by omega
 have hvl := vint_len 8 z0 (by omega)
 refine hwNB ?_
 refine HL.one (H1.call0 (vs := [_]) rfl rfl (fun w' hM => zigzag24_fn z0 hz0 w') ?_)
 refine hwNB ?_
 refine HC.grow0 5 1 ?_
 refine HC.loop (α := Nat × List UInt8 × Option Addr × Nat) (fun z => [(4, .int .u64 (z.1 : Int)), (5, .slice z.2.2.1 z.2.1.length z.2.2.2)]) (fun z => [A.grow 5 1 z.2.2.1 z.2.2.2 z.2.1.length (ub z.2.1)]) (fun z => z.1 ≤ z0 ∧ z.2.1 ++ vint z.1 = vint z0) (fun z => z.1) (z0, [], none, 0) ⟨Nat.le_refl _, rfl⟩ esA (Hs.refl _) ?_
 rintro ⟨z, ys, a, c⟩ ⟨hz, hv⟩
 dsimp only at hz hv ⊢
 have hlen : ys.length ≤ 9 := by
  have h3 := congrArg List.length hv
  rw [List.length_append] at h3
  omega
 by_cases hlt : z < 128
 ·have hge : ¬ (128 : Int) ≤ (z : Int) := by omega
  have hvz := vint_lt hlt
  have hub := ub_snoc ys (g := z) (by omega)
  refine hwNB ?_
  refine HL.one (H1.lit (cs := [.int .u8 (z : Int)]) rfl rfl rfl rfl rfl rfl (fun b9 => ?_))
  refine hwNB ?_
  refine HL.one (H1.app1 (u := .int .u8 (z : Int)) rfl rfl (fun _ _ => by first | ((repeat (first | with_reducible exact Rpl.here | with_reducible apply Rpl.there)); done) | (repeat (first | exact Rpl.here | apply Rpl.there))) memA rfl rfl (by omega) rfl rfl (fun a' c' => ?_))
  rw [hub, show ys.length + 1 = (ys ++ [UInt8.ofNat z]).length from by rw [List.length_append]; rfl]
  refine hwNB ?_
  refine HL.one (H1.bstrg (ys := ys ++ [UInt8.ofNat z]) (c := c') (b := a') rfl memA rfl ?_)
  refine hwNB ?_
  refine HX.ret2 rfl rfl rfl fun w' hM => ⟨?_, hM.ext⟩
  unfold refIntV24
  rw [if_neg h1, ← hvz, hv]; rfl
 ·have hge : (128 : Int) ≤ (z : Int) := by omega
  have hvz := vint_ge hlt
  have hub := ub_snoc ys (g := z % 128 + 128) (by omega)
  refine hwNB ?_
  refine HL.pa ?_ (POp.remU (a := z) (b := 128) rfl rfl (by decide))
  refine hwNB ?_
  refine HL.pa ?_ (POp.addU (a := z % 128) (b := 128) rfl rfl (by omega))
  refine hwNB ?_
  refine HL.one (H1.lit (cs := [.int .u8 ((z % 128 + 128 : Nat) : Int)]) rfl rfl rfl rfl rfl rfl (fun b9 => ?_))
  refine hwNB ?_
  refine HL.one (H1.app1 (u := .int .u8 ((z % 128 + 128 : Nat) : Int)) rfl rfl (fun _ _ => by first | ((repeat (first | with_reducible exact Rpl.here | with_reducible apply Rpl.there)); done) | (repeat (first | exact Rpl.here | apply Rpl.there))) memA rfl rfl (by omega) rfl rfl (fun a' c' => ?_))
  rw [hub, show ys.length + 1 = (ys ++ [UInt8.ofNat (z % 128 + 128)]).length from by rw [List.length_append]; rfl]
  refine hwNB ?_
  refine HL.pa ?_ (POp.quoU (a := z) (b := 128) rfl rfl (by omega) (by decide))
  refine hwNB ?_
  exact HX.again (z / 128, ys ++ [UInt8.ofNat (z % 128 + 128)], some ⟨a', 0, none⟩, c') ⟨by show z / 128 ≤ _; omega, by show (ys ++ _) ++ vint (z / 128) = _; rw [← hv, hvz, List.append_assoc]; rfl⟩ (by show z / 128 < z; omega) esA (Hs.cons (Pick.there Pick.here) (Hs.nil _))
theorem putI24_fn (x : Int) (_ : i64W x) (w : World) : Fn Tryz.prog 53 #[zv x] w fun v w' => v = .tuple #[.string (rnB x), zv (rnE x)] ∧ Ext w w' := by
 by_cases h1 : 4611686018427387903 < x
 ·refine enterH (l := [_]) rfl Tryz.ntmps53 rfl ?_
  have h2 : ¬ x < -4611686018427387903 := by omega
  refine hwNB ?_
  exact HX.ret2 rfl rfl rfl fun w' hM => ⟨by unfold rnB rnE; rw [if_neg (by omega), if_neg (by omega)]; rfl, hM.ext⟩
 by_cases h2 : x < -4611686018427387903
 ·refine enterH (l := [_]) rfl Tryz.ntmps53 rfl ?_
  refine hwNB ?_
  exact HX.ret2 rfl rfl rfl fun w' hM => ⟨by unfold rnB rnE; rw [if_neg (by omega), if_neg (by omega)]; rfl, hM.ext⟩
 have h := putZ24_fn (zz24 x) (by unfold zz24; split <;> omega) w
 rw [unz_zz] at h
 unfold refIntV24 at h
 rw [unz_zz, if_neg h2] at h
 unfold rnB rnE
 rw [if_pos (by omega), if_pos (by omega)]
 exact h
theorem numbers24_fn (v : Value) (l : List Int) (hl : l.length ≤ 1000) (hi : ∀ x ∈ l, i64W x) (w : World) (hR : Rd w v (ints l)) : Fn Tryz.prog 16 #[v] w fun u w' => u = .string (rnsB l) ∧ Ext w w' := by
 obtain ⟨a, c, rfl, hc⟩ := hR.isInts
 refine enterH (l := [_]) rfl Tryz.ntmps16 rfl ?_
 refine hwNB ?_
 refine HC.loop (α := Nat) (fun k => [(0, .slice a l.length c), (3, .string (rnsB (l.take k))), (4, zv (k : Int))]) (fun _ => []) (fun k => k ≤ l.length) (fun k => l.length - k) 0 (Nat.zero_le _) esA (Hs.refl _) ?_
 intro k hk
 have hsz := rnsB_size (l.take k)
 rw [List.length_take] at hsz
 by_cases hlt : k < l.length
 ·have hn : ((k : Nat) : Int) < (l.length : Int) := by omega
  have htk : rnsB (l.take (k + 1)) = rnsB (l.take k) ++ rnB (getI l k) := by rw [getI_take hlt, rnsB_snoc]
  obtain ⟨b, off, rfl⟩ := rd_addr hR hlt
  have hcl := hR.cell (ints_getI hlt)
  have hix := hi (getI l k) (getI_mem hlt)
  have h9 := rnB_size (getI l k)
  generalize getI l k = x at htk hcl hix h9
  refine hwNB ?_
  refine HL.one (H1.ld0 rfl hcl rfl ?_)
  refine hwNB ?_
  refine HL.one (H1.callx (vs := [_]) rfl rfl (fun w' hM => putI24_fn x hix w') ?_)
  refine hwNB ?_
  exact HX.again (k + 1) hlt (by show l.length - (k + 1) < l.length - k; omega) (by rw [htk]; repeat (first | exact trivial | refine ⟨rfl, ?_⟩)) (Hs.refl _)
 have hn : ¬ ((k : Nat) : Int) < (l.length : Int) := by omega
 obtain rfl : k = l.length := by omega
 rw [List.take_length]
 refine hwNB ?_
 exact HX.ret1 rfl rfl fun w' hM => ⟨rfl, hM.ext⟩
theorem rpick24_fn (c n : Int) (h1 : -9223372036854775808 ≤ c) (h2 : c ≤ 9223372036854775807) (hn : 0 < n) (w : World) : Fn Tryz.prog 14 #[.int .i64 c, .int .i64 n] w fun v w' => v = .int .i64 (pickI21 c n) ∧ w = w' := by
 refine enter (l := [_, _]) rfl Tryz.ntmps14 rfl ?_
 by_cases h : c < 0
 ·repeat' (first | apply WL.fold | apply WA.fold | apply WL.nil | apply WX.n_then | apply WC.seq | apply WC.region | refine WL.pa ?_ | refine WL.ga rfl ?_ | refine WL.na rfl ?_ | refine WL.nu rfl rfl ?_ | apply WC.block | apply WC.skip | apply WC.exit | apply WC.ret | apply WX.e_block | refine WX.e_other rfl ?_ | apply WX.e_then | apply WX.e_again | apply WX.n_block | apply WX.r_then | apply WX.r_block | apply WX.r_again | refine WC.cond_yes rfl ?_ | refine WC.cond_no rfl ?_ | refine WC.cond rfl (fun hc => ?_) (fun hc => ?_) | refine WC.cond_b rfl (fun hc => ?_) (fun hc => ?_))
  exact WX.ret1 rfl rfl ⟨by rw [pickI21, if_pos h], rfl⟩
 ·repeat' (first | apply WL.fold | apply WA.fold | apply WL.nil | apply WX.n_then | apply WC.seq | apply WC.region | refine WL.pa ?_ | refine WL.ga rfl ?_ | refine WL.na rfl ?_ | refine WL.nu rfl rfl ?_ | apply WC.block | apply WC.skip | apply WC.exit | apply WC.ret | apply WX.e_block | refine WX.e_other rfl ?_ | apply WX.e_then | apply WX.e_again | apply WX.n_block | apply WX.r_then | apply WX.r_block | apply WX.r_again | refine WC.cond_yes rfl ?_ | refine WC.cond_no rfl ?_ | refine WC.cond rfl (fun hc => ?_) (fun hc => ?_) | refine WC.cond_b rfl (fun hc => ?_) (fun hc => ?_))
  exact WX.ret1 rfl rfl ⟨by rw [pickI21, if_neg h], rfl⟩
end Go.Sx
/- Chapter 21: slices of arrays of numbers; fields of records that are set. Plain. -/
namespace Go.Sx
open Go
def RdA (sz : Nat) (w : World) (v : Value) (rows : List (List Int)) : Prop :=
 ∃ (a : Option Addr) (c : Nat), v = .slice a rows.length c ∧ rows.length ≤ c ∧ (rows = [] ∨ ∃ b off, a = some ⟨b, off, none⟩ ∧ b < w.heap.size ∧ ∀ i rw j u, (rows.map ints)[i]? = some rw → rw[j]? = some u → w.cell? ⟨b, off + i * sz + j, none⟩ = some u)
theorem RdA.ext {sz : Nat} {w w' : World} {v : Value} {rows : List (List Int)} (h : RdA sz w v rows) (k : Ext w w') : RdA sz w' v rows := by
 obtain ⟨a, c, h1, h2, h3⟩ := h
 refine ⟨a, c, h1, h2, ?_⟩
 rcases h3 with h3 | ⟨b, off, h3, h5, h6⟩
 ·exact .inl h3
 ·exact .inr ⟨b, off, h3, Nat.lt_of_lt_of_le h5 k.size, fun i row j u hi hu => cell_ext k (h6 i row j u hi hu)⟩
theorem RdA.shape {sz : Nat} {w : World} {v : Value} {rows : List (List Int)} (h : RdA sz w v rows) : ∃ a c, v = .slice a rows.length c ∧ rows.length ≤ c := by
 obtain ⟨a, c, h1, h2, -⟩ := h
 exact ⟨a, c, h1, h2⟩
theorem RdA.at {sz : Nat} {w : World} {a : Option Addr} {n c : Nat} {rows : List (List Int)} (h : RdA sz w (.slice a n c) rows) (hne : rows ≠ []) :
  ∃ b off, a = some ⟨b, off, none⟩ ∧ b < w.heap.size ∧ ∀ i y, rows[i]? = some y → ∀ j u, (ints y)[j]? = some u → w.cell? ⟨b, off + i * sz + j, none⟩ = some u := by
 obtain ⟨a', c', h1, h2, h3⟩ := h
 cases h1
 rcases h3 with h3 | ⟨b, off, h4, h5, h6⟩
 ·exact absurd h3 hne
 ·exact ⟨b, off, h4, h5, fun i y hy j u hu => h6 i (ints y) j u (by rw [List.getElem?_map, hy]; rfl) hu⟩
def Rc.setF (r : Rc) (i : Nat) (n : Int) : Rc :=
 match i with
 | 0 => { r with id := n }
 | 1 => { r with start := n }
 | 2 => { r with stop := n }
 | 3 => { r with pack := n }
 | 4 => { r with person := n }
 | 5 => { r with role := n }
 | 6 => { r with purpose := n }
 | 7 => { r with clause := n }
 | 8 => { r with adm := decide (n = 1) }
 | 9 => { r with party := n }
 | _ => r
theorem setF_get (r : Rc) {i j : Nat} (hi : i < 10) (hj : j < 10) (n : Int) (h8 : i = 8 → n = 0 ∨ n = 1) : (r.setF i n).get j = if i = j then n else r.get j := by
 rcases ten hi with rfl | rfl | rfl | rfl | rfl | rfl | rfl | rfl | rfl | rfl <;> rcases ten hj with rfl | rfl | rfl | rfl | rfl | rfl | rfl | rfl | rfl | rfl <;> first | rfl | (rcases h8 rfl with rfl | rfl <;> rfl)
theorem setF_same (r : Rc) (i : Nat) (n : Int) : (r.setF i n).kind = r.kind ∧ (r.setF i n).version = r.version ∧ (r.setF i n).day = r.day ∧ (r.setF i n).gone = r.gone ∧ (r.setF i n).text = r.text := by
 unfold Rc.setF
 split <;> exact ⟨rfl, rfl, rfl, rfl, rfl⟩
structure SomeI (L : List (Nat × Int × Int)) (r : Rc) : Prop where
 kind : 1 ≤ r.kind ∧ r.kind ≤ 8
 ver : 1 ≤ r.version ∧ r.version ≤ 3
 day : 0 ≤ r.day ∧ r.day ≤ 29
 text : r.text = ByteArray.mk #[]
 lim : ∀ p ∈ L, p.2.1 ≤ r.get p.1 ∧ r.get p.1 ≤ p.2.2
 zero : ∀ i, i < 10 → i ∉ L.map Prod.fst → r.get i = 0
 start : 0 ≤ r.start ∧ r.start ≤ 39
 span : 2 ∈ L.map Prod.fst → r.start ≤ r.stop
theorem SomeI.step {L : List (Nat × Int × Int)} {r : Rc} (h : SomeI L r) {p : Nat × Int × Int} (hp : p.1 < 10) (hno : p.1 ∉ L.map Prod.fst) {n : Int} (hn : p.2.1 ≤ n ∧ n ≤ p.2.2) (h8 : p.1 = 8 → n = 0 ∨ n = 1) (h1 : p.1 = 1 → (0 ≤ n ∧ n ≤ 39) ∧ 2 ∉ L.map Prod.fst) (h2 : p.1 = 2 → r.start ≤ n)
  (hl10 : ∀ q ∈ L, q.1 < 10) : SomeI (L ++ [p]) (r.setF p.1 n) := by
 obtain ⟨e1, e2, e3, e4, e5⟩ := setF_same r p.1 n
 have hg : ∀ j, j < 10 → (r.setF p.1 n).get j = if p.1 = j then n else r.get j := fun j hj => setF_get r hp hj n h8
 have hst : (r.setF p.1 n).start = if p.1 = 1 then n else r.start := hg 1 (by decide)
 have hsp : (r.setF p.1 n).stop = if p.1 = 2 then n else r.stop := hg 2 (by decide)
 refine ⟨by rw [e1]; exact h.kind, by rw [e2]; exact h.ver, by rw [e3]; exact h.day, by rw [e5]; exact h.text, fun q hq => ?_, fun i hi hm => ?_, ?_, fun hm => ?_⟩
 ·rcases List.mem_append.1 hq with hq | hq
  ·rw [hg q.1 (hl10 q hq), if_neg (fun e : p.1 = q.1 => hno (List.mem_map.2 ⟨q, hq, e.symm⟩))]
   exact h.lim q hq
  ·obtain rfl := List.mem_singleton.1 hq
   rw [hg q.1 hp, if_pos rfl]; exact hn
 ·rw [List.map_append, List.mem_append, not_or] at hm
  rw [hg i hi, if_neg (fun e => hm.2 (by simp [e]))]
  exact h.zero i hi hm.1
 ·rw [hst]
  split
  ·rename_i e; exact (h1 e).1
  ·exact h.start
 ·rw [hst, hsp]
  rw [List.map_append, List.mem_append] at hm
  by_cases e2' : p.1 = 2
  ·have e1' : p.1 ≠ 1 := by omega
   rw [if_neg e1', if_pos e2']; exact h2 e2'
  ·have hm2 : 2 ∈ L.map Prod.fst := hm.resolve_right fun hx => e2' ((List.mem_singleton.1 hx).symm)
   by_cases e1' : p.1 = 1
   ·exact absurd hm2 (h1 e1').2
   ·rw [if_neg e1', if_neg e2']; exact h.span hm2
structure SomeOk (r : Rc) : Prop where
 valid : ValidR r
 ver : r.version ≤ 3
 day : r.day ≤ 29
 text : r.text = ByteArray.mk #[]
theorem spec_two {k : Int} (h : 1 ≤ k ∧ k ≤ 8) (h6 : k ≠ 6) (h8 : k ≠ 8) : 2 ∈ (specF k).map Prod.fst := by
 rcases (show k = 1 ∨ k = 2 ∨ k = 3 ∨ k = 4 ∨ k = 5 ∨ k = 7 by omega) with rfl | rfl | rfl | rfl | rfl | rfl <;> decide
theorem SomeI.done {r : Rc} (h : SomeI (specF r.kind) r) (hc : r.kind = 2 → r.clause ≠ r.party) : SomeOk r :=
 ⟨⟨h.kind, ⟨h.ver.1, by have := h.ver.2; omega⟩, ⟨h.day.1, by have := h.day.2; omega⟩, by rw [h.text]; decide, ⟨fun h6 h8 => h.span (spec_two h.kind h6 h8), hc⟩, h.lim, h.zero⟩, h.ver.2, h.day.2, h.text⟩
theorem SomeI.done2 {r : Rc} (h : SomeI (specF r.kind) r) (hk : r.kind = 2) : SomeOk (r.setF 9 0) := by
 have hsp : specF r.kind = [(7, 1, 1000000), (1, 0, 100000), (2, 0, 100000), (3, 0, 1000000), (5, 0, 1000000), (6, 0, 1000000), (8, 0, 1), (9, 0, 1000000)] := by rw [hk]; rfl
 have hg : ∀ j, j < 10 → (r.setF 9 0).get j = if 9 = j then 0 else r.get j := fun j hj => setF_get r (by decide) hj 0 (by omega)
 have hcl := h.lim (7, 1, 1000000) (by rw [hsp]; decide)
 have h' : SomeI (specF (r.setF 9 0).kind) (r.setF 9 0) := by
  refine ⟨h.kind, h.ver, h.day, h.text, fun p hp => ?_, fun i hi hm => ?_, h.start, h.span⟩
  ·have hp' : p ∈ specF r.kind := hp
   have hl := h.lim p hp'
   rw [hg p.1 (spec_lo hp').2]
   split
   ·rename_i e
    rw [hsp] at hp'
    simp only [List.mem_cons, List.not_mem_nil, or_false] at hp'
    rcases hp' with rfl | rfl | rfl | rfl | rfl | rfl | rfl | rfl <;> first | exact absurd e (by decide) | exact ⟨Int.le_refl _, of_decide_eq_true rfl⟩
   ·exact hl
  ·rw [hg i hi]
   split
   ·rfl
   ·exact h.zero i hi hm
 refine h'.done fun _ => ?_
 show r.clause ≠ 0
 have : 1 ≤ r.clause := hcl.1
 omega
end Go.Sx
/- Chapter 20's reference: Fields, Limits, Set. -/
namespace Go.Sx
open Go Go.Proofs Go.RowKit
def fldN (k : Int) : List Int := (specF k).map fun p => (p.1 : Int)
attribute [local irreducible] WC WL WX POp Then Again Fn NX W1 WA WO QL RP RA Yld LoopAt HC HL HX HN H1 HA HO HQ HB HP A.blk A.grow A.rd A.obj A.mp AgainH CutH
theorem Fields_fn (k : Int) (hk : 1 ≤ k ∧ k ≤ 8) (w : World) : Fn Tryz.prog 18 #[zv k] w fun v w' => ∃ b : Nat, True ∧ v = .slice (some ⟨b, 0, none⟩) (specF k).length (specF k).length ∧ Mm w [A.blk b (ints (fldN k)) 3] w' := by
 refine enterH (l := [_]) rfl Tryz.ntmps18 rfl ?_
 rcases (show k = 1 ∨ k = 2 ∨ k = 3 ∨ k = 4 ∨ k = 5 ∨ k = 6 ∨ k = 7 ∨ k = 8 by omega) with rfl | rfl | rfl | rfl | rfl | rfl | rfl | rfl
 ·refine hwNE ?_
  refine HL.one (H1.lit (cs := ints (fldN 1)) rfl rfl rfl rfl rfl rfl (fun b => ?_))
  refine hwNE ?_
  exact HX.ret1 rfl rfl fun w' hM => ⟨b, trivial, rfl, hM⟩
 ·refine hwNE ?_
  refine HL.one (H1.lit (cs := ints (fldN 2)) rfl rfl rfl rfl rfl rfl (fun b => ?_))
  refine hwNE ?_
  exact HX.ret1 rfl rfl fun w' hM => ⟨b, trivial, rfl, hM⟩
 ·refine hwNE ?_
  refine HL.one (H1.lit (cs := ints (fldN 3)) rfl rfl rfl rfl rfl rfl (fun b => ?_))
  refine hwNE ?_
  exact HX.ret1 rfl rfl fun w' hM => ⟨b, trivial, rfl, hM⟩
 ·refine hwNE ?_
  refine HL.one (H1.lit (cs := ints (fldN 4)) rfl rfl rfl rfl rfl rfl (fun b => ?_))
  refine hwNE ?_
  exact HX.ret1 rfl rfl fun w' hM => ⟨b, trivial, rfl, hM⟩
 ·refine hwNE ?_
  refine HL.one (H1.lit (cs := ints (fldN 5)) rfl rfl rfl rfl rfl rfl (fun b => ?_))
  refine hwNE ?_
  exact HX.ret1 rfl rfl fun w' hM => ⟨b, trivial, rfl, hM⟩
 ·refine hwNE ?_
  refine HL.one (H1.lit (cs := ints (fldN 6)) rfl rfl rfl rfl rfl rfl (fun b => ?_))
  refine hwNE ?_
  exact HX.ret1 rfl rfl fun w' hM => ⟨b, trivial, rfl, hM⟩
 ·refine hwNE ?_
  refine HL.one (H1.lit (cs := ints (fldN 7)) rfl rfl rfl rfl rfl rfl (fun b => ?_))
  refine hwNE ?_
  exact HX.ret1 rfl rfl fun w' hM => ⟨b, trivial, rfl, hM⟩
 ·refine hwNE ?_
  refine HL.one (H1.lit (cs := ints (fldN 8)) rfl rfl rfl rfl rfl rfl (fun b => ?_))
  refine hwNE ?_
  exact HX.ret1 rfl rfl fun w' hM => ⟨b, trivial, rfl, hM⟩
set_option maxHeartbeats 2000000 in
theorem Limits_fn (k : Int) (hk : 1 ≤ k ∧ k ≤ 8) (p : Nat × Int × Int) (hp : p ∈ specF k) (w : World) : Fn Tryz.prog 19 #[zv k, zv (p.1 : Int)] w fun v w' => v = .tuple #[zv p.2.1, zv p.2.2] ∧ Ext w w' := by
 refine enterH (l := [_, _]) rfl Tryz.ntmps19 rfl ?_
 rcases (show k = 1 ∨ k = 2 ∨ k = 3 ∨ k = 4 ∨ k = 5 ∨ k = 6 ∨ k = 7 ∨ k = 8 by omega) with rfl | rfl | rfl | rfl | rfl | rfl | rfl | rfl
 ·change p ∈ [(0, (1 : Int), (1000000 : Int)), (1, 0, 100000), (2, 0, 100000), (4, 1, 1000000), (5, 1, 1000000)] at hp
  simp only [List.mem_cons, List.not_mem_nil, or_false] at hp
  rcases hp with rfl | rfl | rfl | rfl | rfl <;> ((refine hwNE ?_); exact HX.ret2 rfl rfl rfl fun w' hM => ⟨rfl, hM.ext⟩)
 ·change p ∈ [(7, (1 : Int), (1000000 : Int)), (1, 0, 100000), (2, 0, 100000), (3, 0, 1000000), (5, 0, 1000000), (6, 0, 1000000), (8, 0, 1), (9, 0, 1000000)] at hp
  simp only [List.mem_cons, List.not_mem_nil, or_false] at hp
  rcases hp with rfl | rfl | rfl | rfl | rfl | rfl | rfl | rfl <;> ((refine hwNE ?_); exact HX.ret2 rfl rfl rfl fun w' hM => ⟨rfl, hM.ext⟩)
 ·change p ∈ [(0, (1 : Int), (1000000 : Int)), (1, 0, 100000), (2, 0, 100000), (3, 1, 1000000), (6, 0, 1000000), (9, 1, 1000000)] at hp
  simp only [List.mem_cons, List.not_mem_nil, or_false] at hp
  rcases hp with rfl | rfl | rfl | rfl | rfl | rfl <;> ((refine hwNE ?_); exact HX.ret2 rfl rfl rfl fun w' hM => ⟨rfl, hM.ext⟩)
 ·change p ∈ [(0, (1 : Int), (1000000 : Int)), (1, 0, 100000), (2, 0, 100000), (3, 1, 1000000)] at hp
  simp only [List.mem_cons, List.not_mem_nil, or_false] at hp
  rcases hp with rfl | rfl | rfl | rfl <;> ((refine hwNE ?_); exact HX.ret2 rfl rfl rfl fun w' hM => ⟨rfl, hM.ext⟩)
 ·change p ∈ [(0, (1 : Int), (1000000 : Int)), (1, 0, 100000), (2, 0, 100000), (3, 0, 1000000)] at hp
  simp only [List.mem_cons, List.not_mem_nil, or_false] at hp
  rcases hp with rfl | rfl | rfl | rfl <;> ((refine hwNE ?_); exact HX.ret2 rfl rfl rfl fun w' hM => ⟨rfl, hM.ext⟩)
 ·change p ∈ [(9, (1 : Int), (1000000 : Int)), (1, 0, 100000)] at hp
  simp only [List.mem_cons, List.not_mem_nil, or_false] at hp
  rcases hp with rfl | rfl <;> ((refine hwNE ?_); exact HX.ret2 rfl rfl rfl fun w' hM => ⟨rfl, hM.ext⟩)
 ·change p ∈ [(0, (1 : Int), (1000000 : Int)), (1, 0, 100000), (2, 0, 100000), (3, 1, 1000000), (6, 0, 1000000), (7, 0, 63)] at hp
  simp only [List.mem_cons, List.not_mem_nil, or_false] at hp
  rcases hp with rfl | rfl | rfl | rfl | rfl | rfl <;> ((refine hwNE ?_); exact HX.ret2 rfl rfl rfl fun w' hM => ⟨rfl, hM.ext⟩)
 ·change p ∈ [(0, (1 : Int), (1000000 : Int)), (1, 0, 100000), (3, 1, 1000000), (7, 1, 1000000)] at hp
  simp only [List.mem_cons, List.not_mem_nil, or_false] at hp
  rcases hp with rfl | rfl | rfl | rfl <;> ((refine hwNE ?_); exact HX.ret2 rfl rfl rfl fun w' hM => ⟨rfl, hM.ext⟩)
set_option maxHeartbeats 2000000 in
theorem Set_fn (r : Rc) (i : Nat) (hi : i < 10) (n : Int) (w : World) : Fn Tryz.prog 20 #[recV r, zv (i : Int), zv n] w fun v w' => v = recV (r.setF i n) ∧ Ext w w' := by
 refine enterH (l := [_, _, _]) rfl Tryz.ntmps20 rfl ?_
 refine hwNE ?_
 refine HL.one (H1.boxAgg (cs := rcells r) rfl rfl (fun b3 => ?_))
 refine hwNE ?_
 refine HL.one (H1.alloc (cs := rcells rcZ) rfl rfl (fun b6 => ?_))
 apply HL.fold
 rcases ten hi with rfl | rfl | rfl | rfl | rfl | rfl | rfl | rfl | rfl | rfl
 ·refine hwNE ?_
  refine HL.one (H1.st (b := b3) rfl rfl (by intro _ h; cases h) (by intro _ h; cases h) rplA (of_decide_eq_true rfl) ?_)
  refine hwNE ?_
  refine HL.one (H1.ldAgg (vs := rcells (r.setF 0 n)) rfl memA rfl (fun i v hv => by simp only [Nat.zero_add]; exact hv) rfl ?_)
  refine hwNE ?_
  refine HL.one (H1.stAgg (cs := rcells rcZ) (vs := rcells (r.setF 0 n)) rfl rfl rfl (rcells_one _) rplA rfl ?_)
  refine hwNE ?_
  exact HX.retc1 (cs := rcells (r.setF 0 n)) rfl rfl memA rfl fun w' hM => ⟨rfl, hM.ext⟩
 ·refine hwNE ?_
  refine HL.one (H1.st (b := b3) rfl rfl (by intro _ h; cases h) (by intro _ h; cases h) rplA (of_decide_eq_true rfl) ?_)
  refine hwNE ?_
  refine HL.one (H1.ldAgg (vs := rcells (r.setF 1 n)) rfl memA rfl (fun i v hv => by simp only [Nat.zero_add]; exact hv) rfl ?_)
  refine hwNE ?_
  refine HL.one (H1.stAgg (cs := rcells rcZ) (vs := rcells (r.setF 1 n)) rfl rfl rfl (rcells_one _) rplA rfl ?_)
  refine hwNE ?_
  exact HX.retc1 (cs := rcells (r.setF 1 n)) rfl rfl memA rfl fun w' hM => ⟨rfl, hM.ext⟩
 ·refine hwNE ?_
  refine HL.one (H1.st (b := b3) rfl rfl (by intro _ h; cases h) (by intro _ h; cases h) rplA (of_decide_eq_true rfl) ?_)
  refine hwNE ?_
  refine HL.one (H1.ldAgg (vs := rcells (r.setF 2 n)) rfl memA rfl (fun i v hv => by simp only [Nat.zero_add]; exact hv) rfl ?_)
  refine hwNE ?_
  refine HL.one (H1.stAgg (cs := rcells rcZ) (vs := rcells (r.setF 2 n)) rfl rfl rfl (rcells_one _) rplA rfl ?_)
  refine hwNE ?_
  exact HX.retc1 (cs := rcells (r.setF 2 n)) rfl rfl memA rfl fun w' hM => ⟨rfl, hM.ext⟩
 ·refine hwNE ?_
  refine HL.one (H1.st (b := b3) rfl rfl (by intro _ h; cases h) (by intro _ h; cases h) rplA (of_decide_eq_true rfl) ?_)
  refine hwNE ?_
  refine HL.one (H1.ldAgg (vs := rcells (r.setF 3 n)) rfl memA rfl (fun i v hv => by simp only [Nat.zero_add]; exact hv) rfl ?_)
  refine hwNE ?_
  refine HL.one (H1.stAgg (cs := rcells rcZ) (vs := rcells (r.setF 3 n)) rfl rfl rfl (rcells_one _) rplA rfl ?_)
  refine hwNE ?_
  exact HX.retc1 (cs := rcells (r.setF 3 n)) rfl rfl memA rfl fun w' hM => ⟨rfl, hM.ext⟩
 ·refine hwNE ?_
  refine HL.one (H1.st (b := b3) rfl rfl (by intro _ h; cases h) (by intro _ h; cases h) rplA (of_decide_eq_true rfl) ?_)
  refine hwNE ?_
  refine HL.one (H1.ldAgg (vs := rcells (r.setF 4 n)) rfl memA rfl (fun i v hv => by simp only [Nat.zero_add]; exact hv) rfl ?_)
  refine hwNE ?_
  refine HL.one (H1.stAgg (cs := rcells rcZ) (vs := rcells (r.setF 4 n)) rfl rfl rfl (rcells_one _) rplA rfl ?_)
  refine hwNE ?_
  exact HX.retc1 (cs := rcells (r.setF 4 n)) rfl rfl memA rfl fun w' hM => ⟨rfl, hM.ext⟩
 ·refine hwNE ?_
  refine HL.one (H1.st (b := b3) rfl rfl (by intro _ h; cases h) (by intro _ h; cases h) rplA (of_decide_eq_true rfl) ?_)
  refine hwNE ?_
  refine HL.one (H1.ldAgg (vs := rcells (r.setF 5 n)) rfl memA rfl (fun i v hv => by simp only [Nat.zero_add]; exact hv) rfl ?_)
  refine hwNE ?_
  refine HL.one (H1.stAgg (cs := rcells rcZ) (vs := rcells (r.setF 5 n)) rfl rfl rfl (rcells_one _) rplA rfl ?_)
  refine hwNE ?_
  exact HX.retc1 (cs := rcells (r.setF 5 n)) rfl rfl memA rfl fun w' hM => ⟨rfl, hM.ext⟩
 ·refine hwNE ?_
  refine HL.one (H1.st (b := b3) rfl rfl (by intro _ h; cases h) (by intro _ h; cases h) rplA (of_decide_eq_true rfl) ?_)
  refine hwNE ?_
  refine HL.one (H1.ldAgg (vs := rcells (r.setF 6 n)) rfl memA rfl (fun i v hv => by simp only [Nat.zero_add]; exact hv) rfl ?_)
  refine hwNE ?_
  refine HL.one (H1.stAgg (cs := rcells rcZ) (vs := rcells (r.setF 6 n)) rfl rfl rfl (rcells_one _) rplA rfl ?_)
  refine hwNE ?_
  exact HX.retc1 (cs := rcells (r.setF 6 n)) rfl rfl memA rfl fun w' hM => ⟨rfl, hM.ext⟩
 ·refine hwNE ?_
  refine HL.one (H1.st (b := b3) rfl rfl (by intro _ h; cases h) (by intro _ h; cases h) rplA (of_decide_eq_true rfl) ?_)
  refine hwNE ?_
  refine HL.one (H1.ldAgg (vs := rcells (r.setF 7 n)) rfl memA rfl (fun i v hv => by simp only [Nat.zero_add]; exact hv) rfl ?_)
  refine hwNE ?_
  refine HL.one (H1.stAgg (cs := rcells rcZ) (vs := rcells (r.setF 7 n)) rfl rfl rfl (rcells_one _) rplA rfl ?_)
  refine hwNE ?_
  exact HX.retc1 (cs := rcells (r.setF 7 n)) rfl rfl memA rfl fun w' hM => ⟨rfl, hM.ext⟩
 ·refine hwNE ?_
  refine HL.one (H1.st (b := b3) rfl rfl (by intro _ h; cases h) (by intro _ h; cases h) rplA (of_decide_eq_true rfl) ?_)
  refine hwNE ?_
  refine HL.one (H1.ldAgg (vs := rcells (r.setF 8 n)) rfl memA rfl (fun i v hv => by simp only [Nat.zero_add]; exact hv) rfl ?_)
  refine hwNE ?_
  refine HL.one (H1.stAgg (cs := rcells rcZ) (vs := rcells (r.setF 8 n)) rfl rfl rfl (rcells_one _) rplA rfl ?_)
  refine hwNE ?_
  exact HX.retc1 (cs := rcells (r.setF 8 n)) rfl rfl memA rfl fun w' hM => ⟨rfl, hM.ext⟩
 ·refine hwNE ?_
  refine HL.one (H1.st (b := b3) rfl rfl (by intro _ h; cases h) (by intro _ h; cases h) rplA (of_decide_eq_true rfl) ?_)
  refine hwNE ?_
  refine HL.one (H1.ldAgg (vs := rcells (r.setF 9 n)) rfl memA rfl (fun i v hv => by simp only [Nat.zero_add]; exact hv) rfl ?_)
  refine hwNE ?_
  refine HL.one (H1.stAgg (cs := rcells rcZ) (vs := rcells (r.setF 9 n)) rfl rfl rfl (rcells_one _) rplA rfl ?_)
  refine hwNE ?_
  exact HX.retc1 (cs := rcells (r.setF 9 n)) rfl rfl memA rfl fun w' hM => ⟨rfl, hM.ext⟩
end Go.Sx
/- Chapter 20's reference: Some: at most 30 valid records. -/
namespace Go.Sx
open Go Go.Proofs Go.RowKit
theorem i64W.tdiv {x n : Int} (h : i64W x) (hn : 0 < n) : i64W (x.tdiv n) := tdiv_abs hn h.1 h.2
theorem i64W.shr {x : Int} (h : i64W x) (n : Nat) : i64W (x / 2 ^ n) := shr_abs n h.1 h.2
theorem spec_n {k : Int} {p : Nat × Int × Int} (hp : p ∈ specF k) : (p.1 = 0 → p.2.1 ≤ 1 ∧ 9 ≤ p.2.2) ∧ (p.1 = 1 → p.2.1 ≤ 0 ∧ 39 ≤ p.2.2) ∧ (p.1 = 2 → p.2.1 ≤ 0 ∧ 68 ≤ p.2.2) ∧ (p.1 = 8 → p.2.1 = 0 ∧ p.2.2 = 1) ∧ (p.1 ≠ 8 → p.2.1 + 3 ≤ p.2.2) := by
 unfold specF at hp
 repeat' split at hp
 all_goals (simp only [List.mem_cons, List.not_mem_nil, or_false] at hp)
 all_goals (first | (rcases hp with rfl | rfl | rfl | rfl | rfl | rfl | rfl | rfl <;> decide) | (rcases hp with rfl | rfl | rfl | rfl | rfl | rfl <;> decide) | (rcases hp with rfl | rfl | rfl | rfl | rfl <;> decide) | (rcases hp with rfl | rfl | rfl | rfl <;> decide) | (rcases hp with rfl | rfl <;> decide))
theorem spec_one {k : Int} {j : Nat} {p : Nat × Int × Int} (h : (specF k)[j]? = some p) (h1 : p.1 = 1) : 2 ∉ ((specF k).take j).map Prod.fst := by
 have hc : ∀ j, j < 8 → ((specF k).map Prod.fst)[j]? = some 1 → 2 ∉ ((specF k).map Prod.fst).take j := by
  unfold specF
  repeat' split
  all_goals decide
 have hj := (List.getElem?_eq_some_iff.1 h).1
 have hl := spec_len k
 rw [List.map_take]
 exact hc j (by omega) (by rw [List.getElem?_map, h, ← h1]; rfl)
theorem six {y : List Int} (h : y.length = 6) : ∃ y0 y1 y2 y3 y4 y5, y = [y0, y1, y2, y3, y4, y5] := by
 match y, h with
 | [a, b, c, d, e, f], _ => exact ⟨a, b, c, d, e, f, rfl⟩
theorem getter_no {L : List (Nat × Int × Int)} (hnd : (L.map Prod.fst).Nodup) {k : Nat} {p : Nat × Int × Int} (hp : L[k]? = some p) : p.1 ∉ (L.take k).map Prod.fst := by
 have h1 : (L.map Prod.fst)[k]? = some p.1 := by rw [List.getElem?_map, hp]; rfl
 have hlt := (List.getElem?_eq_some_iff.1 hp).1
 intro hm
 rw [List.map_take] at hm
 obtain ⟨i, hi, e⟩ := List.getElem_of_mem hm
 rw [List.length_take] at hi
 have h2 : (L.map Prod.fst)[i]? = some p.1 := by
  rw [List.getElem?_eq_getElem (by omega)]
  rw [List.getElem_take] at e
  rw [e]
 have := (List.getElem?_inj (by omega) hnd).1 (h2.trans h1.symm)
 omega
attribute [local irreducible] WC WL WX POp Then Again Fn NX W1 WA WO QL RP RA Yld LoopAt HC HL HX HN H1 HA HO HQ HB HP A.blk A.grow A.rd A.obj A.mp AgainH CutH
attribute [local irreducible] specF fldN
set_option maxHeartbeats 8000000 in
theorem Some_fn (v : Value) (rows : List (List Int)) (hrow : ∀ y ∈ rows, y.length = 6 ∧ ∀ z ∈ y, i64W z) (w : World) (hR : RdA 6 w v rows) :
  Fn Tryz.prog 7 #[v] w fun v w' => ∃ z : (Option Addr × Nat) × List Rc, (z.2.length ≤ 30 ∧ ∀ r ∈ z.2, SomeOk r) ∧ v = .slice z.1.1 z.2.length z.1.2 ∧ Mm w [A.grow 33 15 z.1.1 z.1.2 z.2.length (rcl z.2)] w' := by
 obtain ⟨a0, c0, rfl, -⟩ := hR.shape
 refine enterH (l := [_]) rfl Tryz.ntmps7 rfl ?_
 refine hwNE ?_
 refine HC.grow0 33 15 ?_
 refine HC.loop (α := Nat × List Rc × Option Addr × Nat) (fun z => [(0, .slice a0 rows.length c0), (3, .slice z.2.2.1 z.2.1.length z.2.2.2), (4, zv (z.1 : Int))]) (fun z => [A.grow 33 15 z.2.2.1 z.2.2.2 z.2.1.length (rcl z.2.1)])
  (fun z => z.1 ≤ rows.length ∧ z.1 ≤ 30 ∧ z.2.1.length = z.1 ∧ ∀ r ∈ z.2.1, SomeOk r) (fun z => 30 - z.1) (0, [], none, 0) ⟨Nat.zero_le _, Nat.zero_le _, rfl, fun r h => by cases h⟩ esA (by repeat (first | exact Hs.nil _ | (refine Hs.cons pickA ?_))) ?_
 rintro ⟨i, l, a, c⟩ ⟨hi1, hi2, hll, hok⟩
 dsimp only at hi1 hi2 hll hok ⊢
 by_cases hlt : i < rows.length
 rotate_left
 ·have h1 : ¬ (i : Int) < (rows.length : Int) := by omega
  refine hwNE ?_
  exact HX.ret1 rfl rfl fun w' hM => ⟨((a, c), l), ⟨by show l.length ≤ 30; omega, hok⟩, rfl, hM⟩
 by_cases h30 : i < 30
 rotate_left
 ·have h1 : (i : Int) < (rows.length : Int) := by omega
  have h2 : ¬ (i : Int) < 30 := by omega
  refine hwNE ?_
  exact HX.ret1 rfl rfl fun w' hM => ⟨((a, c), l), ⟨by show l.length ≤ 30; omega, hok⟩, rfl, hM⟩
 have hsnoc : ∀ s, SomeOk s → ∀ r ∈ l ++ [s], SomeOk r := fun s hs r hr => by
  rcases List.mem_append.1 hr with hr | hr
  ·exact hok r hr
  ·obtain rfl := List.mem_singleton.1 hr; exact hs
 obtain ⟨y, hy⟩ : ∃ y, rows[i]? = some y := ⟨_, List.getElem?_eq_getElem hlt⟩
 have hy6 := hrow y (List.mem_of_getElem? hy)
 obtain ⟨b1, off, rfl, -, hcell⟩ := hR.at (fun e => by rw [e] at hlt; exact absurd hlt (Nat.not_lt_zero _))
 have hcl := hcell i y hy
 clear hcell hR
 obtain ⟨y0, y1, y2, y3, y4, y5, rfl⟩ := six hy6.1
 have w0 := hy6.2 y0 (by simp)
 have w1 := hy6.2 y1 (by simp)
 have w2 := hy6.2 y2 (by simp)
 have w3 := hy6.2 y3 (by simp)
 have w4 := hy6.2 y4 (by simp)
 have w5 := hy6.2 y5 (by simp)
 have h1 : (i : Int) < (rows.length : Int) := by omega
 have h2 : (i : Int) < 30 := by omega
 refine hwNE ?_
 refine HL.one (H1.ldAggw (vs := ints [y0, y1, y2, y3, y4, y5]) rfl rfl (fun w' hM i v hv => cell_ext hM.ext (hcl i v hv)) rfl ?_)
 clear hcl hy hy6
 refine hwNE ?_
 refine HL.one (H1.alloc (cs := ints [0, 0, 0, 0, 0, 0]) rfl rfl (fun b5 => ?_))
 refine hwNE ?_
 refine HL.one (H1.stAgg (cs := ints [0, 0, 0, 0, 0, 0]) (vs := ints [y0, y1, y2, y3, y4, y5]) rfl rfl rfl (ints_one _) rplA rfl ?_)
 refine hwNE ?_
 have q0 := pickI21_lt y0 (n := 8) (by decide)
 have q1 := pickI21_lt (y0.tdiv 8) (n := 3) (by decide)
 have q2 := pickI21_lt y1 (n := 30) (by decide)
 have u0 := w0.tdiv (n := 8) (by decide)
 have u1 := w1.tdiv (n := 30) (by decide)
 obtain ⟨r0, hr0⟩ : ∃ r0 : Rc, r0 = ⟨1 + pickI21 y0 8, 0, 1 + pickI21 (y0.tdiv 8) 3, pickI21 y1 30, decide (pickI21 (y1.tdiv 30) 7 = 0), 0, 0, 0, 0, 0, 0, 0, false, 0, ByteArray.mk #[]⟩ := ⟨_, rfl⟩
 have hS0 : SomeI [] r0 := by
  subst hr0
  refine ⟨?_, ?_, ?_, rfl, (fun p hp => by cases hp), (fun i hi _ => ?_), ⟨Int.le_refl _, of_decide_eq_true rfl⟩, (fun h => by cases h)⟩
  ·show 1 ≤ 1 + pickI21 y0 8 ∧ 1 + pickI21 y0 8 ≤ 8; omega
  ·show 1 ≤ 1 + pickI21 (y0.tdiv 8) 3 ∧ 1 + pickI21 (y0.tdiv 8) 3 ≤ 3; omega
  ·show 0 ≤ pickI21 y1 30 ∧ pickI21 y1 30 ≤ 29; omega
  ·rcases ten hi with rfl | rfl | rfl | rfl | rfl | rfl | rfl | rfl | rfl | rfl <;> rfl
 refine HC.cut (α := Nat) (fun b6 => [(0, .slice (some ⟨b1, off, none⟩) rows.length c0), (3, .slice a l.length c), (4, zv (i : Int)), (5, .pointer (some ⟨b5, 0, none⟩)), (6, .pointer (some ⟨b6, 0, none⟩))])
  (fun b6 => [A.blk b6 (rcells r0) 33, A.blk b5 (ints [y0, y1, y2, y3, y4, y5]) 66, A.grow 33 15 a c l.length (rcl l)]) (fun _ => True) ?_ ?_
 ·refine HC.anyC ([(⟨b5, 0, none⟩, zv y0), (⟨b5, 1, none⟩, zv y1)]) rfl ?_
  refine HB.pa 0 rfl ?_
  refine HB.ld 1 rfl rfl memD ?_
  refine HB.pa 4 rfl ?_
  refine HB.ld 5 rfl rfl memD ?_
  refine HB.pa (v := zv (y0.tdiv 8)) 6 rfl ?_ (POp.quoT rfl rfl w0.1 w0.2 (by decide))
  refine HB.pa 9 rfl ?_
  refine HB.ld 10 rfl rfl memD ?_
  refine HB.pa 12 rfl ?_
  refine HB.ld 13 rfl rfl memD ?_
  refine HB.pa (v := zv (y1.tdiv 30)) 14 rfl ?_ (POp.quoT rfl rfl w1.1 w1.2 (by decide))
  refine HB.all keepA [2, 18] (by kernel_rfl) rfl ⟨⟨_, rfl, ?_⟩, ⟨_, rfl, ?_⟩, trivial⟩
  ·refine HP.one ?_
   refine H1.call0 (vs := [zv y0, zv 8]) rfl rfl (fun w' _ => pick20_fn y0 8 w0.1 w0.2 (by decide) w') ?_
   apply HB.fold
   refine HB.pa 3 rfl ?_
   refine HB.all keepA [7, 18] (by kernel_rfl) rfl ⟨⟨_, rfl, ?_⟩, ⟨_, rfl, ?_⟩, trivial⟩
   ·refine HP.one ?_
    refine H1.call0 (vs := [zv (y0.tdiv 8), zv 3]) rfl rfl (fun w' _ => pick20_fn (y0.tdiv 8) 3 u0.1 u0.2 (by decide) w') ?_
    apply HB.fold
    refine HB.pa 8 rfl ?_
    refine HB.all keepA [11, 18] (by kernel_rfl) rfl ⟨⟨_, rfl, ?_⟩, ⟨_, rfl, ?_⟩, trivial⟩
    ·refine HP.one ?_
     refine H1.call0 (vs := [zv y1, zv 30]) rfl rfl (fun w' _ => pick20_fn y1 30 w1.1 w1.2 (by decide) w') ?_
     apply HB.fold
     refine HB.all keepA [15, 18] (by kernel_rfl) rfl ⟨⟨_, rfl, ?_⟩, ⟨_, rfl, ?_⟩, trivial⟩
     ·refine HP.one ?_
      refine H1.call0 (vs := [zv (y1.tdiv 30), zv 7]) rfl rfl (fun w' _ => pick20_fn (y1.tdiv 30) 7 u1.1 u1.2 (by decide) w') ?_
      apply HB.fold
      refine HB.pa 16 rfl ?_
      refine HB.pa (v := recV r0) 17 rfl ?_ (by rw [hr0]; exact POp.build (cs := rcells ⟨1 + pickI21 y0 8, 0, 1 + pickI21 (y0.tdiv 8) 3, pickI21 y1 30, decide (pickI21 (y1.tdiv 30) 7 = 0), 0, 0, 0, 0, 0, 0, 0, false, 0, ByteArray.mk #[]⟩) rfl rfl)
      refine HB.all keepA [18] (by kernel_rfl) rfl ⟨⟨_, rfl, ?_⟩, trivial⟩
      refine HP.one ?_
      refine H1.alloc (cs := rcells rcZ) rfl rfl (fun b6 => ?_)
      apply HB.fold
      refine HB.all keepA [19] (by kernel_rfl) rfl ⟨⟨_, rfl, ?_⟩, trivial⟩
      refine HP.one ?_
      refine H1.stAgg (cs := rcells rcZ) (vs := rcells r0) rfl rfl rfl (rcells_one _) rplA rfl ?_
      apply HB.fold
      refine HB.done keepA (by kernel_rfl) ?_
      exact HX.cut b6 trivial esA (by repeat (first | exact Hs.nil _ | (refine Hs.cons pickA ?_)))
     ·refine HP.one ?_
      refine H1.alloc (cs := rcells rcZ) rfl rfl (fun b6 => ?_)
      apply HB.fold
      refine HB.all keepA [15] (by kernel_rfl) rfl ⟨⟨_, rfl, ?_⟩, trivial⟩
      refine HP.one ?_
      refine H1.call0 (vs := [zv (y1.tdiv 30), zv 7]) rfl rfl (fun w' _ => pick20_fn (y1.tdiv 30) 7 u1.1 u1.2 (by decide) w') ?_
      apply HB.fold
      refine HB.pa 16 rfl ?_
      refine HB.pa (v := recV r0) 17 rfl ?_ (by rw [hr0]; exact POp.build (cs := rcells ⟨1 + pickI21 y0 8, 0, 1 + pickI21 (y0.tdiv 8) 3, pickI21 y1 30, decide (pickI21 (y1.tdiv 30) 7 = 0), 0, 0, 0, 0, 0, 0, 0, false, 0, ByteArray.mk #[]⟩) rfl rfl)
      refine HB.all keepA [19] (by kernel_rfl) rfl ⟨⟨_, rfl, ?_⟩, trivial⟩
      refine HP.one ?_
      refine H1.stAgg (cs := rcells rcZ) (vs := rcells r0) rfl rfl rfl (rcells_one _) rplA rfl ?_
      apply HB.fold
      refine HB.done keepA (by kernel_rfl) ?_
      exact HX.cut b6 trivial esA (by repeat (first | exact Hs.nil _ | (refine Hs.cons pickA ?_)))
    ·refine HP.one ?_
     refine H1.alloc (cs := rcells rcZ) rfl rfl (fun b6 => ?_)
     apply HB.fold
     refine HB.all keepA [11] (by kernel_rfl) rfl ⟨⟨_, rfl, ?_⟩, trivial⟩
     refine HP.one ?_
     refine H1.call0 (vs := [zv y1, zv 30]) rfl rfl (fun w' _ => pick20_fn y1 30 w1.1 w1.2 (by decide) w') ?_
     apply HB.fold
     refine HB.all keepA [15] (by kernel_rfl) rfl ⟨⟨_, rfl, ?_⟩, trivial⟩
     refine HP.one ?_
     refine H1.call0 (vs := [zv (y1.tdiv 30), zv 7]) rfl rfl (fun w' _ => pick20_fn (y1.tdiv 30) 7 u1.1 u1.2 (by decide) w') ?_
     apply HB.fold
     refine HB.pa 16 rfl ?_
     refine HB.pa (v := recV r0) 17 rfl ?_ (by rw [hr0]; exact POp.build (cs := rcells ⟨1 + pickI21 y0 8, 0, 1 + pickI21 (y0.tdiv 8) 3, pickI21 y1 30, decide (pickI21 (y1.tdiv 30) 7 = 0), 0, 0, 0, 0, 0, 0, 0, false, 0, ByteArray.mk #[]⟩) rfl rfl)
     refine HB.all keepA [19] (by kernel_rfl) rfl ⟨⟨_, rfl, ?_⟩, trivial⟩
     refine HP.one ?_
     refine H1.stAgg (cs := rcells rcZ) (vs := rcells r0) rfl rfl rfl (rcells_one _) rplA rfl ?_
     apply HB.fold
     refine HB.done keepA (by kernel_rfl) ?_
     exact HX.cut b6 trivial esA (by repeat (first | exact Hs.nil _ | (refine Hs.cons pickA ?_)))
   ·refine HP.one ?_
    refine H1.alloc (cs := rcells rcZ) rfl rfl (fun b6 => ?_)
    apply HB.fold
    refine HB.all keepA [7] (by kernel_rfl) rfl ⟨⟨_, rfl, ?_⟩, trivial⟩
    refine HP.one ?_
    refine H1.call0 (vs := [zv (y0.tdiv 8), zv 3]) rfl rfl (fun w' _ => pick20_fn (y0.tdiv 8) 3 u0.1 u0.2 (by decide) w') ?_
    apply HB.fold
    refine HB.pa 8 rfl ?_
    refine HB.all keepA [11] (by kernel_rfl) rfl ⟨⟨_, rfl, ?_⟩, trivial⟩
    refine HP.one ?_
    refine H1.call0 (vs := [zv y1, zv 30]) rfl rfl (fun w' _ => pick20_fn y1 30 w1.1 w1.2 (by decide) w') ?_
    apply HB.fold
    refine HB.all keepA [15] (by kernel_rfl) rfl ⟨⟨_, rfl, ?_⟩, trivial⟩
    refine HP.one ?_
    refine H1.call0 (vs := [zv (y1.tdiv 30), zv 7]) rfl rfl (fun w' _ => pick20_fn (y1.tdiv 30) 7 u1.1 u1.2 (by decide) w') ?_
    apply HB.fold
    refine HB.pa 16 rfl ?_
    refine HB.pa (v := recV r0) 17 rfl ?_ (by rw [hr0]; exact POp.build (cs := rcells ⟨1 + pickI21 y0 8, 0, 1 + pickI21 (y0.tdiv 8) 3, pickI21 y1 30, decide (pickI21 (y1.tdiv 30) 7 = 0), 0, 0, 0, 0, 0, 0, 0, false, 0, ByteArray.mk #[]⟩) rfl rfl)
    refine HB.all keepA [19] (by kernel_rfl) rfl ⟨⟨_, rfl, ?_⟩, trivial⟩
    refine HP.one ?_
    refine H1.stAgg (cs := rcells rcZ) (vs := rcells r0) rfl rfl rfl (rcells_one _) rplA rfl ?_
    apply HB.fold
    refine HB.done keepA (by kernel_rfl) ?_
    exact HX.cut b6 trivial esA (by repeat (first | exact Hs.nil _ | (refine Hs.cons pickA ?_)))
  ·refine HP.one ?_
   refine H1.alloc (cs := rcells rcZ) rfl rfl (fun b6 => ?_)
   apply HB.fold
   refine HB.all keepA [2] (by kernel_rfl) rfl ⟨⟨_, rfl, ?_⟩, trivial⟩
   refine HP.one ?_
   refine H1.call0 (vs := [zv y0, zv 8]) rfl rfl (fun w' _ => pick20_fn y0 8 w0.1 w0.2 (by decide) w') ?_
   apply HB.fold
   refine HB.pa 3 rfl ?_
   refine HB.all keepA [7] (by kernel_rfl) rfl ⟨⟨_, rfl, ?_⟩, trivial⟩
   refine HP.one ?_
   refine H1.call0 (vs := [zv (y0.tdiv 8), zv 3]) rfl rfl (fun w' _ => pick20_fn (y0.tdiv 8) 3 u0.1 u0.2 (by decide) w') ?_
   apply HB.fold
   refine HB.pa 8 rfl ?_
   refine HB.all keepA [11] (by kernel_rfl) rfl ⟨⟨_, rfl, ?_⟩, trivial⟩
   refine HP.one ?_
   refine H1.call0 (vs := [zv y1, zv 30]) rfl rfl (fun w' _ => pick20_fn y1 30 w1.1 w1.2 (by decide) w') ?_
   apply HB.fold
   refine HB.all keepA [15] (by kernel_rfl) rfl ⟨⟨_, rfl, ?_⟩, trivial⟩
   refine HP.one ?_
   refine H1.call0 (vs := [zv (y1.tdiv 30), zv 7]) rfl rfl (fun w' _ => pick20_fn (y1.tdiv 30) 7 u1.1 u1.2 (by decide) w') ?_
   apply HB.fold
   refine HB.pa 16 rfl ?_
   refine HB.pa (v := recV r0) 17 rfl ?_ (by rw [hr0]; exact POp.build (cs := rcells ⟨1 + pickI21 y0 8, 0, 1 + pickI21 (y0.tdiv 8) 3, pickI21 y1 30, decide (pickI21 (y1.tdiv 30) 7 = 0), 0, 0, 0, 0, 0, 0, 0, false, 0, ByteArray.mk #[]⟩) rfl rfl)
   refine HB.all keepA [19] (by kernel_rfl) rfl ⟨⟨_, rfl, ?_⟩, trivial⟩
   refine HP.one ?_
   refine H1.stAgg (cs := rcells rcZ) (vs := rcells r0) rfl rfl rfl (rcells_one _) rplA rfl ?_
   apply HB.fold
   refine HB.done keepA (by kernel_rfl) ?_
   exact HX.cut b6 trivial esA (by repeat (first | exact Hs.nil _ | (refine Hs.cons pickA ?_)))
 rintro b6 -
 clear hr0 q0 q1 q2 u0 u1
 refine hwNE ?_
 refine HL.one (H1.callz1 (α := Nat) (V := fun b => .slice (some ⟨b, 0, none⟩) (specF r0.kind).length (specF r0.kind).length) (An := fun b => A.blk b (ints (fldN r0.kind)) 3) (I := fun _ => True) (vs := [zv r0.kind]) rfl rfl (fun w' _ => Fields_fn r0.kind hS0.kind w') ?_)
 rintro bf -
 have hK := hS0.kind
 obtain ⟨K, hKe⟩ : ∃ K, K = r0.kind := ⟨_, rfl⟩
 rw [← hKe] at hK ⊢
 unfold fldN
 obtain ⟨L, hL⟩ : ∃ L, L = specF K := ⟨_, rfl⟩
 rw [← hL]
 have hnd : (L.map Prod.fst).Nodup := by rw [hL]; exact spec_nodup K
 have hL8 : L.length ≤ 8 := by rw [hL]; exact spec_len K
 refine hwNE ?_
 refine HC.loop (α := Nat × Rc) (fun z => [(0, .slice (some ⟨b1, off, none⟩) rows.length c0), (3, .slice a l.length c), (4, zv (i : Int)), (5, .pointer (some ⟨b5, 0, none⟩)), (6, .pointer (some ⟨b6, 0, none⟩)), (7, .slice (some ⟨bf, 0, none⟩) L.length L.length), (8, zv (z.1 : Int))])
  (fun z => [A.blk b6 (rcells z.2) 33, A.blk bf (ints (L.map fun p => (p.1 : Int))) 3, A.blk b5 (ints [y0, y1, y2, y3, y4, y5]) 66, A.grow 33 15 a c l.length (rcl l)])
  (fun z => z.1 ≤ L.length ∧ z.2.kind = K ∧ SomeI (L.take z.1) z.2) (fun z => L.length - z.1) (0, r0) ⟨Nat.zero_le _, hKe.symm, by rw [List.take_zero]; exact hS0⟩ esA (by repeat (first | exact Hs.nil _ | (refine Hs.cons pickA ?_))) ?_
 clear hKe hS0 r0
 rintro ⟨k, r⟩ ⟨hk, hrk, hS⟩
 dsimp only at hk hrk hS ⊢
 by_cases hkl : k < L.length
 ·obtain ⟨p, hp⟩ : ∃ p, L[k]? = some p := ⟨_, List.getElem?_eq_getElem hkl⟩
  have hpm : p ∈ specF K := hL ▸ List.mem_of_getElem? hp
  have htk : L.take (k + 1) = L.take k ++ [p] := by rw [List.take_add_one, hp]; rfl
  have hno := getter_no hnd hp
  have hone : p.1 = 1 → 2 ∉ (L.take k).map Prod.fst := fun e => by
   have := spec_one (k := K) (j := k) (p := p) (by rw [← hL]; exact hp) e
   rwa [← hL] at this
  have hp10 := (spec_lo hpm).2
  have hsn := spec_n hpm
  have hl10 : ∀ q ∈ L.take k, q.1 < 10 := fun q hq => (spec_lo (hL ▸ List.mem_of_mem_take hq)).2
  have hstep := fun (n : Int) a1 a2 a3 a4 => hS.step (p := p) hp10 hno (n := n) a1 a2 a3 a4 hl10
  rw [← htk] at hstep
  have hlim := fun w' => Limits_fn K hK p hpm w'
  have hget : (ints (L.map fun p => (p.1 : Int)))[k]? = some (zv (p.1 : Int)) := by
   unfold ints
   rw [List.map_map, List.getElem?_map, hp]; rfl
  have hlo := (spec_lo hpm).1
  have hhi := spec_hi hpm
  obtain ⟨q, lo, hi⟩ := p
  dsimp only at hp10 hsn hstep hlim hget hlo hhi hone
  have hst := hS.start
  have hkb : (k : Int) < 8 := by omega
  refine hwNE ?_
  refine HC.cut (α := Unit) (fun _ => [(0, .slice (some ⟨b1, off, none⟩) rows.length c0), (3, .slice a l.length c), (4, zv (i : Int)), (5, .pointer (some ⟨b5, 0, none⟩)), (6, .pointer (some ⟨b6, 0, none⟩)), (7, .slice (some ⟨bf, 0, none⟩) L.length L.length), (8, zv (k : Int)), (9, zv lo)]) (fun _ => [A.blk b6 (rcells r) 33, A.blk bf (ints (L.map fun p => (p.1 : Int))) 3, A.blk b5 (ints [y0, y1, y2, y3, y4, y5]) 66, A.grow 33 15 a c l.length (rcl l)]) (fun _ => True) ?_ ?_
  ·refine HC.any rfl ?_
   refine HA.pa 0 rfl ?_
   refine HA.pa 2 rfl ?_
   refine HA.pa 3 rfl ?_
   refine HA.pa 4 rfl ?_
   refine HA.all [1, 5] (by kernel_rfl) rfl ⟨⟨_, rfl, ?_⟩, ⟨_, rfl, ?_⟩, trivial⟩
   ·refine HO.one ?_
    refine H1.ldb (v := zv K) (cs := rcells r) rfl memA (by rw [← hrk]; rfl) rfl ?_
    apply HA.fold
    refine HA.all [5] (by kernel_rfl) rfl ⟨⟨_, rfl, ?_⟩, trivial⟩
    refine HO.one ?_
    refine H1.ldb (v := zv (q : Int)) (cs := ints (L.map fun p => (p.1 : Int))) rfl memA hget rfl ?_
    apply HA.fold
    refine HA.all [6] (by kernel_rfl) rfl ⟨⟨_, rfl, ?_⟩, trivial⟩
    refine HO.one ?_
    refine H1.callx (vs := [zv K, zv (q : Int)]) rfl rfl (fun w' _ => hlim w') ?_
    apply HA.fold
    refine HA.pa 7 rfl ?_
    refine HA.pa 8 rfl ?_
    refine HA.pa 9 rfl ?_
    refine HA.pa 10 rfl ?_
    refine HA.pa 11 rfl ?_
    refine HA.done (by kernel_rfl) ?_
    exact HX.cut () trivial esA (by repeat (first | exact Hs.nil _ | (refine Hs.cons pickA ?_)))
   ·refine HO.one ?_
    refine H1.ldb (v := zv (q : Int)) (cs := ints (L.map fun p => (p.1 : Int))) rfl memA hget rfl ?_
    apply HA.fold
    refine HA.all [1] (by kernel_rfl) rfl ⟨⟨_, rfl, ?_⟩, trivial⟩
    refine HO.one ?_
    refine H1.ldb (v := zv K) (cs := rcells r) rfl memA (by rw [← hrk]; rfl) rfl ?_
    apply HA.fold
    refine HA.all [6] (by kernel_rfl) rfl ⟨⟨_, rfl, ?_⟩, trivial⟩
    refine HO.one ?_
    refine H1.callx (vs := [zv K, zv (q : Int)]) rfl rfl (fun w' _ => hlim w') ?_
    apply HA.fold
    refine HA.pa 7 rfl ?_
    refine HA.pa 8 rfl ?_
    refine HA.pa 9 rfl ?_
    refine HA.pa 10 rfl ?_
    refine HA.pa 11 rfl ?_
    refine HA.done (by kernel_rfl) ?_
    exact HX.cut () trivial esA (by repeat (first | exact Hs.nil _ | (refine Hs.cons pickA ?_)))
  rintro - -
  refine hbDD ?_
  refine HL.pa ?_ (POp.shrI (b := 2 * k) rfl rfl (by push_cast; rfl) (by omega))
  have v2 := w2.shr (2 * k)
  generalize y2 / 2 ^ (2 * k) = s2 at v2 ⊢
  refine hbDD ?_
  refine HL.one (H1.call0 (vs := [zv s2, zv 4]) rfl rfl (fun w' _ => pick20_fn s2 4 v2.1 v2.2 (by decide) w') ?_)
  have qq := pickI21_lt s2 (n := 4) (by decide)
  generalize pickI21 s2 4 = g at qq ⊢
  refine hbDD ?_
  refine HL.one (H1.ldb (v := zv (q : Int)) (cs := ints (L.map fun p => (p.1 : Int))) rfl memA hget rfl ?_)
  refine hbDD ?_
  refine HC.cut (α := Int) (fun n => [(0, .slice (some ⟨b1, off, none⟩) rows.length c0), (3, .slice a l.length c), (4, zv (i : Int)), (5, .pointer (some ⟨b5, 0, none⟩)), (6, .pointer (some ⟨b6, 0, none⟩)), (7, .slice (some ⟨bf, 0, none⟩) L.length L.length), (8, zv (k : Int)), (11, zv n)]) (fun _ => [A.blk b6 (rcells r) 33, A.blk bf (ints (L.map fun p => (p.1 : Int))) 3, A.blk b5 (ints [y0, y1, y2, y3, y4, y5]) 66, A.grow 33 15 a c l.length (rcl l)]) (fun n => (lo ≤ n ∧ n ≤ hi) ∧ (q = 8 → n = 0 ∨ n = 1) ∧ (q = 1 → (0 ≤ n ∧ n ≤ 39) ∧ 2 ∉ (L.take k).map Prod.fst) ∧ (q = 2 → r.start ≤ n)) ?_ ?_
  ·by_cases e0 : q = 0
   ·have e0' : (q : Int) = 0 := by omega
    refine hwNE ?_
    refine HL.one (H1.call0 (vs := [zv y3, zv 9]) rfl rfl (fun w' _ => pick20_fn y3 9 w3.1 w3.2 (by decide) w') ?_)
    have qn := pickI21_lt y3 (n := 9) (by decide)
    generalize pickI21 y3 9 = n0 at qn ⊢
    refine hwNE ?_
    exact HX.cut (1 + n0) ⟨⟨by have := (hsn.1 e0).1; omega, by have := (hsn.1 e0).2; omega⟩, by omega, by omega, by omega⟩ esA (by repeat (first | exact Hs.nil _ | (refine Hs.cons pickA ?_)))
   have e0' : ¬ (q : Int) = 0 := by omega
   by_cases e1 : q = 1
   ·have e1' : (q : Int) = 1 := by omega
    refine hwNE ?_
    refine HL.one (H1.call0 (vs := [zv y4, zv 40]) rfl rfl (fun w' _ => pick20_fn y4 40 w4.1 w4.2 (by decide) w') ?_)
    have qn := pickI21_lt y4 (n := 40) (by decide)
    generalize pickI21 y4 40 = n0 at qn ⊢
    refine hwNE ?_
    exact HX.cut n0 ⟨⟨by have := (hsn.2.1 e1).1; omega, by have := (hsn.2.1 e1).2; omega⟩, by omega, fun _ => ⟨by omega, hone e1⟩, by omega⟩ esA (by repeat (first | exact Hs.nil _ | (refine Hs.cons pickA ?_)))
   have e1' : ¬ (q : Int) = 1 := by omega
   by_cases e2 : q = 2
   ·have e2' : (q : Int) = 2 := by omega
    have qn := pickI21_lt y5 (n := 30) (by decide)
    refine hwNE ?_
    refine HC.anyC ([(⟨b6, 5, none⟩, zv r.start), (⟨b5, 5, none⟩, zv y5)]) rfl ?_
    refine HB.pa 0 rfl ?_
    refine HB.ld 1 rfl rfl memD ?_
    refine HB.pa 2 rfl ?_
    refine HB.ld 3 rfl rfl memD ?_
    refine HB.all keepA [4] (by kernel_rfl) rfl ⟨⟨_, rfl, ?_⟩, trivial⟩
    refine HP.one ?_
    refine H1.call0 (vs := [zv y5, zv 30]) rfl rfl (fun w' _ => pick20_fn y5 30 w5.1 w5.2 (by decide) w') ?_
    apply HB.fold
    refine HB.pa 5 rfl ?_
    refine HB.pa 6 rfl ?_
    refine HB.done keepA (by kernel_rfl) ?_
    refine hwNE ?_
    exact HX.cut (r.start + pickI21 y5 30) ⟨⟨by have := (hsn.2.2.1 e2).1; omega, by have := (hsn.2.2.1 e2).2; omega⟩, by omega, by omega, by omega⟩ esA (by repeat (first | exact Hs.nil _ | (refine Hs.cons pickA ?_)))
   have e2' : ¬ (q : Int) = 2 := by omega
   by_cases e8 : q = 8
   ·have e8' : (q : Int) = 8 := by omega
    have u5 := w5.tdiv (n := 30) (by decide)
    refine hwNE ?_
    refine HL.pa ?_ (POp.quoT rfl rfl w5.1 w5.2 (by decide))
    refine hwNE ?_
    refine HL.one (H1.call0 (vs := [zv (y5.tdiv 30), zv 2]) rfl rfl (fun w' _ => pick20_fn (y5.tdiv 30) 2 u5.1 u5.2 (by decide) w') ?_)
    have qn := pickI21_lt (y5.tdiv 30) (n := 2) (by decide)
    generalize pickI21 (y5.tdiv 30) 2 = n0 at qn ⊢
    refine hwNE ?_
    exact HX.cut n0 ⟨⟨by have := (hsn.2.2.2.1 e8).1; omega, by have := (hsn.2.2.2.1 e8).2; omega⟩, by omega, by omega, by omega⟩ esA (by repeat (first | exact Hs.nil _ | (refine Hs.cons pickA ?_)))
   have e8' : ¬ (q : Int) = 8 := by omega
   refine hwNE ?_
   exact HX.cut (lo + g) ⟨⟨by omega, by have := hsn.2.2.2.2 e8; omega⟩, by omega, by omega, by omega⟩ esA (by repeat (first | exact Hs.nil _ | (refine Hs.cons pickA ?_)))
  rintro n ⟨n1, n2, n3, n4⟩
  have hS' := hstep n n1 n2 n3 n4
  have hk' : (r.setF q n).kind = K := by rw [(setF_same r q n).1]; exact hrk
  refine hwNE ?_
  refine HC.any rfl ?_
  refine HA.pa 1 rfl ?_
  refine HA.pa 2 rfl ?_
  refine HA.pa 3 rfl ?_
  refine HA.pa 5 rfl ?_
  refine HA.all [0, 4] (by kernel_rfl) rfl ⟨⟨_, rfl, ?_⟩, ⟨_, rfl, ?_⟩, trivial⟩
  ·refine HO.one ?_
   refine H1.ldAgg (vs := rcells r) rfl memA rfl (fun i v hv => by simp only [Nat.zero_add]; exact hv) rfl ?_
   apply HA.fold
   refine HA.all [4] (by kernel_rfl) rfl ⟨⟨_, rfl, ?_⟩, trivial⟩
   refine HO.one ?_
   refine H1.ldb (v := zv (q : Int)) (cs := ints (L.map fun p => (p.1 : Int))) rfl memA hget rfl ?_
   apply HA.fold
   refine HA.all [6] (by kernel_rfl) rfl ⟨⟨_, rfl, ?_⟩, trivial⟩
   refine HO.one ?_
   refine H1.callx (vs := [recV r, zv (q : Int), zv n]) rfl rfl (fun w' _ => Set_fn r q hp10 n w') ?_
   apply HA.fold
   refine HA.all [7] (by kernel_rfl) rfl ⟨⟨_, rfl, ?_⟩, trivial⟩
   refine HO.one ?_
   refine H1.stAgg (cs := rcells r) (vs := rcells (r.setF q n)) rfl rfl rfl (rcells_one _) rplA rfl ?_
   apply HA.fold
   refine HA.done (by kernel_rfl) ?_
   refine hwNE ?_
   exact HX.again (k + 1, r.setF q n) ⟨hkl, hk', hS'⟩ (by show L.length - (k + 1) < L.length - k; omega) esA (by repeat (first | exact Hs.nil _ | (refine Hs.cons pickA ?_)))
  ·refine HO.one ?_
   refine H1.ldb (v := zv (q : Int)) (cs := ints (L.map fun p => (p.1 : Int))) rfl memA hget rfl ?_
   apply HA.fold
   refine HA.all [0] (by kernel_rfl) rfl ⟨⟨_, rfl, ?_⟩, trivial⟩
   refine HO.one ?_
   refine H1.ldAgg (vs := rcells r) rfl memA rfl (fun i v hv => by simp only [Nat.zero_add]; exact hv) rfl ?_
   apply HA.fold
   refine HA.all [6] (by kernel_rfl) rfl ⟨⟨_, rfl, ?_⟩, trivial⟩
   refine HO.one ?_
   refine H1.callx (vs := [recV r, zv (q : Int), zv n]) rfl rfl (fun w' _ => Set_fn r q hp10 n w') ?_
   apply HA.fold
   refine HA.all [7] (by kernel_rfl) rfl ⟨⟨_, rfl, ?_⟩, trivial⟩
   refine HO.one ?_
   refine H1.stAgg (cs := rcells r) (vs := rcells (r.setF q n)) rfl rfl rfl (rcells_one _) rplA rfl ?_
   apply HA.fold
   refine HA.done (by kernel_rfl) ?_
   refine hwNE ?_
   exact HX.again (k + 1, r.setF q n) ⟨hkl, hk', hS'⟩ (by show L.length - (k + 1) < L.length - k; omega) esA (by repeat (first | exact Hs.nil _ | (refine Hs.cons pickA ?_)))
 obtain rfl : k = L.length := by omega
 rw [List.take_length] at hS
 have hS9 : SomeI (specF r.kind) r := by rw [hrk, ← hL]; exact hS
 clear hS hrk hk hkl hnd hL8 hL
 by_cases c2 : r.kind = 2
 ·by_cases c3 : r.clause = r.party
  ·refine hwNE ?_
   refine HL.one (H1.st (b := b6) rfl rfl (by intro _ h; cases h) (by intro _ h; cases h) rplA (of_decide_eq_true rfl) ?_)
   refine hwNE ?_
   refine HL.one (H1.ldAgg (vs := rcells (r.setF 9 0)) rfl memA rfl (fun i v hv => by simp only [Nat.zero_add]; exact hv) rfl ?_)
   refine hwNE ?_
   refine HL.one (H1.lit (cs := rcells (r.setF 9 0)) rfl rfl rfl rfl rfl rfl (fun b8 => ?_))
   refine hwNE ?_
   refine HL.one (H1.app (e := 33) (sz := 15) (m := 1) (n := l.length) (a := a) (c := c) (xs := rcl l) (news := rcells (r.setF 9 0)) rfl (by decide) rfl rfl (fun a' c' => by first | ((repeat (first | with_reducible exact Rpl.here | with_reducible apply Rpl.there)); done) | (repeat (first | exact Rpl.here | apply Rpl.there))) rfl (fun w hM j u hu => by rw [add_lit, Nat.zero_add]; exact (hM.blk memA).cell hu) (rcells_one _) (by omega) (by decide) rfl (fun a' c' _ => ?_))
   refine hwNE ?_
   exact HX.again (i + 1, l ++ [(r.setF 9 0)], a', c') ⟨by show i + 1 ≤ rows.length; omega, by show i + 1 ≤ 30; omega, by show (l ++ [(r.setF 9 0)]).length = i + 1; rw [List.length_append, hll]; rfl, hsnoc (r.setF 9 0) (hS9.done2 c2)⟩ (by show 30 - (i + 1) < 30 - i; omega) (by show Env.sub _ [(0, .slice (some ⟨b1, off, none⟩) rows.length c0), (3, .slice a' (l ++ [(r.setF 9 0)]).length c'), (4, zv ((i + 1 : Nat) : Int))]; rw [List.length_append]; repeat (first | exact trivial | refine ⟨rfl, ?_⟩)) (by show Hs _ [A.grow 33 15 a' c' (l ++ [(r.setF 9 0)]).length (rcl (l ++ [(r.setF 9 0)]))]; rw [List.length_append, rcl_app, show rcl [(r.setF 9 0)] = rcells (r.setF 9 0) from List.append_nil _]; repeat (first | exact Hs.nil _ | (refine Hs.cons pickA ?_)))
  ·refine hwNE ?_
   refine HL.one (H1.ldAgg (vs := rcells r) rfl memA rfl (fun i v hv => by simp only [Nat.zero_add]; exact hv) rfl ?_)
   refine hwNE ?_
   refine HL.one (H1.lit (cs := rcells r) rfl rfl rfl rfl rfl rfl (fun b8 => ?_))
   refine hwNE ?_
   refine HL.one (H1.app (e := 33) (sz := 15) (m := 1) (n := l.length) (a := a) (c := c) (xs := rcl l) (news := rcells r) rfl (by decide) rfl rfl (fun a' c' => by first | ((repeat (first | with_reducible exact Rpl.here | with_reducible apply Rpl.there)); done) | (repeat (first | exact Rpl.here | apply Rpl.there))) rfl (fun w hM j u hu => by rw [add_lit, Nat.zero_add]; exact (hM.blk memA).cell hu) (rcells_one _) (by omega) (by decide) rfl (fun a' c' _ => ?_))
   refine hwNE ?_
   exact HX.again (i + 1, l ++ [r], a', c') ⟨by show i + 1 ≤ rows.length; omega, by show i + 1 ≤ 30; omega, by show (l ++ [r]).length = i + 1; rw [List.length_append, hll]; rfl, hsnoc r (hS9.done fun _ => c3)⟩ (by show 30 - (i + 1) < 30 - i; omega) (by show Env.sub _ [(0, .slice (some ⟨b1, off, none⟩) rows.length c0), (3, .slice a' (l ++ [r]).length c'), (4, zv ((i + 1 : Nat) : Int))]; rw [List.length_append]; repeat (first | exact trivial | refine ⟨rfl, ?_⟩)) (by show Hs _ [A.grow 33 15 a' c' (l ++ [r]).length (rcl (l ++ [r]))]; rw [List.length_append, rcl_app, show rcl [r] = rcells r from List.append_nil _]; repeat (first | exact Hs.nil _ | (refine Hs.cons pickA ?_)))
 ·refine hwNE ?_
  refine HL.one (H1.ldAgg (vs := rcells r) rfl memA rfl (fun i v hv => by simp only [Nat.zero_add]; exact hv) rfl ?_)
  refine hwNE ?_
  refine HL.one (H1.lit (cs := rcells r) rfl rfl rfl rfl rfl rfl (fun b8 => ?_))
  refine hwNE ?_
  refine HL.one (H1.app (e := 33) (sz := 15) (m := 1) (n := l.length) (a := a) (c := c) (xs := rcl l) (news := rcells r) rfl (by decide) rfl rfl (fun a' c' => by first | ((repeat (first | with_reducible exact Rpl.here | with_reducible apply Rpl.there)); done) | (repeat (first | exact Rpl.here | apply Rpl.there))) rfl (fun w hM j u hu => by rw [add_lit, Nat.zero_add]; exact (hM.blk memA).cell hu) (rcells_one _) (by omega) (by decide) rfl (fun a' c' _ => ?_))
  refine hwNE ?_
  exact HX.again (i + 1, l ++ [r], a', c') ⟨by show i + 1 ≤ rows.length; omega, by show i + 1 ≤ 30; omega, by show (l ++ [r]).length = i + 1; rw [List.length_append, hll]; rfl, hsnoc r (hS9.done fun h => absurd h c2)⟩ (by show 30 - (i + 1) < 30 - i; omega) (by show Env.sub _ [(0, .slice (some ⟨b1, off, none⟩) rows.length c0), (3, .slice a' (l ++ [r]).length c'), (4, zv ((i + 1 : Nat) : Int))]; rw [List.length_append]; repeat (first | exact trivial | refine ⟨rfl, ?_⟩)) (by show Hs _ [A.grow 33 15 a' c' (l ++ [r]).length (rcl (l ++ [r]))]; rw [List.length_append, rcl_app, show rcl [r] = rcells r from List.append_nil _]; repeat (first | exact Hs.nil _ | (refine Hs.cons pickA ?_)))
end Go.Sx
/- Chapter 24: the nodes that integers determine: the walk. -/
namespace Go.Sx
open Go Go.Proofs Go.RowKit
def madeD (rows : List (List Int)) : Nat → List ByteArray
 | 0 => []
 | i + 1 => madeD rows i ++ [sumS (rnsB [yI (rows.getD i []) 2, (i : Int)])]
theorem madeD_len (rows : List (List Int)) : ∀ i, (madeD rows i).length = i
 | 0 => rfl
 | i + 1 => by show (_ ++ [_]).length = _; rw [List.length_append, madeD_len rows i]; rfl
theorem madeD_size (rows : List (List Int)) : ∀ i, ∀ d ∈ madeD rows i, d.size = 32
 | 0, _, h => by cases h
 | i + 1, d, h => by
  rcases List.mem_append.1 h with h | h
  ·exact madeD_size rows i d h
  ·rw [List.mem_singleton] at h; subst h; exact sumS_size _
theorem four {y : List Int} (h : y.length = 4) : ∃ y0 y1 y2 y3, y = [y0, y1, y2, y3] := by
 match y, h with
 | [a, b, c, d], _ => exact ⟨a, b, c, d, rfl⟩
def madeN (rows : List (List Int)) : Nat := min rows.length 20
theorem lastId_le {l : List Nd} (h : MadeP l) (hl : l.length ≤ 20) : 0 ≤ lastId l ∧ lastId l ≤ 60 := by have := h.last; omega
theorem zGet {z : List NdZ} {N : List Nd} (h : ndsZ z = N) {i : Nat} (hi : i < N.length) : (ndsV z)[i * 4]? = some (zv (ndAt N i).id) ∧ (ndsV z)[i * 4 + 2]? = some (zv (ndAt N i).pack) := by
 subst h
 rw [ndsZ_len] at hi
 have e : z[i]? = some (z.getD i default) := by simp [hi]
 have e2 : ndAt (ndsZ z) i = (z.getD i default).1 := by unfold ndAt ndsZ; simp [hi]
 rw [e2]
 exact ⟨ndsV_get e (j := 0) (by decide), ndsV_get e (j := 2) (by decide)⟩
theorem HL.conv24 {P : Program} {r : Option Nat} {N : Nat} {ds : List Deferred} {ol l : List Oper} {Q : Post} {E : Env} {w0 : World} {H H2 : List Atom} (hh : ∀ w, Mm w0 H w → Mm w0 H2 w) (h : HL P r N ds ol l Q E w0 H2) : HL P r N ds ol l Q E w0 H := fun w hM => h w (hh w hM)
attribute [local irreducible] WC WL WX POp Then Again Fn NX W1 WA WO QL RP RA Yld LoopAt HC HL HX HN H1 HA HO HQ HB HP A.blk A.grow A.rd A.obj A.mp AgainH CutH
attribute [local irreducible] A.mq A.mit A.all sumS HU HV
set_option maxHeartbeats 8000000 in
theorem made24_fn (v : Value) (rows : List (List Int)) (hrow : ∀ y ∈ rows, y.length = 4 ∧ ∀ z ∈ y, i64W z) (w : World) (hR : RdA 4 w v rows) :
  Fn Tryz.prog 5 #[v] w fun u w' => (∃ v g U, u = .tuple #[v, g] ∧ RdN w' v (madeL rows (madeN rows)) U ∧ Rd w' g (strs (madeD rows (madeN rows)))) ∧ Ext w w' := by
 obtain ⟨a0, c0, rfl, -⟩ := hR.shape
 refine enterH (l := [_]) rfl Tryz.ntmps5 rfl ?_
 refine HC.grow0 39 4 ?_
 refine HC.grow0 9 1 ?_
 refine HC.conv (H2 := A.all (rowsA []) :: [A.grow 9 1 none 0 0 [], A.grow 39 4 none 0 0 []]) (fun w h => h.allNil) ?_
 refine hwNB ?_
 refine HC.loop (α := Nat × List NdZ × (Option Addr × Nat) × (Option Addr × Nat)) (fun q => [(0, .slice a0 rows.length c0), (4, .slice q.2.2.1.1 q.1 q.2.2.1.2), (5, .slice q.2.2.2.1 q.1 q.2.2.2.2), (6, zv (lastId (madeL rows q.1))), (7, zv (q.1 : Int))])
  (fun q => [A.grow 39 4 q.2.2.1.1 q.2.2.1.2 q.1 (ndsV q.2.1), A.grow 9 1 q.2.2.2.1 q.2.2.2.2 q.1 (strs (madeD rows q.1)), A.all (rowsA q.2.1)]) (fun q => q.1 ≤ rows.length ∧ q.1 ≤ 20 ∧ ndsZ q.2.1 = madeL rows q.1) (fun q => 20 - q.1) (0, [], (none, 0), (none, 0)) ⟨Nat.zero_le _, Nat.zero_le _, rfl⟩ esA (by repeat (first | exact Hs.nil _ | (refine Hs.cons pickA ?_))) ?_
 rintro ⟨i, z, ⟨an, cn⟩, ad, cd⟩ ⟨hi1, hi2, hz⟩
 dsimp only at hi1 hi2 hz ⊢
 have hzl : z.length = i := by rw [← ndsZ_len, hz, madeL_len]
 have hend : i = madeN rows → ∀ w', Mm w [A.grow 39 4 an cn i (ndsV z), A.grow 9 1 ad cd i (strs (madeD rows i)), A.all (rowsA z)] w' → (∃ v g U, Value.tuple #[.slice an i cn, .slice ad i cd] = .tuple #[v, g] ∧ RdN w' v (madeL rows (madeN rows)) U ∧ Rd w' g (strs (madeD rows (madeN rows)))) ∧ Ext w w' := by
  intro e w' hM
  refine ⟨⟨_, _, adrZ z, rfl, ?_, ?_⟩, hM.ext⟩
  ·have h := hM.rdN (a := an) (c := cn) (z := z) (by rw [hzl]; first | ((repeat (first | with_reducible exact mem_hd | with_reducible apply mem_tl)); done) | (repeat (first | exact List.Mem.head _ | apply List.Mem.tail))) memA
   rw [hz, hzl] at h
   rw [← e]; exact h
  ·have h := hM.gr (e := 9) (a := ad) (c := cd) (n := i) memA
   rw [← e]; exact h
 by_cases hlt : i < rows.length
 rotate_left
 ·have h1 : ¬ (i : Int) < (rows.length : Int) := by omega
  refine hwNB ?_
  exact HX.ret2 rfl rfl rfl fun w' hM => hend (by unfold madeN; omega) w' hM
 have h1 : (i : Int) < (rows.length : Int) := by omega
 by_cases h20 : i < 20
 rotate_left
 ·have h2 : ¬ (i : Int) < 20 := by omega
  refine hwNB ?_
  exact HX.ret2 rfl rfl rfl fun w' hM => hend (by unfold madeN; omega) w' hM
 have h2 : (i : Int) < 20 := by omega
 obtain ⟨y, hy⟩ : ∃ y, rows[i]? = some y := ⟨_, List.getElem?_eq_getElem hlt⟩
 have hy4 := hrow y (List.mem_of_getElem? hy)
 have hgy : rows.getD i [] = y := by rw [List.getD_eq_getElem?_getD, hy]; rfl
 obtain ⟨bx, off, rfl, -, hcell⟩ := hR.at (fun e => by rw [e] at hlt; exact absurd hlt (Nat.not_lt_zero _))
 have hcl := hcell i y hy
 clear hcell hend
 obtain ⟨y0, y1, y2, y3, rfl⟩ := four hy4.1
 have w0 := hy4.2 y0 (by simp)
 have w1 := hy4.2 y1 (by simp)
 have w2 := hy4.2 y2 (by simp)
 have w3 := hy4.2 y3 (by simp)
 have hok := madeL_ok rows i (by omega)
 have hll := madeL_len rows i
 have hlast := lastId_le hok (by omega)
 have hstep : madeL rows (i + 1) = madeL rows i ++ [mkNd (madeL rows i) [y0, y1, y2, y3]] := by
  show madeL rows i ++ [mkNd (madeL rows i) (rows.getD i [])] = _; rw [hgy]
 have hdst : strs (madeD rows i) ++ [.string (sumS (rnsB [y2, (i : Int)]))] = strs (madeD rows (i + 1)) := by
  rw [strs_snoc]
  show _ = strs (madeD rows i ++ [sumS (rnsB [yI (rows.getD i []) 2, (i : Int)])])
  rw [hgy]; rfl
 have hlast2 : lastId (madeL rows (i + 1)) = (mkNd (madeL rows i) [y0, y1, y2, y3]).id := by rw [hstep, lastId_snoc]
 have hmk : ∀ n, mkNd (madeL rows i) [y0, y1, y2, y3] = n → mkNd (madeL rows i) [y0, y1, y2, y3] = n := fun _ h => h
 have hid : (mkNd (madeL rows i) [y0, y1, y2, y3]).id = lastId (madeL rows i) + 1 + pickI21 y0 3 := mkNd_id _ _
 have q0 := pickI21_lt y0 (n := 3) (by decide)
 have q1 := pickI21_lt y1 (n := 4) (by decide)
 generalize hN : madeL rows i = N at hz hok hll hlast hstep hmk hid hlast2 ⊢
 refine hwNB ?_
 refine HL.one (H1.ldAggw (vs := ints [y0, y1, y2, y3]) rfl rfl (fun w' hM i v hv => cell_ext hM.ext (hcl i v hv)) rfl ?_)
 clear hcl hy hy4
 refine hwNB ?_
 refine HL.one (H1.alloc (cs := ints [0, 0, 0, 0]) rfl rfl (fun b8 => ?_))
 refine hwNB ?_
 refine HL.one (H1.stAgg (b := b8) (cs := ints [0, 0, 0, 0]) (vs := ints [y0, y1, y2, y3]) rfl rfl rfl (ints_one _) rplA rfl ?_)
 refine hwNB ?_
 refine HC.cut (α := Nat) (fun b9 => [(0, .slice (some ⟨bx, off, none⟩) rows.length c0), (4, .slice an i cn), (5, .slice ad i cd), (7, zv (i : Int)), (8, .pointer (some ⟨b8, 0, none⟩)), (9, .pointer (some ⟨b9, 0, none⟩))]) (fun b9 => [A.blk b9 (ndC ⟨lastId N + 1 + pickI21 y0 3, 1, 1 + pickI21 y1 4, []⟩ (.slice none 0 0)) 39, A.blk b8 (ints [y0, y1, y2, y3]) 63, A.grow 39 4 an cn i (ndsV z), A.grow 9 1 ad cd i (strs (madeD rows i)), A.all (rowsA z)]) (fun _ => True) ?_ ?_
 ·refine HC.anyC ([(⟨b8, 0, none⟩, zv y0), (⟨b8, 1, none⟩, zv y1)]) rfl ?_
  refine HB.pa 0 rfl ?_
  refine HB.pa 1 rfl ?_
  refine HB.pa 2 rfl ?_
  refine HB.ld 3 rfl rfl memD ?_
  refine HB.pa 6 rfl ?_
  refine HB.ld 7 rfl rfl memD ?_
  refine HB.all keepA [4, 11] (by kernel_rfl) rfl ⟨⟨_, rfl, ?_⟩, ⟨_, rfl, ?_⟩, trivial⟩
  ·refine HP.one ?_
   refine H1.call0 (vs := [zv y0, zv 3]) rfl rfl (fun w' _ => rpick24_fn y0 3 w0.1 w0.2 (by decide) w') ?_
   apply HB.fold
   refine HB.pa 5 rfl ?_
   refine HB.all keepA [8, 11] (by kernel_rfl) rfl ⟨⟨_, rfl, ?_⟩, ⟨_, rfl, ?_⟩, trivial⟩
   ·refine HP.one ?_
    refine H1.call0 (vs := [zv y1, zv 4]) rfl rfl (fun w' _ => rpick24_fn y1 4 w1.1 w1.2 (by decide) w') ?_
    apply HB.fold
    refine HB.pa 9 rfl ?_
    refine HB.pa 10 rfl ?_ (POp.build (cs := ndC ⟨lastId N + 1 + pickI21 y0 3, 1, 1 + pickI21 y1 4, []⟩ (.slice none 0 0)) rfl rfl)
    refine HB.all keepA [11] (by kernel_rfl) rfl ⟨⟨_, rfl, ?_⟩, trivial⟩
    refine HP.one ?_
    refine H1.alloc (cs := ndC ⟨0, 0, 0, []⟩ (.slice none 0 0)) rfl rfl (fun b9 => ?_)
    apply HB.fold
    refine HB.all keepA [12] (by kernel_rfl) rfl ⟨⟨_, rfl, ?_⟩, trivial⟩
    refine HP.one ?_
    refine H1.stAgg (b := b9) (cs := ndC ⟨0, 0, 0, []⟩ (.slice none 0 0)) (vs := ndC ⟨lastId N + 1 + pickI21 y0 3, 1, 1 + pickI21 y1 4, []⟩ (.slice none 0 0)) rfl rfl rfl (nd_one rfl) rplA rfl ?_
    apply HB.fold
    refine HB.done keepA (by kernel_rfl) ?_
    exact HX.cut b9 trivial esA (by repeat (first | exact Hs.nil _ | (refine Hs.cons pickA ?_)))
   ·refine HP.one ?_
    refine H1.alloc (cs := ndC ⟨0, 0, 0, []⟩ (.slice none 0 0)) rfl rfl (fun b9 => ?_)
    apply HB.fold
    refine HB.all keepA [8] (by kernel_rfl) rfl ⟨⟨_, rfl, ?_⟩, trivial⟩
    refine HP.one ?_
    refine H1.call0 (vs := [zv y1, zv 4]) rfl rfl (fun w' _ => rpick24_fn y1 4 w1.1 w1.2 (by decide) w') ?_
    apply HB.fold
    refine HB.pa 9 rfl ?_
    refine HB.pa 10 rfl ?_ (POp.build (cs := ndC ⟨lastId N + 1 + pickI21 y0 3, 1, 1 + pickI21 y1 4, []⟩ (.slice none 0 0)) rfl rfl)
    refine HB.all keepA [12] (by kernel_rfl) rfl ⟨⟨_, rfl, ?_⟩, trivial⟩
    refine HP.one ?_
    refine H1.stAgg (b := b9) (cs := ndC ⟨0, 0, 0, []⟩ (.slice none 0 0)) (vs := ndC ⟨lastId N + 1 + pickI21 y0 3, 1, 1 + pickI21 y1 4, []⟩ (.slice none 0 0)) rfl rfl rfl (nd_one rfl) rplA rfl ?_
    apply HB.fold
    refine HB.done keepA (by kernel_rfl) ?_
    exact HX.cut b9 trivial esA (by repeat (first | exact Hs.nil _ | (refine Hs.cons pickA ?_)))
  ·refine HP.one ?_
   refine H1.alloc (cs := ndC ⟨0, 0, 0, []⟩ (.slice none 0 0)) rfl rfl (fun b9 => ?_)
   apply HB.fold
   refine HB.all keepA [4] (by kernel_rfl) rfl ⟨⟨_, rfl, ?_⟩, trivial⟩
   refine HP.one ?_
   refine H1.call0 (vs := [zv y0, zv 3]) rfl rfl (fun w' _ => rpick24_fn y0 3 w0.1 w0.2 (by decide) w') ?_
   apply HB.fold
   refine HB.pa 5 rfl ?_
   refine HB.all keepA [8] (by kernel_rfl) rfl ⟨⟨_, rfl, ?_⟩, trivial⟩
   refine HP.one ?_
   refine H1.call0 (vs := [zv y1, zv 4]) rfl rfl (fun w' _ => rpick24_fn y1 4 w1.1 w1.2 (by decide) w') ?_
   apply HB.fold
   refine HB.pa 9 rfl ?_
   refine HB.pa 10 rfl ?_ (POp.build (cs := ndC ⟨lastId N + 1 + pickI21 y0 3, 1, 1 + pickI21 y1 4, []⟩ (.slice none 0 0)) rfl rfl)
   refine HB.all keepA [12] (by kernel_rfl) rfl ⟨⟨_, rfl, ?_⟩, trivial⟩
   refine HP.one ?_
   refine H1.stAgg (b := b9) (cs := ndC ⟨0, 0, 0, []⟩ (.slice none 0 0)) (vs := ndC ⟨lastId N + 1 + pickI21 y0 3, 1, 1 + pickI21 y1 4, []⟩ (.slice none 0 0)) rfl rfl rfl (nd_one rfl) rplA rfl ?_
   apply HB.fold
   refine HB.done keepA (by kernel_rfl) ?_
   exact HX.cut b9 trivial esA (by repeat (first | exact Hs.nil _ | (refine Hs.cons pickA ?_)))
 rintro b9 -
 refine HC.seq ?_
 refine HC.cut (α := Option Addr × Nat) (fun _ => [(0, .slice (some ⟨bx, off, none⟩) rows.length c0), (4, .slice an i cn), (5, .slice ad i cd), (7, zv (i : Int)), (8, .pointer (some ⟨b8, 0, none⟩)), (9, .pointer (some ⟨b9, 0, none⟩))])
  (fun q => [A.grow 3 1 q.1 q.2 (mkNd N [y0, y1, y2, y3]).src.length (ints (mkNd N [y0, y1, y2, y3]).src), A.blk b9 (ndC (mkNd N [y0, y1, y2, y3]) (.slice q.1 (mkNd N [y0, y1, y2, y3]).src.length q.2)) 39, A.blk b8 (ints [y0, y1, y2, y3]) 63, A.grow 39 4 an cn i (ndsV z), A.grow 9 1 ad cd i (strs (madeD rows i)), A.all (rowsA z)]) (fun _ => True) ?_ ?_
 ·by_cases h0 : 0 < i
  rotate_left
  ·have h0' : ¬ (0 : Int) < (i : Int) := by omega
   have hm : mkNd N [y0, y1, y2, y3] = ⟨lastId N + 1 + pickI21 y0 3, 1, 1 + pickI21 y1 4, []⟩ := by
    unfold mkNd
    rw [if_neg fun h => by have := h.1; omega]
    rfl
   rw [hm]
   refine HC.grow0 3 1 ?_
   refine hwNB ?_
   exact HX.cut (none, 0) trivial esA (by repeat (first | exact Hs.nil _ | (refine Hs.cons pickA ?_)))
  have h0' : (0 : Int) < (i : Int) := by omega
  have q2 := pickI21_lt (y0.tdiv 3) (n := 3) (by decide)
  have u0 := w0.tdiv (n := 3) (by decide)
  have u1 := w1.tdiv (n := 4) (by decide)
  refine hwNB ?_
  refine HL.pa ?_ (POp.quoT rfl rfl w0.1 w0.2 (by decide))
  refine hwNB ?_
  refine HL.one (H1.call0 (vs := [_, zv 3]) rfl rfl (fun w' _ => rpick24_fn (y0.tdiv 3) 3 u0.1 u0.2 (by decide) w') ?_)
  by_cases hp : 0 < pickI21 (y0.tdiv 3) 3
  rotate_left
  ·have hm : mkNd N [y0, y1, y2, y3] = ⟨lastId N + 1 + pickI21 y0 3, 1, 1 + pickI21 y1 4, []⟩ := by
    unfold mkNd
    rw [if_neg fun h => hp h.2]
    rfl
   rw [hm]
   refine HL.fold ?_
   refine HL.grow0 3 1 ?_
   refine hwNB ?_
   exact HX.cut (none, 0) trivial esA (by repeat (first | exact Hs.nil _ | (refine Hs.cons pickA ?_)))
  have hsrc : isSrc N [y0, y1, y2, y3] := ⟨by omega, hp⟩
  obtain ⟨a, hae, ha⟩ : ∃ a : Nat, pickI21 y2 (i : Int) = (a : Int) ∧ a < i := by
   have := pickI21_lt y2 (n := (i : Int)) (by omega)
   exact ⟨(pickI21 y2 (i : Int)).toNat, by omega, by omega⟩
  obtain ⟨b, hbe, hb⟩ : ∃ b : Nat, pickI21 y3 (i : Int) = (b : Int) ∧ b < i := by
   have := pickI21_lt y3 (n := (i : Int)) (by omega)
   exact ⟨(pickI21 y3 (i : Int)).toNat, by omega, by omega⟩
  have hm : mkNd N [y0, y1, y2, y3] = ⟨lastId N + 1 + pickI21 y0 3, 2 + pickI21 (y1.tdiv 4) 4, (ndAt N a).pack, (ndAt N (min a b)).id :: if a = b then [] else [(ndAt N (max a b)).id]⟩ := by
   have h1 : srcA N [y0, y1, y2, y3] = a := by
    show (pickI21 y2 (N.length : Int)).toNat = a
    rw [hll, hae]; rfl
   have h2 : srcB N [y0, y1, y2, y3] = b := by
    show (pickI21 y3 (N.length : Int)).toNat = b
    rw [hll, hbe]; rfl
   unfold mkNd
   rw [if_pos hsrc, h1, h2]
   rfl
  have q3 := pickI21_lt (y1.tdiv 4) (n := 4) (by decide)
  have gpa := (zGet hz (i := a) (by omega)).2
  have gmin := (zGet hz (i := min a b) (by omega)).1
  have gmax := (zGet hz (i := max a b) (by omega)).1
  have hmin : (min (a : Int) (b : Int)).toNat = min a b := by omega
  have hmax : (max (a : Int) (b : Int)).toNat = max a b := by omega
  rw [hm]
  generalize (ndAt N a).pack = pk at gpa hm ⊢
  generalize (ndAt N (min a b)).id = idn at gmin hm ⊢
  generalize (ndAt N (max a b)).id = idx at gmax hm ⊢
  refine HL.fold ?_
  refine HL.openg (e := 39) (sz := 4) (a := an) (c := cn) (n := i) (xs := ndsV z) memA (by omega) ?_
  rintro bn rfl
  refine hwNB ?_
  refine HL.pa ?_ (POp.quoT rfl rfl w1.1 w1.2 (by decide))
  refine hwNB ?_
  refine HL.one (H1.call0 (vs := [_, zv 4]) rfl rfl (fun w' _ => rpick24_fn (y1.tdiv 4) 4 u1.1 u1.2 (by decide) w') ?_)
  refine hwNB ?_
  refine HL.one (H1.st (b := b9) (i := 1) rfl rfl (by intro _ h; cases h) (by intro _ h; cases h) rplA (by show 1 < 4; decide) ?_)
  refine hwNB ?_
  refine HL.one (H1.call0 (vs := [zv y2, zv (i : Int)]) rfl rfl (fun w' _ => rpick24_fn y2 (i : Int) w2.1 w2.2 (by omega) w') ?_)
  rw [hae]
  refine hwNB ?_
  refine HL.one (H1.call0 (vs := [zv y3, zv (i : Int)]) rfl rfl (fun w' _ => rpick24_fn y3 (i : Int) w3.1 w3.2 (by omega) w') ?_)
  rw [hbe]
  refine hwNB ?_
  refine HL.one (H1.ldg (c := cn) (n := i) (sz := 4) (e := 39) (vs := ndsV z) (i := a * 4 + 2) rfl memA gpa rfl ?_)
  refine hwNB ?_
  refine HL.one (H1.st (b := b9) (i := 2) rfl rfl (by intro _ h; cases h) (by intro _ h; cases h) rplA (by show 2 < 4; decide) ?_)
  refine hwNB ?_
  refine HL.one (H1.ldg (c := cn) (n := i) (sz := 4) (e := 39) (vs := ndsV z) (i := min a b * 4) (by show some (Value.pointer (some ⟨bn, (min (a : Int) (b : Int)).toNat * 4 + 0, none⟩)) = _; rw [hmin]; rfl) memA gmin rfl ?_)
  refine hwNB ?_
  refine HL.one (H1.lit (cs := [zv idn]) rfl rfl rfl rfl rfl rfl (fun b10 => ?_))
  refine hwNB ?_
  refine HL.one (H1.st (b := b9) (i := 3) rfl rfl (by intro _ h; cases h) (by intro _ h; cases h) rplA (by show 3 < 4; decide) ?_)
  refine HL.fold ?_
  refine HL.conv24 (H2 := [A.blk b10 [zv idn] 3, A.blk b9 [zv (lastId N + 1 + pickI21 y0 3), zv (2 + pickI21 (y1.tdiv 4) 4), zv pk, .slice (some ⟨b10, 0, none⟩) 1 1] 39, A.blk b8 (ints [y0, y1, y2, y3]) 63, A.grow 39 4 (some ⟨bn, 0, none⟩) cn i (ndsV z), A.grow 9 1 ad cd i (strs (madeD rows i)), A.all (rowsA z)]) (fun w h => h) ?_
  by_cases hab : a = b
  ·have hab' : ((a : Nat) : Int) = (b : Int) := by omega
   rw [if_pos hab]
   refine hwNB ?_
   refine HX.conv (fun w h => Mm.blkGrow (n := 1) (sz := 1) h rfl (by decide)) ?_
   exact HX.cut (some ⟨b10, 0, none⟩, 1) trivial esA (by repeat (first | exact Hs.nil _ | (refine Hs.cons pickA ?_)))
  have hab' : ¬ ((a : Nat) : Int) = (b : Int) := by omega
  rw [if_neg hab]
  refine hwNB ?_
  refine HC.anyU ([(12, ⟨b9, 3, none⟩, .slice (some ⟨b10, 0, none⟩) 1 1), (12, ⟨bn, max a b * 4, none⟩, zv idx)]) rfl ?_
  refine HU.pa 0 rfl ?_
  refine HU.ld (s := 12) 1 rfl rfl (.head _) ?_
  refine HU.pa 2 rfl ?_
  refine HU.pa 3 rfl ?_
  refine HU.pa 4 rfl ?_
  refine HU.pa 5 rfl ?_
  refine HU.pa 6 rfl ?_
  refine HU.pa 7 rfl ?_
  refine HU.ld (s := 12) (ad := ⟨bn, max a b * 4, none⟩) (v := zv idx) 8 rfl (by show some (Value.pointer (some ⟨bn, (max (a : Int) (b : Int)).toNat * 4 + 0, none⟩)) = _; rw [hmax]; rfl) (.tail _ (.head _)) ?_
  refine HU.all (kU (kU KeepU.nil)) [9] (by kernel_rfl) rfl ⟨⟨_, rfl, ?_⟩, trivial⟩
  refine HV.one ?_
  refine H1.lit (cs := [zv idx]) rfl rfl rfl rfl rfl rfl (fun b11 => ?_)
  apply HU.fold
  refine HU.all (kU (kU KeepU.nil)) [10] (by kernel_rfl) rfl ⟨⟨_, rfl, ?_⟩, trivial⟩
  refine HV.one ?_
  refine H1.conv2 (H2 := A.grow 3 1 (some ⟨b10, 0, none⟩) 1 1 [zv idn] :: [A.blk b11 [zv idx] 3, A.blk b9 [zv (lastId N + 1 + pickI21 y0 3), zv (2 + pickI21 (y1.tdiv 4) 4), zv pk, .slice (some ⟨b10, 0, none⟩) 1 1] 39, A.blk b8 (ints [y0, y1, y2, y3]) 63, A.grow 39 4 (some ⟨bn, 0, none⟩) cn i (ndsV z), A.grow 9 1 ad cd i (strs (madeD rows i)), A.all (rowsA z)]) (fun w h => Mm.blkGrow (n := 1) (sz := 1) (h.sub (by repeat (first | exact Hs.nil _ | (refine Hs.cons pickA ?_)))) rfl (by decide)) ?_
  refine H1.app1 (u := zv idx) rfl rfl (fun _ _ => by first | ((repeat (first | with_reducible exact Rpl.here | with_reducible apply Rpl.there)); done) | (repeat (first | exact Rpl.here | apply Rpl.there))) memA rfl rfl (by omega) rfl rfl (fun a' c' => ?_)
  apply HU.fold
  refine HU.pa 11 rfl ?_
  refine HU.all (kU (kU KeepU.nil)) [12] (by kernel_rfl) rfl ⟨⟨_, rfl, ?_⟩, trivial⟩
  refine HV.one ?_
  refine H1.st (b := b9) (i := 3) rfl rfl (by intro _ h; cases h) (by intro _ h; cases h) rplA (by show 3 < 4; decide) ?_
  apply HU.fold
  refine HU.done (KeepU.skip (by kernel_rfl) (KeepU.skip (by kernel_rfl) KeepU.nil)) (by kernel_rfl) ?_
  refine hwNB ?_
  exact HX.cut (some ⟨a', 0, none⟩, c') trivial esA (by repeat (first | exact Hs.nil _ | (refine Hs.cons pickA ?_)))
 rintro ⟨az, cz⟩ -
 dsimp only
 generalize hM0 : mkNd N [y0, y1, y2, y3] = n at hstep hid hlast2 ⊢
 have hzn : ndsZ (z ++ [(n, az, cz)]) = madeL rows (i + 1) := by
  rw [hstep]
  unfold ndsZ at hz ⊢
  rw [List.map_append, hz]; rfl
 have hnv : ndsV z ++ ndC n (.slice az n.src.length cz) = ndsV (z ++ [(n, az, cz)]) := (ndsV_snoc z (n, az, cz)).symm
 have hi3 : i64W (i : Int) := by unfold i64W; omega
 refine hwNB ?_
 refine HL.one (H1.ldAgg (b := b9) (vs := ndC n (.slice az n.src.length cz)) rfl memA rfl (fun i v hv => by rw [Nat.zero_add]; exact hv) rfl ?_)
 refine hwNB ?_
 refine HL.one (H1.lit (cs := ndC n (.slice az n.src.length cz)) rfl rfl rfl rfl rfl rfl (fun b10 => ?_))
 refine hwNB ?_
 refine HL.one (H1.app (sz := 4) (m := 1) (news := ndC n (.slice az n.src.length cz)) rfl (by decide) rfl rfl (fun _ _ => by first | ((repeat (first | with_reducible exact Rpl.here | with_reducible apply Rpl.there)); done) | (repeat (first | exact Rpl.here | apply Rpl.there))) rfl (fun w' hM j u hj => by rw [add_lit, Nat.zero_add]; exact (hM.blk (b := b10) memA).cell hj) (nd_one rfl) (by omega) (by decide) rfl (fun an2 cn2 _ => ?_))
 rw [hnv]
 refine hwNB ?_
 refine HL.one (H1.lit (cs := ints [y2, (i : Int)]) rfl rfl rfl rfl rfl rfl (fun b11 => ?_))
 refine hwNB ?_
 refine HL.one (H1.callx (vs := [_]) rfl rfl (fun w' hM => numbers24_fn (.slice (some ⟨b11, 0, none⟩) 2 2) [y2, (i : Int)] (by show 2 ≤ _; omega) (fun x hx => by
  simp only [List.mem_cons, List.not_mem_nil, or_false] at hx
  rcases hx with rfl | rfl
  ·exact w2
  ·exact hi3) w' (blk_rd (hM.blk (b := b11) memA) rfl)) ?_)
 refine hwNB ?_
 refine HL.one (H1.callx (vs := [_]) rfl rfl (fun w' hM => refSum_fn (rnsB [y2, (i : Int)]) (by have := rnsB_size [y2, (i : Int)]; simp only [List.length_cons, List.length_nil] at this; omega) w') ?_)
 refine hwNB ?_
 refine HL.one (H1.lit (cs := [.string (sumS (rnsB [y2, (i : Int)]))]) rfl rfl rfl rfl rfl rfl (fun b12 => ?_))
 refine hwNB ?_
 refine HL.one (H1.app1 (u := .string (sumS (rnsB [y2, (i : Int)]))) rfl rfl (fun _ _ => by first | ((repeat (first | with_reducible exact Rpl.here | with_reducible apply Rpl.there)); done) | (repeat (first | exact Rpl.here | apply Rpl.there))) memA rfl rfl (by omega) rfl rfl (fun ad2 cd2 => ?_))
 rw [hdst]
 refine hwNB ?_
 refine HX.conv (H2 := A.all (rowsA (z ++ [(n, az, cz)])) :: [A.grow 39 4 an2 cn2 (i + 1) (ndsV (z ++ [(n, az, cz)])), A.grow 9 1 (some ⟨ad2, 0, none⟩) cd2 (i + 1) (strs (madeD rows (i + 1)))]) (fun w h => by
  rw [rowsA_snoc]
  exact Mm.allAdd (h.sub (Hs.cons (a := A.grow 3 1 az cz n.src.length (ints n.src)) pickA (Hs.cons (a := A.all (rowsA z)) pickA (by repeat (first | exact Hs.nil _ | (refine Hs.cons pickA ?_))))))) ?_
 exact HX.again (i + 1, z ++ [(n, az, cz)], (an2, cn2), some ⟨ad2, 0, none⟩, cd2) ⟨hlt, h20, hzn⟩ (by show 20 - (i + 1) < 20 - i; omega) (by dsimp only; rw [hlast2]; repeat (first | exact trivial | refine ⟨rfl, ?_⟩)) (by repeat (first | exact Hs.nil _ | (refine Hs.cons pickA ?_)))
end Go.Sx
/- Chapter 24: equal nodes, equal texts: the walks. -/
namespace Go.Sx
open Go Go.Proofs Go.RowKit
attribute [local irreducible] WC WL WX POp Then Again Fn NX W1 WA WO QL RP RA Yld LoopAt HC HL HX HN H1 HA HO HQ HB HP A.blk A.grow A.rd A.obj A.mp AgainH CutH
attribute [local irreducible] A.mq A.mit A.all sumS
set_option maxHeartbeats 1000000 in
theorem sameNodes_fn {v u : Value} {l m : List Nd} {U V : Nat → Value} (hl : l.length ≤ 400000) (hls : ∀ i, i < l.length → (ndAt l i).src.length ≤ 1000000) (w : World) (hR : RdN w v l U) (hS : RdN w u m V) :
  Fn Tryz.prog 10 #[v, u] w fun u w' => u = .bool (eqNs l m) ∧ Ext w w' := by
 obtain ⟨a, c, rfl, hc, -⟩ := id hR.shape
 obtain ⟨a2, c2, rfl, hc2, -⟩ := id hS.shape
 refine enterH (l := [_, _]) rfl Tryz.ntmps10 rfl ?_
 by_cases hlen : l.length = m.length
 rotate_left
 ·have hlen' : ¬ (l.length : Int) = (m.length : Int) := by omega
  have hno : eqNs l m = false := by rw [← Bool.not_eq_true, eqNs_iff]; intro e; exact hlen (by rw [e])
  refine hwNB ?_
  exact HX.ret1 rfl rfl fun w' hM => ⟨by rw [hno], hM.ext⟩
 have hlen' : (l.length : Int) = (m.length : Int) := by omega
 refine hwNB ?_
 refine HC.loop (α := Nat) (fun k => [(0, .slice a l.length c), (1, .slice a2 m.length c2), (5, zv (k : Int))]) (fun _ => []) (fun k => k ≤ l.length ∧ l.take k = m.take k) (fun k => l.length - k) 0 ⟨Nat.zero_le _, rfl⟩ esA (Hs.refl _) ?_
 rintro k ⟨hk, hI⟩
 by_cases hlt : k < l.length
 rotate_left
 ·have hn : ¬ ((k : Nat) : Int) < (l.length : Int) := by omega
  have he : l = m := by
   rw [List.take_of_length_le (by omega), List.take_of_length_le (by omega)] at hI
   exact hI
  refine hwNB ?_
  exact HX.ret1 rfl rfl fun w' hM => ⟨by rw [eqNs_iff.2 he], hM.ext⟩
 have hn : ((k : Nat) : Int) < (l.length : Int) := by omega
 have hlt2 : k < m.length := by omega
 obtain ⟨b, off, rfl, hb⟩ := hR.cell hlt
 obtain ⟨b2, off2, rfl, hb2⟩ := hS.cell hlt2
 have hx := hb k hlt
 have hy := hb2 k hlt2
 have hsx := hR.src k hlt
 have hsy := hS.src k hlt2
 have hlx := hls k hlt
 have hst := eqNs_take hlt hlt2 hI
 clear hb hb2
 generalize ndAt l k = n1 at hx hsx hlx hst
 generalize ndAt m k = n2 at hy hsy hst
 generalize U k = u1 at hx hsx
 generalize V k = u2 at hy hsy
 have x0 := hx 0 (zv n1.id) rfl
 have x1 := hx 1 (zv n1.kind) rfl
 have x2 := hx 2 (zv n1.pack) rfl
 have x3 := hx 3 u1 rfl
 have y0 := hy 0 (zv n2.id) rfl
 have y1 := hy 1 (zv n2.kind) rfl
 have y2 := hy 2 (zv n2.pack) rfl
 have y3 := hy 3 u2 rfl
 refine hwNB ?_
 refine HC.quietS [(some 18, [0], []), (some 19, [5], []), (some 20, [18, 19], [0, 1]), (some 21, [20], [2]), (some 22, [21], [3]), (some 23, [1], []), (some 24, [5], []), (some 25, [23, 24], [5, 6]), (some 26, [25], [7]), (some 27, [26], [8]), (some 28, [22, 27], [4, 9]), (some 6, [28], [10, 10, 0, 1, 2, 3, 4, 5, 6, 7, 8, 9, 10])] (by kernel_rfl) (by kernel_rfl) (by kernel_rfl) ?_
 refine qwA ?_
 refine HQ.ld rfl (fun w' hM => cell_ext hM.ext x3) rfl ?_
 refine qwA ?_
 refine HQ.ld rfl (fun w' hM => cell_ext hM.ext y3) rfl ?_
 refine qwA ?_
 refine HQ.call (vs := [_, _]) rfl rfl (fun w' hM => SameInts_fn _ _ n1.src n2.src w' (hsx.ext hM.ext) (hsy.ext hM.ext) hlx) ?_
 refine qwA ?_
 refine HQ.nil ?_
 refine hwNB ?_
 refine HC.quietS [(some 29, [0], []), (some 30, [5], []), (some 31, [29, 30], [0, 1]), (some 32, [31], [2]), (some 33, [32], [3]), (some 34, [1], []), (some 35, [5], []), (some 36, [34, 35], [5, 6]), (some 37, [36], [7]), (some 38, [37], [8]), (some 39, [33, 38], [4, 9]), (some 40, [39], [10]), (some 41, [0, 40], [11]), (some 42, [5, 40], [11]), (some 43, [41, 42, 40], [12, 13, 11]), (some 44, [43, 40], [14, 11]), (some 45, [44, 40], [15, 11]), (some 46, [1, 40], [11]), (some 47, [5, 40], [11]), (some 48, [46, 47, 40], [17, 18, 11]), (some 49, [48, 40], [19, 11]), (some 50, [49, 40], [20, 11]), (some 51, [45, 50, 40], [16, 21, 11]), (some 52, [40, 51], [11, 22]), (some 53, [52], [23, 11]), (some 54, [0, 53], [24]), (some 55, [5, 53], [24]), (some 56, [54, 55, 53], [25, 26, 24]), (some 57, [56, 53], [27, 24]), (some 58, [57, 53], [28, 24]), (some 59, [1, 53], [24]), (some 60, [5, 53], [24]), (some 61, [59, 60, 53], [30, 31, 24]), (some 62, [61, 53], [32, 24]), (some 63, [62, 53], [33, 24]), (some 64, [58, 63, 53], [29, 34, 24]), (some 65, [53, 64], [24, 35]), (some 66, [65], [36, 24]), (some 67, [6, 66], [37]), (some 68, [67, 66], [38, 37]), (some 69, [66, 68], [37, 39])] (by kernel_rfl) (by kernel_rfl) (by kernel_rfl) ?_
 refine qwA ?_
 refine HQ.ld rfl (fun w' hM => cell_ext hM.ext x0) rfl ?_
 refine qwA ?_
 refine HQ.ld rfl (fun w' hM => cell_ext hM.ext y0) rfl ?_
 by_cases e0 : n1.id = n2.id
 rotate_left
 ·have e' : (decide ¬ n1.id = n2.id) = true := by simp [e0]
  refine qwA ?_
  refine HQ.nil ?_
  refine hwNB ?_
  exact HX.ret1 rfl rfl fun w' hM => ⟨by rw [hst.2 (by unfold eqNd; simp [e0])], hM.ext⟩
 have f0 : (decide ¬ n1.id = n2.id) = false := by simp [e0]
 refine qwA ?_
 refine HQ.ld rfl (fun w' hM => cell_ext hM.ext x1) rfl ?_
 refine qwA ?_
 refine HQ.ld rfl (fun w' hM => cell_ext hM.ext y1) rfl ?_
 by_cases e1 : n1.kind = n2.kind
 rotate_left
 ·have e' : (decide ¬ n1.kind = n2.kind) = true := by simp [e1]
  refine qwA ?_
  refine HQ.nil ?_
  refine hwNB ?_
  exact HX.ret1 rfl rfl fun w' hM => ⟨by rw [hst.2 (by unfold eqNd; simp [e1])], hM.ext⟩
 have f1 : (decide ¬ n1.kind = n2.kind) = false := by simp [e1]
 refine qwA ?_
 refine HQ.ld rfl (fun w' hM => cell_ext hM.ext x2) rfl ?_
 refine qwA ?_
 refine HQ.ld rfl (fun w' hM => cell_ext hM.ext y2) rfl ?_
 by_cases e2 : n1.pack = n2.pack
 rotate_left
 ·have e' : (decide ¬ n1.pack = n2.pack) = true := by simp [e2]
  refine qwA ?_
  refine HQ.nil ?_
  refine hwNB ?_
  exact HX.ret1 rfl rfl fun w' hM => ⟨by rw [hst.2 (by unfold eqNd; simp [e2])], hM.ext⟩
 have f2 : (decide ¬ n1.pack = n2.pack) = false := by simp [e2]
 by_cases e3 : n1.src = n2.src
 ·rw [decide_eq_true e3]
  refine qwA ?_
  refine HQ.nil ?_
  refine hwNB ?_
  exact HX.again (k + 1) ⟨hlt, hst.1 (by unfold eqNd; simp [e0, e1, e2, e3])⟩ (by show l.length - (k + 1) < l.length - k; omega) esA (Hs.refl _)
 ·rw [decide_eq_false e3]
  refine qwA ?_
  refine HQ.nil ?_
  refine hwNB ?_
  exact HX.ret1 rfl rfl fun w' hM => ⟨by rw [hst.2 (by unfold eqNd; simp [e3])], hM.ext⟩
end Go.Sx
/- TopLawful: what its walk needs beside the functions. -/
namespace Go.Sx
open Go Go.Proofs Go.RowKit
theorem H1.appRecT {P : Program} {r : Option Nat} {N : Nat} {ds : List Deferred} {Q : Post} {E : Env} {w0 : World} {H : List Atom} {next : Act → World → Prop} {g : Option (Nat × Bool)}
  {d : Nat} {t ty : TypeId} {pos : String} {af : Array Edge} {x y : Operand}
  {e : TypeId} {z : Value} {bb c c2 : Nat} {a ao : Option Addr} {l m : List Rc} {H' : Option Addr → Nat → List Atom} [h : UTy P t (.slice e)] [hi : ITy P e z 15 bb] (hzs : z.cells.size = 15)
  (hx : Env.ev E x = some (.slice a l.length c)) (hy : Env.ev E y = some (.slice ao m.length c2)) (hr : ∀ a' c', Rpl (A.grow e 15 a c l.length (rcl l)) (A.grow e 15 a' c' (l ++ m).length (rcl (l ++ m))) H (H' a' c'))
  (hR : ∀ w, Mm w0 H w → RdR w (.slice ao m.length c2) m) (hnm : l.length + m.length ≤ 1000000) (hb : bb ≤ 1000) (hd : Nat.blt d N = true)
  (hn : ∀ a' c', HN N ds next ((d, .slice a' (l ++ m).length c') :: E) w0 (H' a' c')) :
  H1 P r N ds next ⟨some d, .call ⟨.builtin .append, #[x, y], #[t, t]⟩, ty, pos, af, g⟩ Q E w0 H := by
 have hr' : ∀ a' c', Rpl (A.grow e 15 a c l.length (rcl l)) (A.grow e 15 a' c' (l.length + m.length) (rcl l ++ rcl m)) H (H' a' c') := fun a' c' => by
  have := hr a' c'
  rwa [List.length_append, rcl_app] at this
 have hn' : ∀ a' c', HN N ds next ((d, .slice a' (l.length + m.length) c') :: E) w0 (H' a' c') := fun a' c' => by
  have := hn a' c'
  rwa [List.length_append] at this
 cases ao with
 | some ad =>
  refine H1.app hzs (by decide) hx hy hr' (rcl_len m) (fun w hM => ?_) (rcl_one m) hnm hb hd (fun a' c' _ => hn' a' c')
  intro j u hu
  obtain ⟨a', c', h2, h3, h4⟩ := hR w hM
  cases h2
  rcases h4 with rfl | ⟨b, off, h5, h6, h7⟩
  ·simp [rcl] at hu
  ·cases h5
   rw [add_lit]
   have hj : j < m.length * 15 := by have := (List.getElem?_eq_some_iff.1 hu).1; rwa [rcl_len] at this
   have hq : j / 15 < m.length := by omega
   have hm15 : j % 15 < 15 := Nat.mod_lt _ (by decide)
   have h8 : (rcells m[j / 15])[j % 15]? = some (rcells m[j / 15])[j % 15] := List.getElem?_eq_getElem (by rw [rcells_len]; exact hm15)
   have h9 := rcl_get (List.getElem?_eq_getElem hq) (j % 15) _ h8
   rw [show j / 15 * 15 + j % 15 = j by omega, hu] at h9
   have h10 := h7 (j / 15) _ (List.getElem?_eq_getElem hq) (j % 15) _ h8
   rw [show off + j / 15 * 15 + j % 15 = off + j by omega] at h10
   rw [h10, ← Option.some.inj h9]
 | none =>
  intro w hM
  obtain ⟨a', c', h2, h3, h4⟩ := hR w hM
  cases h2
  have e0 : m = [] := by
   rcases h4 with h4 | ⟨b, off, h5, -⟩
   ·exact h4
   ·cases h5
  subst e0
  obtain ⟨i, hi1, hi2, hi3, hi4⟩ := hi.parts
  have hsame : H = H' a c := Rpl.same (x := A.grow e 15 a c l.length (rcl l)) (by have := hr a c; simpa using this)
  have hown := hM.own (hr a c).mem
  refine W1.run (v := .slice a l.length c) (w' := w) (fun ac ha => ?_) rfl hd (by have := hn a c w (hsame ▸ hM); rwa [List.append_nil] at this)
  have hrun := run_append_none (P := P) 0 t ty e i 15 h.is hi1 (.slice a l.length c) l.length c2 (rcl l) hown
  simp only [List.length_nil] at hy
  simp only [execOp, resolve, invoke, Go.builtin, Sem.run_bind, Sem.run_pure, Result.andThen, List.map_toArray, List.map_cons, List.map_nil, ha.ev hx, ha.ev hy, hrun]
theorem RcOk.of_validT {r : Rc} (h : ValidR r) : RcOk r := by
 have hg : ∀ i, i < 10 → i64W (r.get i) := fun i hi => by
  by_cases hm : i ∈ (specF r.kind).map Prod.fst
  ·obtain ⟨p, hp, rfl⟩ := List.mem_map.1 hm
   have h1 := h.lim p hp
   have h2 := spec_hi hp
   have h3 := (spec_lo hp).1
   unfold i64W; omega
  ·rw [h.zero i hi hm]; unfold i64W; omega
 have h1 := h.kind
 have h2 := h.ver
 have h3 := h.day
 have h4 := h.text
 exact ⟨by unfold i64W; omega, hg 0 (by decide), by unfold i64W; omega, by unfold i64W; omega, hg 1 (by decide), hg 2 (by decide), hg 3 (by decide), hg 4 (by decide), hg 5 (by decide), hg 6 (by decide), hg 7 (by decide), hg 9 (by decide), by simp only [maxLen]; omega⟩
theorem ok_sizesT {l : List Nd} {D : List ByteArray} (h : okS l D = true) : l.length ≤ 400000 ∧ (∀ i, i < l.length → (ndAt l i).src.length ≤ 1000000) ∧ D.length ≤ 1000000 ∧ ∀ d ∈ D, d.size ≤ 1000 := by
 have hv := okS_valid h
 have hf := okS_facts h
 have := hv.len
 exact ⟨by omega, fun i hi => by have := (hasN_iff.1 (hv.node i hi)).len; omega, by omega, fun d hd => by rw [hf.2.2 d hd]; decide⟩
theorem made_okT (rows : List (List Int)) : okS (madeL rows (madeN rows)) (madeD rows (madeN rows)) = true :=
 okS_of (madeL_ok rows (madeN rows) (by unfold madeN; omega)).valid (by rw [madeL_len, madeD_len]) (madeD_size rows _)
theorem take_snocT {L : List Rc} {j : Nat} {x : Rc} (hx : L[j]? = some x) : L.take (j + 1) = L.take j ++ [x] := by rw [List.take_add_one, hx]; rfl
theorem POp.beqT4 {P : Program} {N : Nat} {ds : List Deferred} {E : Env} {t t' ty : TypeId} {x y : Operand} {b c : Bool} [UTy P t .bool] (hx : Env.ev E x = some (.bool b)) (hy : Env.ev E y = some (.bool c)) (h : b = c) : POp P N ds E (.binOp .eql t x y t') ty (.bool true) := by
 subst h
 have e : (b == b) = true := by cases b <;> rfl
 rw [← e]; exact POp.beql hx hy
theorem POp.bneF4 {P : Program} {N : Nat} {ds : List Deferred} {E : Env} {t t' ty : TypeId} {x y : Operand} {b c : Bool} [h : UTy P t .bool] (hx : Env.ev E x = some (.bool b)) (hy : Env.ev E y = some (.bool c)) (e : b = c) :
  POp P N ds E (.binOp .neq t x y t') ty (.bool false) := (POp.bneq hx hy).of (by subst e; cases b <;> rfl)
theorem POp.geqY {P : Program} {N : Nat} {ds : List Deferred} {E : Env} {t t' ty : TypeId} {x y : Operand} {k : IntKind} {m n : Int} (hx : Env.ev E x = some (.int k m)) (hy : Env.ev E y = some (.int k n)) (h : n ≤ m) : POp P N ds E (.binOp .geq t x y t') ty (.bool true) := by
 rw [← decide_eq_true h]; exact POp.geq hx hy
theorem POp.geqN {P : Program} {N : Nat} {ds : List Deferred} {E : Env} {t t' ty : TypeId} {x y : Operand} {k : IntKind} {m n : Int} (hx : Env.ev E x = some (.int k m)) (hy : Env.ev E y = some (.int k n)) (h : ¬ n ≤ m) : POp P N ds E (.binOp .geq t x y t') ty (.bool false) := by
 rw [← decide_eq_false h]; exact POp.geq hx hy
theorem filtT_yes {f : Rc → Bool} {l : List Rc} {i : Nat} {r : Rc} (hr : l[i]? = some r) (h : f r = true) : (l.take (i + 1)).filter f = (l.take i).filter f ++ [r] := by
 rw [take_snocT hr, List.filter_append, List.filter_cons, if_pos h, List.filter_nil]
theorem filtT_no {f : Rc → Bool} {l : List Rc} {i : Nat} {r : Rc} (hr : l[i]? = some r) (h : f r = false) : (l.take (i + 1)).filter f = (l.take i).filter f := by
 rw [take_snocT hr, List.filter_append, List.filter_cons, if_neg (by rw [h]; decide), List.filter_nil, List.append_nil]
theorem filtT_len {f : Rc → Bool} {l : List Rc} {i : Nat} : ((l.take i).filter f).length ≤ l.length :=
 Nat.le_trans (List.length_filter_le _ _) (by rw [List.length_take]; omega)
def keepT (r : Rc) : Bool := decide (¬ r.kind = 5) && decide (¬ r.kind = 6) && decide (¬ r.kind = 8)
theorem keepT_iff {r : Rc} : keepT r = true ↔ ¬ r.kind = 5 ∧ ¬ r.kind = 6 ∧ ¬ r.kind = 8 := by
 unfold keepT
 simp only [Bool.and_eq_true, decide_eq_true_eq, and_assoc]
def topL (l : List Rc) (pk fr un rl : Int) : List Rc := l.filter keepT ++ [topO pk fr, topH pk un, topRl rl]
theorem topL_valid {l : List Rc} {pk fr un rl : Int} (hl : ∀ r ∈ l, ValidR r) (h1 : 1 ≤ pk ∧ pk ≤ 10) (h2 : 0 ≤ fr ∧ fr ≤ 100) (h3 : 0 ≤ un ∧ un ≤ 100) (h4 : 0 ≤ rl ∧ rl ≤ 100) : ∀ r ∈ topL l pk fr un rl, ValidR r := by
 intro r hr
 unfold topL at hr
 rcases List.mem_append.1 hr with hr | hr
 ·exact hl r (List.mem_filter.1 hr).1
 ·simp only [List.mem_cons, List.not_mem_nil, or_false] at hr
  rcases hr with rfl | rfl | rfl
  ·exact topO_valid h1.1 h1.2 h2.1 h2.2
  ·exact topH_valid h1.1 h1.2 h3.1 h3.2
  ·exact topRl_valid h4.1 h4.2
theorem topL_base {l : List Rc} {pk fr un rl : Int} {B : Nat → List Rc} (h1 : 1 ≤ pk ∧ pk ≤ 10) (h2 : 0 ≤ fr ∧ fr ≤ 100) (h3 : 0 ≤ un ∧ un ≤ 100) (h4 : 0 ≤ rl ∧ rl ≤ 100) (hB : ∀ i : Nat, i < 8 → IsOf (topL l pk fr un rl) 100000 ((i : Int) + 1) (B i)) :
  B 7 = [topO pk fr] ∧ B 4 = [topH pk un] ∧ B 5 = [topRl rl] := by
 have hmem : ∀ s ∈ topL l pk fr un rl, keepT s = true ∨ s = topO pk fr ∨ s = topH pk un ∨ s = topRl rl := by
  intro s hs
  unfold topL at hs
  rcases List.mem_append.1 hs with hs | hs
  ·exact .inl (List.mem_filter.1 hs).2
  ·simp only [List.mem_cons, List.not_mem_nil, or_false] at hs
   exact .inr hs
 refine ⟨?_, ?_, ?_⟩
 ·refine of_single (hB 7 (by decide)) (r := topO pk fr) rfl (topO_valid h1.1 h1.2 h2.1 h2.2) (show (0 : Int) ≤ 100000 by decide) rfl (List.mem_append_right _ (.head _)) fun s hs hk => ?_
  have hk8 : s.kind = 8 := hk
  rcases hmem s hs with h | rfl | rfl | rfl
  ·exact absurd hk8 (keepT_iff.1 h).2.2
  ·rfl
  ·exact absurd hk8 (show ¬ (5 : Int) = 8 by decide)
  ·exact absurd hk8 (show ¬ (6 : Int) = 8 by decide)
 ·refine of_single (hB 4 (by decide)) (r := topH pk un) rfl (topH_valid h1.1 h1.2 h3.1 h3.2) (show (0 : Int) ≤ 100000 by decide) rfl (List.mem_append_right _ (.tail _ (.head _))) fun s hs hk => ?_
  have hk5 : s.kind = 5 := hk
  rcases hmem s hs with h | rfl | rfl | rfl
  ·exact absurd hk5 (keepT_iff.1 h).1
  ·exact absurd hk5 (show ¬ (8 : Int) = 5 by decide)
  ·rfl
  ·exact absurd hk5 (show ¬ (6 : Int) = 5 by decide)
 ·refine of_single (hB 5 (by decide)) (r := topRl rl) rfl (topRl_valid h4.1 h4.2) (show (0 : Int) ≤ 100000 by decide) rfl (List.mem_append_right _ (.tail _ (.tail _ (.head _)))) fun s hs hk => ?_
  have hk6 : s.kind = 6 := hk
  rcases hmem s hs with h | rfl | rfl | rfl
  ·exact absurd hk6 (keepT_iff.1 h).2.1
  ·exact absurd hk6 (show ¬ (8 : Int) = 6 by decide)
  ·exact absurd hk6 (show ¬ (5 : Int) = 6 by decide)
  ·rfl
theorem lit3T (r0 r1 r2 : Rc) : litC (fun i => some (i * 15, 15)) (zeroRow (3 * 15) (rcells rcZ)) [(0, recV r0), (1, recV r1), (2, recV r2)] = some (rcl [r0, r1, r2]) := by kernel_rfl
theorem rowSlot_one {q : Nat → Slot} : ∀ v ∈ row 8 fun i => slot (q i), v.oneCell' = true := by
 intro v hv
 unfold row at hv
 obtain ⟨i, -, rfl⟩ := List.mem_map.1 hv
 rfl
/- the two layers -/
section
variable {P : Program} {r : Option Nat} {N : Nat} {ds : List Deferred} {Q : Post} {E : Env} {w0 : World} {H : List Atom} {c : Code} {e : Exit}
theorem HC.ofW (h : ∀ w, Mm w0 H w → WC P r N ds c Q E w) : HC P r N ds c Q E w0 H := h
theorem WC.ofH {w : World} (h : HC P r N ds c Q E w []) : WC P r N ds c Q E w := h w (Mm.refl w)
theorem HX.ofW (h : ∀ w, Mm w0 H w → WX N ds e Q E w) : HX N ds e Q E w0 H := h
end
attribute [local irreducible] WC WL WX POp Then Again Fn NX W1 WA WO QL RP RA Yld LoopAt HC HL HX HN H1 HA HO HQ HB HP A.blk A.grow A.rd A.obj A.mp AgainH CutH
theorem tpick_fn (c n : Int) (h1 : -9223372036854775808 ≤ c) (h2 : c ≤ 9223372036854775807) (hn : 0 < n) (w : World) : Fn Tryz.prog 6 #[.int .i64 c, .int .i64 n] w fun v w' => v = .int .i64 (pickI21 c n) ∧ w = w' := by
 refine enter (l := [_, _]) rfl Tryz.ntmps6 rfl ?_
 by_cases h : c < 0
 ·repeat' (first | apply WL.fold | apply WA.fold | apply WL.nil | apply WX.n_then | apply WC.seq | apply WC.region | refine WL.pa ?_ | refine WL.ga rfl ?_ | refine WL.na rfl ?_ | refine WL.nu rfl rfl ?_ | apply WC.block | apply WC.skip | apply WC.exit | apply WC.ret | apply WX.e_block | refine WX.e_other rfl ?_ | apply WX.e_then | apply WX.e_again | apply WX.n_block | apply WX.r_then | apply WX.r_block | apply WX.r_again | refine WC.cond_yes rfl ?_ | refine WC.cond_no rfl ?_ | refine WC.cond rfl (fun hc => ?_) (fun hc => ?_) | refine WC.cond_b rfl (fun hc => ?_) (fun hc => ?_))
  exact WX.ret1 rfl rfl ⟨by rw [pickI21, if_pos h], rfl⟩
 ·repeat' (first | apply WL.fold | apply WA.fold | apply WL.nil | apply WX.n_then | apply WC.seq | apply WC.region | refine WL.pa ?_ | refine WL.ga rfl ?_ | refine WL.na rfl ?_ | refine WL.nu rfl rfl ?_ | apply WC.block | apply WC.skip | apply WC.exit | apply WC.ret | apply WX.e_block | refine WX.e_other rfl ?_ | apply WX.e_then | apply WX.e_again | apply WX.n_block | apply WX.r_then | apply WX.r_block | apply WX.r_again | refine WC.cond_yes rfl ?_ | refine WC.cond_no rfl ?_ | refine WC.cond rfl (fun hc => ?_) (fun hc => ?_) | refine WC.cond_b rfl (fun hc => ?_) (fun hc => ?_))
  exact WX.ret1 rfl rfl ⟨by rw [pickI21, if_neg h], rfl⟩
end Go.Sx
