/- Plain, chapters 1 and 26: what is read back is what would be written; and the reference's numbers and strings: the walks. -/
import Derived.Test.YtlihcenahjgnmaaGreatDoorJB
namespace Go.Sx
open Go
theorem hwKQ {G G2 : Prop} (x : G2) (hwq : Hold G2 → G := by
    intro hQq
    repeat' (first | refine HL.pa ?_ (POp.nilCheck rfl) | apply HL.fold | apply HA.fold | apply HL.nil | apply HX.n_then | apply HC.seq | apply HC.region | refine HL.pa ?_ | refine HL.ga rfl ?_ | refine HL.na rfl ?_ | refine HL.nu rfl rfl ?_ | apply HC.block | apply HC.skip | apply HC.exit | apply HC.ret | apply HX.e_block | refine HX.e_other rfl ?_ | apply HX.e_then | apply HX.e_again | apply HX.n_block | apply HX.r_then | apply HX.r_block | apply HX.r_again | refine HC.cond_yes rfl ?_ | refine HC.cond_no rfl ?_ | refine HL.one (H1.ldb rfl memA rfl rfl ?_) | refine HC.cond rfl (fun hc => ?_) (fun hc => ?_) | refine HC.cond_b rfl (fun hc => ?_) (fun hc => ?_))
    exact hQq.get) : G := hwq ⟨x⟩
theorem hnKQ {G G2 : Prop} (x : G2) (hwq : Hold G2 → G := by
    intro hQq
    repeat' (first | refine HL.pa ?_ (POp.nilCheck rfl) | apply HL.fold | apply HA.fold | apply HL.nil | apply HX.n_then | apply HC.seq | apply HC.region | refine HL.pa ?_ | refine HL.ga rfl ?_ | refine HL.na rfl ?_ | refine HL.nu rfl rfl ?_ | apply HC.block | apply HC.skip | apply HC.exit | apply HC.ret | apply HX.e_block | refine HX.e_other rfl ?_ | apply HX.e_then | apply HX.e_again | apply HX.n_block | apply HX.r_then | apply HX.r_block | apply HX.r_again | refine HC.cond_yes rfl ?_ | refine HC.cond_no rfl ?_ | refine HL.one (H1.ldb rfl memA rfl rfl ?_))
    exact hQq.get) : G := hwq ⟨x⟩
/-- The bytes that were read, each of them with another one behind it. -/
def Pre (s : List UInt8) (p i z : Nat) : Prop := z < 2 ^ (7 * i) ∧ p + i ≤ s.length ∧ ∀ v, 1 ≤ v → vint (z + v * 2 ^ (7 * i)) = (s.drop p).take i ++ vint v
theorem pre0 {s : List UInt8} {p : Nat} (h : p ≤ s.length) : Pre s p 0 0 := ⟨by decide, h, fun v _ => by simp⟩
theorem take_drop_snoc {s : List UInt8} {p i : Nat} (h : p + i < s.length) : (s.drop p).take (i + 1) = (s.drop p).take i ++ [s.getD (p + i) 0] := by
  rw [List.take_add_one, List.getElem?_drop, List.getElem?_eq_getElem h]
  simp [h]
theorem pow7 (i : Nat) : 2 ^ (7 * (i + 1)) = 128 * 2 ^ (7 * i) := by rw [Nat.mul_add, Nat.pow_add, Nat.mul_comm]
theorem Pre.next {s : List UInt8} {p i z : Nat} (h : Pre s p i z) (hp : p + i < s.length) (hb : 128 ≤ (s.getD (p + i) 0).toNat) : Pre s p (i + 1) (z + (s.getD (p + i) 0).toNat % 128 * 2 ^ (7 * i)) := by
  obtain ⟨h1, h2, h3⟩ := h
  obtain ⟨b, hbd⟩ : ∃ b, b = (s.getD (p + i) 0).toNat := ⟨_, rfl⟩
  have hbl : b < 256 := by rw [hbd]; exact UInt8.toNat_lt _
  rw [← hbd] at hb ⊢
  have hpw := pow7 i
  have hmul : b % 128 * 2 ^ (7 * i) ≤ 127 * 2 ^ (7 * i) := Nat.mul_le_mul_right _ (by omega)
  refine ⟨by omega, by omega, fun v hv => ?_⟩
  have e : z + b % 128 * 2 ^ (7 * i) + v * 2 ^ (7 * (i + 1)) = z + (b % 128 + 128 * v) * 2 ^ (7 * i) := by
    rw [hpw, Nat.add_mul, ← Nat.mul_assoc, Nat.mul_comm v 128, Nat.add_assoc]
  rw [e, h3 _ (by omega), vint_ge (by omega), take_drop_snoc hp, List.append_assoc]
  congr 1
  have e1 : (b % 128 + 128 * v) % 128 + 128 = b := by omega
  have e2 : (b % 128 + 128 * v) / 128 = v := by omega
  rw [e1, e2]
  show UInt8.ofNat b :: vint v = s.getD (p + i) 0 :: vint v
  congr 1
  rw [hbd]; simp
theorem Pre.last {s : List UInt8} {p i z : Nat} (h : Pre s p i z) (hp : p + i < s.length) (hb : ¬ 128 ≤ (s.getD (p + i) 0).toNat) :
    vint (z + (s.getD (p + i) 0).toNat % 128 * 2 ^ (7 * i)) = (s.drop p).take (i + 1) ↔ ¬ ((s.getD (p + i) 0).toNat = 0 ∧ 0 < i) := by
  obtain ⟨h1, h2, h3⟩ := h
  have hts := take_drop_snoc hp
  obtain ⟨b, hbd⟩ : ∃ b, b = (s.getD (p + i) 0).toNat := ⟨_, rfl⟩
  rw [← hbd] at hb ⊢
  have hof : UInt8.ofNat b = s.getD (p + i) 0 := by rw [hbd]; simp
  have hm : b % 128 = b := Nat.mod_eq_of_lt (by omega)
  rw [hm]
  by_cases hb0 : b = 0
  · rw [hb0, Nat.zero_mul, Nat.add_zero]
    cases i with
    | zero =>
      have hz : z = 0 := by simp at h1; exact h1
      refine ⟨fun _ h => by omega, fun _ => ?_⟩
      rw [hts, hz, vint_lt (by decide), List.take_zero, List.nil_append, ← hof, hb0]
    | succ i =>
      refine ⟨fun e => ?_, fun h => absurd ⟨rfl, Nat.succ_pos _⟩ h⟩
      have h4 := vint_len i z (by rw [show (128 : Nat) = 2 ^ 7 from rfl, ← Nat.pow_mul]; exact h1)
      have h5 := congrArg List.length e
      rw [List.length_take, List.length_drop] at h5
      omega
  · refine ⟨fun _ h => hb0 h.1, fun _ => ?_⟩
    rw [h3 b (by omega), hts, vint_lt (by omega), hof]
/-- What is read back is what would be written. -/
theorem decG_canon {s : List UInt8} {p : Nat} : ∀ (k i z : Nat), 9 - i ≤ k → Pre s p i z → ∀ {x : Nat × Nat}, decG s p i z = some x → vint x.1 = (s.drop p).take (x.2 - p) ∧ x.2 ≤ s.length
  | 0, i, z, hk, _, x, h => by
    rw [decG, dif_neg (by omega)] at h; cases h
  | k + 1, i, z, hk, hpre, x, h => by
    by_cases hi : i < 9
    · by_cases hp : p + i < s.length
      · by_cases hb : 128 ≤ (s.getD (p + i) 0).toNat
        · rw [decG_on hi hp hb] at h
          exact decG_canon k (i + 1) _ (by omega) (hpre.next hp hb) h
        · by_cases hn : ((s.getD (p + i) 0).toNat = 0 ∧ 0 < i) ∨ unz (z + (s.getD (p + i) 0).toNat % 128 * 2 ^ (7 * i)) < -4611686018427387903
          · rw [decG_no hi hp hb hn] at h; cases h
          · rw [decG_yes hi hp hb hn] at h
            cases h
            have hl := (hpre.last hp hb).2 fun h => hn (.inl h)
            refine ⟨?_, hp⟩
            show vint _ = (s.drop p).take (p + i + 1 - p)
            rw [show p + i + 1 - p = i + 1 from by omega]
            exact hl
      · rw [decG_end hp] at h; cases h
    · rw [decG, dif_neg hi] at h; cases h
theorem unz_ev {z : Nat} (h : 0 ≤ unz z) : z = 2 * (unz z).toNat := by
  unfold unz at h ⊢
  by_cases h2 : z % 2 = 0
  · rw [if_pos h2] at h ⊢; omega
  · rw [if_neg h2] at h; omega
theorem decS_canon {s : List UInt8} {p : Nat} (hp : p ≤ s.length) {r : List UInt8} {q : Nat} (h : decS s p = some (r, q)) : (s.drop p).take (q - p) = putN r.length ++ r := by
  unfold decS at h
  cases hd : decI s p with
  | none => rw [hd] at h; cases h
  | some x =>
    obtain ⟨z, q0⟩ := x
    rw [hd] at h
    dsimp only at h
    have hq := decG_le 9 0 0 (by omega) hd
    dsimp only at hq
    have hc := decG_canon 9 0 0 (by omega) (pre0 hp) hd
    dsimp only at hc
    split at h
    · cases h
    · rename_i hn
      simp only [Option.some.injEq, Prod.mk.injEq] at h
      obtain ⟨rfl, rfl⟩ := h
      have he := unz_ev (z := z) (by omega)
      have hrl : ((s.drop q0).take (unz z).toNat).length = (unz z).toNat := by
        rw [List.length_take, List.length_drop]; omega
      rw [hrl]
      unfold putN
      rw [← he, hc.1, show q0 + (unz z).toNat - p = (q0 - p) + (unz z).toNat from by omega, List.take_add, List.drop_drop, show p + (q0 - p) = q0 from by omega]
/-- A record is as it was stored exactly if its head is. -/
theorem rec_eq {s : List UInt8} {t : Tp} {r : List UInt8} {q : Nat} (h0 : t.size < s.length) (h1 : s.getD t.size 0 = 1) (hd : decS s (t.size + 1) = some (r, q)) (hq : q + 32 ≤ s.length) :
    outL t.head (mkBA r) = (s.drop t.size).take (q + 32 - t.size) ↔ (s.drop q).take 32 = (chainS t.head (mkBA r)).data.toList := by
  have hle := decS_le hd
  have hc := decS_canon (by omega) hd
  have e : (s.drop t.size).take (q + 32 - t.size) = 1 :: (putN r.length ++ r ++ (s.drop q).take 32) := by
    rw [List.drop_eq_getElem_cons h0, show q + 32 - t.size = (q - (t.size + 1) + 32) + 1 from by omega, List.take_succ_cons, List.take_add, hc, List.drop_drop, show t.size + 1 + (q - (t.size + 1)) = q from by omega]
    rw [List.getD_eq_getElem?_getD, List.getElem?_eq_getElem h0] at h1
    congr 1
  have hs : (mkBA r).size = r.length := by show r.toArray.size = _; rw [List.size_toArray]
  have ho : outL t.head (mkBA r) = 1 :: (putN r.length ++ r ++ (chainS t.head (mkBA r)).data.toList) := by unfold outL; rw [hs]; rfl
  rw [e, ho]
  constructor
  · intro h
    injection h with _ h
    exact (List.append_cancel_left h).symm
  · intro h; rw [h]
theorem unz_hi {z : Nat} (h : z < 9223372036854775808) : unz z ≤ 4611686018427387903 ∧ -4611686018427387904 ≤ unz z := by
  unfold unz; split <;> omega
end Go.Sx
/- Chapter 1: the reference's numbers and strings: the walks. -/
namespace Go.Sx
open Go Go.Proofs Go.RowKit
/-- The reference's numbers, written. -/
def refIntV (z : Nat) : Value := if unz z < -4611686018427387903 then .tuple #[.string (mkBA []), zv 10] else .tuple #[.string (mkBA (vint z)), zv 0]
theorem HX.ret3 {P : Program} {N : Nat} {E : Env} {w0 : World} {H : List Atom} {fn : Func} {t1 t2 t3 : Nat} {v1 v2 v3 : Value} {R : Value → World → Prop} (hr : fn.results = #[.tmp t1, .tmp t2, .tmp t3]) (h1 : Env.g E t1 = some v1) (h2 : Env.g E t2 = some v2) (h3 : Env.g E t3 = some v3) (h : ∀ w, Mm w0 H w → R (.tuple #[v1, v2, v3]) w) :
    HX N [] .ret (bodyPost P fn (RetP R)) E w0 H := fun w hM => WX.ret3 (P := P) hr h1 h2 h3 (h w hM)
attribute [local irreducible] WC WL WX POp Then Again Fn NX W1 WA WO QL RP RA Yld LoopAt HC HL HX HN H1 HA HO HQ HB HP A.blk A.grow A.rd A.obj A.mp AgainH CutH
theorem zigzagZ_fn (z : Nat) (hz : z < 9223372036854775808) (w : World) : Fn Tryz.prog 86 #[zv (unz z)] w fun v w' => v = .int .u64 (z : Int) ∧ w = w' := by
  refine enter (l := [_]) rfl Tryz.ntmps86 rfl ?_
  by_cases h : z % 2 = 0
  · have hu : unz z = ((z / 2 : Nat) : Int) := by unfold unz; rw [if_pos h]
    have h0 : ¬ ((z / 2 : Nat) : Int) < 0 := by omega
    have e : z / 2 * 2 = z := by omega
    rw [hu]
    repeat' (first | apply WL.fold | apply WA.fold | apply WL.nil | apply WX.n_then | apply WC.seq | apply WC.region | refine WL.pa ?_ | refine WL.ga rfl ?_ | refine WL.na rfl ?_ | refine WL.nu rfl rfl ?_ | apply WC.block | apply WC.skip | apply WC.exit | apply WC.ret | apply WX.e_block | refine WX.e_other rfl ?_ | apply WX.e_then | apply WX.e_again | apply WX.n_block | apply WX.r_then | apply WX.r_block | apply WX.r_again | refine WC.cond_yes rfl ?_ | refine WC.cond_no rfl ?_ | refine WC.cond rfl (fun hc => ?_) (fun hc => ?_) | refine WC.cond_b rfl (fun hc => ?_) (fun hc => ?_))
    refine WL.pa ?_ ((POp.conv (k' := .u64) rfl).of (v' := .int .u64 ((z / 2 : Nat) : Int)) (by rw [wrap_u64 (by omega)]))
    repeat' (first | apply WL.fold | apply WA.fold | apply WL.nil | apply WX.n_then | apply WC.seq | apply WC.region | refine WL.pa ?_ | refine WL.ga rfl ?_ | refine WL.na rfl ?_ | refine WL.nu rfl rfl ?_ | apply WC.block | apply WC.skip | apply WC.exit | apply WC.ret | apply WX.e_block | refine WX.e_other rfl ?_ | apply WX.e_then | apply WX.e_again | apply WX.n_block | apply WX.r_then | apply WX.r_block | apply WX.r_again | refine WC.cond_yes rfl ?_ | refine WC.cond_no rfl ?_ | refine WC.cond rfl (fun hc => ?_) (fun hc => ?_) | refine WC.cond_b rfl (fun hc => ?_) (fun hc => ?_))
    refine WL.pa ?_ (POp.mul64 (a := z / 2) (b := 2) rfl rfl (by omega))
    rw [e]
    repeat' (first | apply WL.fold | apply WA.fold | apply WL.nil | apply WX.n_then | apply WC.seq | apply WC.region | refine WL.pa ?_ | refine WL.ga rfl ?_ | refine WL.na rfl ?_ | refine WL.nu rfl rfl ?_ | apply WC.block | apply WC.skip | apply WC.exit | apply WC.ret | apply WX.e_block | refine WX.e_other rfl ?_ | apply WX.e_then | apply WX.e_again | apply WX.n_block | apply WX.r_then | apply WX.r_block | apply WX.r_again | refine WC.cond_yes rfl ?_ | refine WC.cond_no rfl ?_ | refine WC.cond rfl (fun hc => ?_) (fun hc => ?_) | refine WC.cond_b rfl (fun hc => ?_) (fun hc => ?_))
    exact WX.ret1 rfl rfl ⟨rfl, rfl⟩
  · have hu : unz z = -((z / 2 : Nat) : Int) - 1 := by unfold unz; rw [if_neg h]
    obtain ⟨m, hm⟩ : ∃ m, m = z / 2 := ⟨_, rfl⟩
    rw [← hm] at hu
    have h0 : -(m : Int) - 1 < 0 := by omega
    have e1 : -(-(m : Int) - 1) = ((m + 1 : Nat) : Int) := by omega
    have e2 : (m + 1) * 2 - 1 = z := by omega
    rw [hu]
    repeat' (first | apply WL.fold | apply WA.fold | apply WL.nil | apply WX.n_then | apply WC.seq | apply WC.region | refine WL.pa ?_ | refine WL.ga rfl ?_ | refine WL.na rfl ?_ | refine WL.nu rfl rfl ?_ | apply WC.block | apply WC.skip | apply WC.exit | apply WC.ret | apply WX.e_block | refine WX.e_other rfl ?_ | apply WX.e_then | apply WX.e_again | apply WX.n_block | apply WX.r_then | apply WX.r_block | apply WX.r_again | refine WC.cond_yes rfl ?_ | refine WC.cond_no rfl ?_ | refine WC.cond rfl (fun hc => ?_) (fun hc => ?_) | refine WC.cond_b rfl (fun hc => ?_) (fun hc => ?_))
    rw [e1]
    refine WL.pa ?_ ((POp.conv (k' := .u64) rfl).of (v' := .int .u64 ((m + 1 : Nat) : Int)) (by rw [wrap_u64 (by omega)]))
    repeat' (first | apply WL.fold | apply WA.fold | apply WL.nil | apply WX.n_then | apply WC.seq | apply WC.region | refine WL.pa ?_ | refine WL.ga rfl ?_ | refine WL.na rfl ?_ | refine WL.nu rfl rfl ?_ | apply WC.block | apply WC.skip | apply WC.exit | apply WC.ret | apply WX.e_block | refine WX.e_other rfl ?_ | apply WX.e_then | apply WX.e_again | apply WX.n_block | apply WX.r_then | apply WX.r_block | apply WX.r_again | refine WC.cond_yes rfl ?_ | refine WC.cond_no rfl ?_ | refine WC.cond rfl (fun hc => ?_) (fun hc => ?_) | refine WC.cond_b rfl (fun hc => ?_) (fun hc => ?_))
    refine WL.pa ?_ (POp.mul64 (a := m + 1) (b := 2) rfl rfl (by omega))
    repeat' (first | apply WL.fold | apply WA.fold | apply WL.nil | apply WX.n_then | apply WC.seq | apply WC.region | refine WL.pa ?_ | refine WL.ga rfl ?_ | refine WL.na rfl ?_ | refine WL.nu rfl rfl ?_ | apply WC.block | apply WC.skip | apply WC.exit | apply WC.ret | apply WX.e_block | refine WX.e_other rfl ?_ | apply WX.e_then | apply WX.e_again | apply WX.n_block | apply WX.r_then | apply WX.r_block | apply WX.r_again | refine WC.cond_yes rfl ?_ | refine WC.cond_no rfl ?_ | refine WC.cond rfl (fun hc => ?_) (fun hc => ?_) | refine WC.cond_b rfl (fun hc => ?_) (fun hc => ?_))
    refine WL.pa ?_ (POp.sub64 (a := (m + 1) * 2) (b := 1) rfl rfl rfl rfl (by omega) (by omega))
    rw [e2]
    repeat' (first | apply WL.fold | apply WA.fold | apply WL.nil | apply WX.n_then | apply WC.seq | apply WC.region | refine WL.pa ?_ | refine WL.ga rfl ?_ | refine WL.na rfl ?_ | refine WL.nu rfl rfl ?_ | apply WC.block | apply WC.skip | apply WC.exit | apply WC.ret | apply WX.e_block | refine WX.e_other rfl ?_ | apply WX.e_then | apply WX.e_again | apply WX.n_block | apply WX.r_then | apply WX.r_block | apply WX.r_again | refine WC.cond_yes rfl ?_ | refine WC.cond_no rfl ?_ | refine WC.cond rfl (fun hc => ?_) (fun hc => ?_) | refine WC.cond_b rfl (fun hc => ?_) (fun hc => ?_))
    exact WX.ret1 rfl rfl ⟨rfl, rfl⟩
attribute [local irreducible] unz
set_option maxHeartbeats 1000000 in
theorem refPutIntZ_fn (z0 : Nat) (hz0 : z0 < 9223372036854775808) (w : World) : Fn Tryz.prog 56 #[zv (unz z0)] w fun v w' => v = refIntV z0 ∧ Ext w w' := by
  have hub := unz_hi hz0
  refine enterH (l := [_]) rfl Tryz.ntmps56 rfl ?_
  by_cases h1 : unz z0 < -4611686018427387903
  · refine hwKQ ?_
    exact HX.ret2 rfl rfl rfl fun w' hM => ⟨by unfold refIntV; rw [if_pos h1]; rfl, hM.ext⟩
  have h2 : ¬ (4611686018427387903 : Int) < unz z0 := by omega
  have hvl := vint_len 8 z0 (by omega)
  refine hwKQ ?_
  refine HL.one (H1.call0 (vs := [_]) rfl rfl (fun w' hM => zigzagZ_fn z0 hz0 w') ?_)
  refine hwKQ ?_
  refine HC.grow0 5 1 ?_
  refine HC.loop (α := Nat × List UInt8 × Option Addr × Nat) (fun z => [(4, .int .u64 (z.1 : Int)), (5, .slice z.2.2.1 z.2.1.length z.2.2.2)]) (fun z => [A.grow 5 1 z.2.2.1 z.2.2.2 z.2.1.length (ub z.2.1)]) (fun z => z.1 ≤ z0 ∧ z.2.1 ++ vint z.1 = vint z0) (fun z => z.1) (z0, [], none, 0) ⟨Nat.le_refl _, rfl⟩ esA (Hs.refl _) ?_
  rintro ⟨z, ys, a, c⟩ ⟨hz, hv⟩
  dsimp only at hz hv ⊢
  have hlen : ys.length ≤ 9 := by
    have h3 := congrArg List.length hv
    rw [List.length_append] at h3
    omega
  by_cases hlt : z < 128
  · have hge : ¬ (128 : Int) ≤ (z : Int) := by omega
    have hvz := vint_lt hlt
    have hub := ub_snoc ys (g := z) (by omega)
    refine hwKQ ?_
    refine HL.one (H1.lit (cs := [.int .u8 (z : Int)]) rfl rfl rfl rfl rfl rfl (fun b9 => ?_))
    refine hwKQ ?_
    refine HL.one (H1.app1 (u := .int .u8 (z : Int)) rfl rfl (fun _ _ => by first | ((repeat (first | with_reducible exact Rpl.here | with_reducible apply Rpl.there)); done) | (repeat (first | exact Rpl.here | apply Rpl.there))) memA rfl rfl (by omega) rfl rfl (fun a' c' => ?_))
    rw [hub, show ys.length + 1 = (ys ++ [UInt8.ofNat z]).length from by rw [List.length_append]; rfl]
    refine hwKQ ?_
    refine HL.one (H1.bstrg (ys := ys ++ [UInt8.ofNat z]) (c := c') (b := a') rfl memA rfl ?_)
    refine hwKQ ?_
    refine HX.ret2 rfl rfl rfl fun w' hM => ⟨?_, hM.ext⟩
    unfold refIntV
    rw [if_neg h1, ← hvz, hv]; rfl
  · have hge : (128 : Int) ≤ (z : Int) := by omega
    have hvz := vint_ge hlt
    have hub := ub_snoc ys (g := z % 128 + 128) (by omega)
    refine hwKQ ?_
    refine HL.pa ?_ (POp.rem64 (a := z) (b := 128) rfl rfl (by decide))
    refine hwKQ ?_
    refine HL.pa ?_ (POp.add64 (a := z % 128) (b := 128) rfl rfl (by omega))
    refine hwKQ ?_
    refine HL.one (H1.lit (cs := [.int .u8 ((z % 128 + 128 : Nat) : Int)]) rfl rfl rfl rfl rfl rfl (fun b9 => ?_))
    refine hwKQ ?_
    refine HL.one (H1.app1 (u := .int .u8 ((z % 128 + 128 : Nat) : Int)) rfl rfl (fun _ _ => by first | ((repeat (first | with_reducible exact Rpl.here | with_reducible apply Rpl.there)); done) | (repeat (first | exact Rpl.here | apply Rpl.there))) memA rfl rfl (by omega) rfl rfl (fun a' c' => ?_))
    rw [hub, show ys.length + 1 = (ys ++ [UInt8.ofNat (z % 128 + 128)]).length from by rw [List.length_append]; rfl]
    refine hwKQ ?_
    refine HL.pa ?_ (POp.quo64 (a := z) (b := 128) rfl rfl (by omega) (by decide))
    refine hwKQ ?_
    exact HX.again (z / 128, ys ++ [UInt8.ofNat (z % 128 + 128)], some ⟨a', 0, none⟩, c') ⟨by show z / 128 ≤ _; omega, by show (ys ++ _) ++ vint (z / 128) = _; rw [← hv, hvz, List.append_assoc]; rfl⟩ (by show z / 128 < z; omega) esA (Hs.cons (Pick.there Pick.here) (Hs.nil _))
set_option maxHeartbeats 4000000 in
theorem refInt_fn (s : ByteArray) (p : Nat) (hp : p ≤ s.size) (hs : s.size ≤ 5000000) (w : World) : Fn Tryz.prog 97 #[.string s, zv (p : Int)] w fun v w' => v = intV (decI s.data.toList p) ∧ Ext w w' := by
  have hlen : s.data.toList.length = s.size := by rw [Array.length_toList]; rfl
  have hp2 : ¬ (s.size : Int) < (p : Int) := by omega
  refine enterH (l := [_, _]) rfl Tryz.ntmps97 rfl ?_
  refine hwKQ ?_
  refine HC.loop (α := Nat × Nat) (fun x => [(0, .string s), (1, zv (p : Int)), (7, .int .u64 (x.2 : Int)), (8, zv (x.1 : Int))]) (fun _ => [])
    (fun x => x.1 ≤ 9 ∧ Pre s.data.toList p x.1 x.2 ∧ decG s.data.toList p x.1 x.2 = decI s.data.toList p) (fun x => 9 - x.1) (0, 0) ⟨Nat.zero_le _, pre0 (by omega), rfl⟩ esA (Hs.refl _) ?_
  rintro ⟨i, z⟩ ⟨hi, hpre, hd⟩
  dsimp only at hi hpre hd ⊢
  by_cases hlt : i < 9
  · by_cases hin : p + i < s.size
    · have hin' : p + i < s.data.toList.length := by omega
      obtain ⟨b, hb⟩ : ∃ b, b = (s.data.toList.getD (p + i) 0).toNat := ⟨_, rfl⟩
      have hbl : b < 256 := by rw [hb]; exact UInt8.toNat_lt _
      have hsb : sb s (p + i) = b := hb.symm
      have hz := hpre.1
      have hpw : 2 ^ (7 * i) ≤ 2 ^ 56 := Nat.pow_le_pow_right (by decide) (by omega)
      have hmul : b % 128 * 2 ^ (7 * i) ≤ 127 * 2 ^ 56 := Nat.mul_le_mul (by omega) hpw
      have hz3 : z + b % 128 * 2 ^ (7 * i) < 9223372036854775808 := by
        have e := pow7 i
        have h3 : b % 128 * 2 ^ (7 * i) ≤ 127 * 2 ^ (7 * i) := Nat.mul_le_mul_right _ (by omega)
        have h2 : 2 ^ (7 * (i + 1)) ≤ 2 ^ 63 := Nat.pow_le_pow_right (by decide) (by omega)
        omega
      have hsh : (b % 128) <<< (7 * i) = b % 128 * 2 ^ (7 * i) := Nat.shiftLeft_eq _ _
      have hshl : (b % 128) <<< (7 * i) < 18446744073709551616 := by rw [hsh]; omega
      have hnx := hpre.next hin'
      have hla := hpre.last hin'
      have on := decG_on (s := s.data.toList) (p := p) (z := z) hlt hin'
      have no := decG_no (s := s.data.toList) (p := p) (z := z) hlt hin'
      have yes := decG_yes (s := s.data.toList) (p := p) (z := z) hlt hin'
      rw [← hb] at on no yes hnx hla
      have e7 : (7 : Int) * (i : Int) = ((7 * i : Nat) : Int) := by omega
      have epi : (p : Int) + (i : Int) = ((p + i : Nat) : Int) := by omega
      generalize hz' : z + b % 128 * 2 ^ (7 * i) = z' at hz3 on no yes hnx hla
      refine hwKQ ?_
      rw [hsb]
      refine HL.pa ?_ ((POp.conv (k' := .u64) rfl).of (v' := .int .u64 (b : Int)) (by rw [wrap_u64 (by omega)]))
      refine hwKQ ?_
      refine HL.pa ?_ (POp.rem64 (a := b) (b := 128) rfl rfl (by decide))
      refine hwKQ ?_
      refine HL.pa ?_ (POp.shl64 (a := b % 128) (b := 7 * i) rfl rfl rfl e7 (by omega) hshl)
      rw [hsh]
      refine hwKQ ?_
      refine HL.pa ?_ (POp.add64 (a := z) (b := b % 128 * 2 ^ (7 * i)) rfl rfl (by omega))
      rw [hz']
      by_cases h128 : 128 ≤ b
      · have h128' : (128 : Int) ≤ (b : Int) := by omega
        refine hwKQ ?_
        exact HX.again (i + 1, z') ⟨hlt, hnx h128, by rw [← on h128]; exact hd⟩ (by show 9 - (i + 1) < 9 - i; omega) esA (Hs.refl _)
      · have h128' : ¬ (128 : Int) ≤ (b : Int) := by omega
        refine hwKQ ?_
        refine HL.pa ?_ (POp.quo64 (a := z') (b := 2) rfl rfl (by omega) (by decide))
        refine hwKQ ?_
        refine HL.pa ?_ (POp.rem64 (a := z') (b := 2) rfl rfl (by decide))
        refine hnKQ ?_
        repeat refine HC.seq ?_
        refine HC.cut (α := Unit) (fun _ => [(0, .string s), (1, zv (p : Int)), (8, zv (i : Int)), (10, zv (unz z'))]) (fun _ => []) (fun _ => True) ?_ ?_
        · by_cases hodd : z' % 2 = 1
          · have hu : unz z' = -((z' / 2 : Nat) : Int) - 1 := by unfold unz; rw [if_neg (by omega)]
            have hodd' : ((z' % 2 : Nat) : Int) = 1 := by omega
            refine hwKQ ?_
            rw [← hu]
            refine hwKQ ?_
            exact HX.cut () trivial esA (Hs.refl _)
          · have hu : unz z' = ((z' / 2 : Nat) : Int) := by unfold unz; rw [if_pos (by omega)]
            have hodd' : ¬ ((z' % 2 : Nat) : Int) = 1 := by omega
            rw [hu]
            refine hwKQ ?_
            exact HX.cut () trivial esA (Hs.refl _)
        rintro - -
        have hpi := refPutIntZ_fn z' hz3
        unfold refIntV at hpi
        by_cases hu : unz z' < -4611686018427387903
        · have hno := no h128 (.inr hu)
          simp only [if_pos hu] at hpi
          refine hwKQ ?_
          refine HL.one (H1.callx (vs := [_]) rfl rfl (fun w' _ => hpi w') ?_)
          refine hwKQ ?_
          exact HX.ret3 (P := Tryz.prog) rfl rfl rfl rfl fun w' hM => ⟨by rw [← hd, hno]; rfl, hM.ext⟩
        · simp only [if_neg hu] at hpi
          have hex := extract_mk s p (p + i + 1)
          rw [show p + i + 1 - p = i + 1 from by omega] at hex
          refine hwKQ ?_
          refine HL.one (H1.callx (vs := [_]) rfl rfl (fun w' _ => hpi w') ?_)
          have key : mkBA (vint z') = s.extract (p : Int).toNat ((p : Int) + (i : Int) + 1).toNat ↔ ¬ (b = 0 ∧ 0 < i) := by
            rw [show (p : Int).toNat = p from by omega, show ((p : Int) + (i : Int) + 1).toNat = p + i + 1 from by omega, hex, ← hla h128]
            constructor
            · intro h
              have := congrArg (fun x : ByteArray => x.data.toList) h
              exact this
            · intro h; rw [h]
          repeat' (first | refine HL.pa ?_ (POp.nilCheck rfl) | apply HL.fold | apply HA.fold | apply HL.nil | apply HX.n_then | apply HC.seq | apply HC.region | refine HL.pa ?_ | refine HL.ga rfl ?_ | refine HL.na rfl ?_ | refine HL.nu rfl rfl ?_ | apply HC.block | apply HC.skip | apply HC.exit | apply HC.ret | apply HX.e_block | refine HX.e_other rfl ?_ | apply HX.e_then | apply HX.e_again | apply HX.n_block | apply HX.r_then | apply HX.r_block | apply HX.r_again | refine HC.cond_yes rfl ?_ | refine HC.cond_no rfl ?_ | refine HL.one (H1.ldb rfl memA rfl rfl ?_) | refine HC.cond rfl (fun hc => ?_) (fun hc => ?_) | refine HC.cond_b rfl (fun hc => ?_) (fun hc => ?_))
          · have hno := no h128 (.inl (by
              by_cases hx : b = 0 ∧ 0 < i
              · exact hx
              · exact absurd (key.2 hx) hc))
            exact HX.ret3 (P := Tryz.prog) rfl rfl rfl rfl fun w' hM => ⟨by rw [← hd, hno]; rfl, hM.ext⟩
          · have hyes := yes h128 (by
              rintro (h | h)
              · exact (key.1 (Classical.byContradiction hc)) h
              · exact hu h)
            refine HX.ret3 (P := Tryz.prog) rfl rfl rfl rfl fun w' hM => ⟨?_, hM.ext⟩
            rw [← hd, hyes]
            show Value.tuple #[_, zv ((p : Int) + (i : Int) + 1), _] = Value.tuple #[_, zv ((p + i + 1 : Nat) : Int), _]
            rw [show ((p + i + 1 : Nat) : Int) = (p : Int) + (i : Int) + 1 from by omega]
    · have hno := decG_end (s := s.data.toList) (p := p) (i := i) (z := z) (by omega)
      refine hwKQ ?_
      exact HX.ret3 (P := Tryz.prog) rfl rfl rfl rfl fun w' hM => ⟨by rw [← hd, hno]; rfl, hM.ext⟩
  · obtain rfl : i = 9 := by omega
    have hno := decG_9 s.data.toList p z
    refine hwKQ ?_
    exact HX.ret3 (P := Tryz.prog) rfl rfl rfl rfl fun w' hM => ⟨by rw [← hd, hno]; rfl, hM.ext⟩
theorem refString_fn (s : ByteArray) (p : Nat) (hp : p ≤ s.size) (hs : s.size ≤ 5000000) (w : World) : Fn Tryz.prog 75 #[.string s, zv (p : Int)] w fun v w' => v = strV (decS s.data.toList p) ∧ Ext w w' := by
  have hlen : s.data.toList.length = s.size := by rw [Array.length_toList]; rfl
  have hint := fun w' => refInt_fn s p hp hs w'
  refine enterH (l := [_, _]) rfl Tryz.ntmps75 rfl ?_
  unfold decS
  cases hd : decI s.data.toList p with
  | none =>
    rw [hd] at hint
    unfold intV at hint
    refine hwKQ ?_
    refine HL.one (H1.callx (vs := [_, _]) rfl rfl (fun w' _ => hint w') ?_)
    refine hwKQ ?_
    exact HX.ret3 (P := Tryz.prog) rfl rfl rfl rfl fun w' hM => ⟨rfl, hM.ext⟩
  | some x =>
    obtain ⟨z, q⟩ := x
    rw [hd] at hint
    unfold intV at hint
    have hq := decG_le 9 0 0 (by omega) hd
    simp only at hq
    rw [hlen] at hq ⊢
    dsimp only at hint ⊢
    refine hwKQ ?_
    refine HL.one (H1.callx (vs := [_, _]) rfl rfl (fun w' _ => hint w') ?_)
    obtain ⟨u, hu⟩ : ∃ u, u = unz z := ⟨_, rfl⟩
    rw [← hu]
    by_cases h1 : u < 0
    · rw [if_pos (.inl h1)]
      refine hwKQ ?_
      exact HX.ret3 (P := Tryz.prog) rfl rfl rfl rfl fun w' hM => ⟨rfl, hM.ext⟩
    · by_cases h2 : u > 65536
      · rw [if_pos (.inr (.inl h2))]
        refine hwKQ ?_
        exact HX.ret3 (P := Tryz.prog) rfl rfl rfl rfl fun w' hM => ⟨rfl, hM.ext⟩
      · by_cases h3 : u > (s.size : Int) - (q : Int)
        · rw [if_pos (.inr (.inr h3))]
          refine hwKQ ?_
          exact HX.ret3 (P := Tryz.prog) rfl rfl rfl rfl fun w' hM => ⟨rfl, hM.ext⟩
        · rw [if_neg (by omega)]
          obtain ⟨n, rfl⟩ := Int.eq_ofNat_of_zero_le (show 0 ≤ u by omega)
          have e1 : ((q : Int) + (n : Int)).toNat = q + n := by omega
          have e2 := extract_mk s q (q + n)
          rw [show q + n - q = n from by omega] at e2
          refine hwKQ ?_
          refine HX.ret3 (P := Tryz.prog) rfl rfl rfl rfl fun w' hM => ⟨?_, hM.ext⟩
          rw [e1, Int.toNat_natCast, Int.toNat_natCast, e2]
          rfl
end Go.Sx

