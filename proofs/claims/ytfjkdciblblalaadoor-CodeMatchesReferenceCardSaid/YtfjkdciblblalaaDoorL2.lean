/- Chapter 17: the reference's numbers; the law CodeNumbersMatchReference. -/
import Derived.Test.YtfjkdciblblalaaDoorC8
import Derived.Test.YtfjkdciblblalaaDoorGFR
namespace Go.Sx
open Go Go.Proofs
attribute [local irreducible] WC WL WX POp Then Again Fn NX W1 WA WO QL RP RA Yld LoopAt
theorem within_fn (n a b : Int) (w : World) : Fn Tryd.prog 20 #[.int .i64 n, .int .i64 a, .int .i64 b] w fun v w' => v = .bool (decide (a ≤ n ∧ n ≤ b)) ∧ w = w' := by
  refine enter (l := [_, _, _]) rfl Tryd.ntmps20 rfl ?_
  by_cases h1 : a ≤ n
  · repeat' (first | apply WL.fold | apply WA.fold | apply WL.nil | apply WX.n_then | apply WC.seq | apply WC.region | refine WL.pa ?_ | refine WL.ga rfl ?_ | refine WL.na rfl ?_ | refine WL.nu rfl rfl ?_ | apply WC.block | apply WC.skip | apply WC.exit | apply WC.ret | apply WX.e_block | refine WX.e_other rfl ?_ | apply WX.e_then | apply WX.e_again | apply WX.n_block | apply WX.r_then | apply WX.r_block | apply WX.r_again | refine WC.cond_yes rfl ?_ | refine WC.cond_no rfl ?_ | refine WC.cond rfl (fun hc => ?_) (fun hc => ?_) | refine WC.cond_b rfl (fun hc => ?_) (fun hc => ?_))
    exact WX.ret1 rfl rfl ⟨by simp [h1], rfl⟩
  · repeat' (first | apply WL.fold | apply WA.fold | apply WL.nil | apply WX.n_then | apply WC.seq | apply WC.region | refine WL.pa ?_ | refine WL.ga rfl ?_ | refine WL.na rfl ?_ | refine WL.nu rfl rfl ?_ | apply WC.block | apply WC.skip | apply WC.exit | apply WC.ret | apply WX.e_block | refine WX.e_other rfl ?_ | apply WX.e_then | apply WX.e_again | apply WX.n_block | apply WX.r_then | apply WX.r_block | apply WX.r_again | refine WC.cond_yes rfl ?_ | refine WC.cond_no rfl ?_ | refine WC.cond rfl (fun hc => ?_) (fun hc => ?_) | refine WC.cond_b rfl (fun hc => ?_) (fun hc => ?_))
    exact WX.ret1 rfl rfl ⟨by simp [h1], rfl⟩
theorem refMul_no (a b : Int) (h : ¬ (isNum a ∧ isNum b)) (w : World) : Fn Tryd.prog 39 #[.int .i64 a, .int .i64 b] w fun v w' => v = .int .i64 0 ∧ w = w' := by
  refine enter (l := [_, _]) rfl Tryd.ntmps39 rfl ?_
  repeat' (first | apply WL.fold | apply WA.fold | apply WL.nil | apply WX.n_then | apply WC.seq | apply WC.region | refine WL.pa ?_ | refine WL.ga rfl ?_ | refine WL.na rfl ?_ | refine WL.nu rfl rfl ?_ | apply WC.block | apply WC.skip | apply WC.exit | apply WC.ret | apply WX.e_block | refine WX.e_other rfl ?_ | apply WX.e_then | apply WX.e_again | apply WX.n_block | apply WX.r_then | apply WX.r_block | apply WX.r_again | refine WC.cond_yes rfl ?_ | refine WC.cond_no rfl ?_ | refine WC.cond rfl (fun hc => ?_) (fun hc => ?_) | refine WC.cond_b rfl (fun hc => ?_) (fun hc => ?_))
  refine WL.call (vs := [.int .i64 a, .int .i64 0, .int .i64 255]) rfl rfl (within_fn _ _ _ _) ?_
  rintro _ w1 ⟨rfl, rfl⟩
  by_cases h1 : 0 ≤ a ∧ a ≤ 255
  · have h2 : ¬ (0 ≤ b ∧ b ≤ 255) := fun h2 => h ⟨h1, h2⟩
    simp only [h1, and_self, decide_true]
    repeat' (first | apply WL.fold | apply WA.fold | apply WL.nil | apply WX.n_then | apply WC.seq | apply WC.region | refine WL.pa ?_ | refine WL.ga rfl ?_ | refine WL.na rfl ?_ | refine WL.nu rfl rfl ?_ | apply WC.block | apply WC.skip | apply WC.exit | apply WC.ret | apply WX.e_block | refine WX.e_other rfl ?_ | apply WX.e_then | apply WX.e_again | apply WX.n_block | apply WX.r_then | apply WX.r_block | apply WX.r_again | refine WC.cond_yes rfl ?_ | refine WC.cond_no rfl ?_ | refine WC.cond rfl (fun hc => ?_) (fun hc => ?_) | refine WC.cond_b rfl (fun hc => ?_) (fun hc => ?_))
    refine WL.call (vs := [.int .i64 b, .int .i64 0, .int .i64 255]) rfl rfl (within_fn _ _ _ _) ?_
    rintro _ w1 ⟨rfl, rfl⟩
    simp only [h2, decide_false]
    repeat' (first | apply WL.fold | apply WA.fold | apply WL.nil | apply WX.n_then | apply WC.seq | apply WC.region | refine WL.pa ?_ | refine WL.ga rfl ?_ | refine WL.na rfl ?_ | refine WL.nu rfl rfl ?_ | apply WC.block | apply WC.skip | apply WC.exit | apply WC.ret | apply WX.e_block | refine WX.e_other rfl ?_ | apply WX.e_then | apply WX.e_again | apply WX.n_block | apply WX.r_then | apply WX.r_block | apply WX.r_again | refine WC.cond_yes rfl ?_ | refine WC.cond_no rfl ?_ | refine WC.cond rfl (fun hc => ?_) (fun hc => ?_) | refine WC.cond_b rfl (fun hc => ?_) (fun hc => ?_))
    exact WX.ret1 rfl rfl ⟨rfl, rfl⟩
  · simp only [h1, decide_false]
    repeat' (first | apply WL.fold | apply WA.fold | apply WL.nil | apply WX.n_then | apply WC.seq | apply WC.region | refine WL.pa ?_ | refine WL.ga rfl ?_ | refine WL.na rfl ?_ | refine WL.nu rfl rfl ?_ | apply WC.block | apply WC.skip | apply WC.exit | apply WC.ret | apply WX.e_block | refine WX.e_other rfl ?_ | apply WX.e_then | apply WX.e_again | apply WX.n_block | apply WX.r_then | apply WX.r_block | apply WX.r_again | refine WC.cond_yes rfl ?_ | refine WC.cond_no rfl ?_ | refine WC.cond rfl (fun hc => ?_) (fun hc => ?_) | refine WC.cond_b rfl (fun hc => ?_) (fun hc => ?_))
    exact WX.ret1 rfl rfl ⟨rfl, rfl⟩
theorem refMul_yes (a b : Nat) (ha : a < 256) (hb : b < 256) (w : World) : Fn Tryd.prog 39 #[.int .i64 (a : Int), .int .i64 (b : Int)] w fun v w' => v = .int .i64 ((mulN a b : Nat) : Int) ∧ w = w' := by
  refine enter (l := [_, _]) rfl Tryd.ntmps39 rfl ?_
  have h1 : 0 ≤ (a : Int) ∧ (a : Int) ≤ 255 := by omega
  have h2 : 0 ≤ (b : Int) ∧ (b : Int) ≤ 255 := by omega
  repeat' (first | apply WL.fold | apply WA.fold | apply WL.nil | apply WX.n_then | apply WC.seq | apply WC.region | refine WL.pa ?_ | refine WL.ga rfl ?_ | refine WL.na rfl ?_ | refine WL.nu rfl rfl ?_ | apply WC.block | apply WC.skip | apply WC.exit | apply WC.ret | apply WX.e_block | refine WX.e_other rfl ?_ | apply WX.e_then | apply WX.e_again | apply WX.n_block | apply WX.r_then | apply WX.r_block | apply WX.r_again | refine WC.cond_yes rfl ?_ | refine WC.cond_no rfl ?_ | refine WC.cond rfl (fun hc => ?_) (fun hc => ?_) | refine WC.cond_b rfl (fun hc => ?_) (fun hc => ?_))
  refine WL.call (vs := [.int .i64 a, .int .i64 0, .int .i64 255]) rfl rfl (within_fn _ _ _ _) ?_
  rintro _ w1 ⟨rfl, rfl⟩
  simp only [h1, and_self, decide_true]
  repeat' (first | apply WL.fold | apply WA.fold | apply WL.nil | apply WX.n_then | apply WC.seq | apply WC.region | refine WL.pa ?_ | refine WL.ga rfl ?_ | refine WL.na rfl ?_ | refine WL.nu rfl rfl ?_ | apply WC.block | apply WC.skip | apply WC.exit | apply WC.ret | apply WX.e_block | refine WX.e_other rfl ?_ | apply WX.e_then | apply WX.e_again | apply WX.n_block | apply WX.r_then | apply WX.r_block | apply WX.r_again | refine WC.cond_yes rfl ?_ | refine WC.cond_no rfl ?_ | refine WC.cond rfl (fun hc => ?_) (fun hc => ?_) | refine WC.cond_b rfl (fun hc => ?_) (fun hc => ?_))
  refine WL.call (vs := [.int .i64 b, .int .i64 0, .int .i64 255]) rfl rfl (within_fn _ _ _ _) ?_
  rintro _ w1 ⟨rfl, rfl⟩
  simp only [h2, and_self, decide_true]
  repeat' (first | apply WL.fold | apply WA.fold | apply WL.nil | apply WX.n_then | apply WC.seq | apply WC.region | refine WL.pa ?_ | refine WL.ga rfl ?_ | refine WL.na rfl ?_ | refine WL.nu rfl rfl ?_ | apply WC.block | apply WC.skip | apply WC.exit | apply WC.ret | apply WX.e_block | refine WX.e_other rfl ?_ | apply WX.e_then | apply WX.e_again | apply WX.n_block | apply WX.r_then | apply WX.r_block | apply WX.r_again | refine WC.cond_yes rfl ?_ | refine WC.cond_no rfl ?_ | refine WC.cond rfl (fun hc => ?_) (fun hc => ?_) | refine WC.cond_b rfl (fun hc => ?_) (fun hc => ?_))
  refine WC.loop (α := Nat) (fun i => [(0, iv (dblP a i)), (1, iv (b >>> i)), (5, iv (bsum (dblP a) b i)), (6, iv i)])
    (fun i w' => i ≤ 8 ∧ w = w') (fun i => 8 - i) 0 ⟨rfl, rfl, rfl, rfl, trivial⟩ ⟨by omega, rfl⟩ ?_
  rintro i _ ⟨hi, rfl⟩
  have l1 := dblP_lt ha i
  have l2 := bsum_lt (dblP_lt ha) b i
  have l3 : b >>> i < 256 := by rw [Nat.shiftRight_eq_div_pow]; exact Nat.lt_of_le_of_lt (Nat.div_le_self _ _) hb
  by_cases hlt : i < 8
  · have hm := Nat.and_one_is_mod (b >>> i)
    have hs : b >>> (i + 1) = (b >>> i) / 2 := Nat.shiftRight_succ b i
    have hsI : ((b >>> (i + 1) : Nat) : Int) = ((b >>> i : Nat) : Int) / 2 := by rw [hs]; omega
    have hb1 : bsum (dblP a) b (i + 1) = if (b >>> i) &&& 1 = 1 then bsum (dblP a) b i ^^^ dblP a i else bsum (dblP a) b i := rfl
    have hd1 : dblP a (i + 1) = if 256 ≤ 2 * dblP a i then (2 * dblP a i) ^^^ 285 else 2 * dblP a i := rfl
    have htw : (2 : Int) * ((dblP a i : Nat) : Int) = ((2 * dblP a i : Nat) : Int) := by omega
    clear hs
    generalize b >>> i = y at *
    by_cases hbit : y &&& 1 = 1
    · rw [if_pos hbit] at hb1
      have hcond : ((y : Nat) : Int) % 2 = 1 := by
        rw [hm] at hbit
        omega
      by_cases hbig : 256 ≤ 2 * dblP a i
      · rw [if_pos hbig] at hd1
        repeat' (first | apply WL.fold | apply WA.fold | apply WL.nil | apply WX.n_then | apply WC.seq | apply WC.region | refine WL.pa ?_ | refine WL.ga rfl ?_ | refine WL.na rfl ?_ | refine WL.nu rfl rfl ?_ | apply WC.block | apply WC.skip | apply WC.exit | apply WC.ret | apply WX.e_block | refine WX.e_other rfl ?_ | apply WX.e_then | apply WX.e_again | apply WX.n_block | apply WX.r_then | apply WX.r_block | apply WX.r_again | refine WC.cond_yes rfl ?_ | refine WC.cond_no rfl ?_ | refine WC.cond rfl (fun hc => ?_) (fun hc => ?_) | refine WC.cond_b rfl (fun hc => ?_) (fun hc => ?_))
        rw [htw]
        repeat' (first | apply WL.fold | apply WA.fold | apply WL.nil | apply WX.n_then | apply WC.seq | apply WC.region | refine WL.pa ?_ | refine WL.ga rfl ?_ | refine WL.na rfl ?_ | refine WL.nu rfl rfl ?_ | apply WC.block | apply WC.skip | apply WC.exit | apply WC.ret | apply WX.e_block | refine WX.e_other rfl ?_ | apply WX.e_then | apply WX.e_again | apply WX.n_block | apply WX.r_then | apply WX.r_block | apply WX.r_again | refine WC.cond_yes rfl ?_ | refine WC.cond_no rfl ?_ | refine WC.cond rfl (fun hc => ?_) (fun hc => ?_) | refine WC.cond_b rfl (fun hc => ?_) (fun hc => ?_))
        refine WX.again (i + 1) ⟨by omega, rfl⟩ (by omega) ⟨?_, ?_, ?_, rfl, trivial⟩
        · rw [hd1]; rfl
        · exact congrArg (fun z => some (Value.int .i64 z)) hsI.symm
        · rw [hb1]; rfl
      · rw [if_neg hbig] at hd1
        repeat' (first | apply WL.fold | apply WA.fold | apply WL.nil | apply WX.n_then | apply WC.seq | apply WC.region | refine WL.pa ?_ | refine WL.ga rfl ?_ | refine WL.na rfl ?_ | refine WL.nu rfl rfl ?_ | apply WC.block | apply WC.skip | apply WC.exit | apply WC.ret | apply WX.e_block | refine WX.e_other rfl ?_ | apply WX.e_then | apply WX.e_again | apply WX.n_block | apply WX.r_then | apply WX.r_block | apply WX.r_again | refine WC.cond_yes rfl ?_ | refine WC.cond_no rfl ?_ | refine WC.cond rfl (fun hc => ?_) (fun hc => ?_) | refine WC.cond_b rfl (fun hc => ?_) (fun hc => ?_))
        refine WX.again (i + 1) ⟨by omega, rfl⟩ (by omega) ⟨?_, ?_, ?_, rfl, trivial⟩
        · rw [hd1]; rfl
        · exact congrArg (fun z => some (Value.int .i64 z)) hsI.symm
        · rw [hb1]; rfl
    · rw [if_neg hbit] at hb1
      have hcond : ((y : Nat) : Int) % 2 = 0 := by
        rw [hm] at hbit
        omega
      by_cases hbig : 256 ≤ 2 * dblP a i
      · rw [if_pos hbig] at hd1
        repeat' (first | apply WL.fold | apply WA.fold | apply WL.nil | apply WX.n_then | apply WC.seq | apply WC.region | refine WL.pa ?_ | refine WL.ga rfl ?_ | refine WL.na rfl ?_ | refine WL.nu rfl rfl ?_ | apply WC.block | apply WC.skip | apply WC.exit | apply WC.ret | apply WX.e_block | refine WX.e_other rfl ?_ | apply WX.e_then | apply WX.e_again | apply WX.n_block | apply WX.r_then | apply WX.r_block | apply WX.r_again | refine WC.cond_yes rfl ?_ | refine WC.cond_no rfl ?_ | refine WC.cond rfl (fun hc => ?_) (fun hc => ?_) | refine WC.cond_b rfl (fun hc => ?_) (fun hc => ?_))
        rw [htw]
        repeat' (first | apply WL.fold | apply WA.fold | apply WL.nil | apply WX.n_then | apply WC.seq | apply WC.region | refine WL.pa ?_ | refine WL.ga rfl ?_ | refine WL.na rfl ?_ | refine WL.nu rfl rfl ?_ | apply WC.block | apply WC.skip | apply WC.exit | apply WC.ret | apply WX.e_block | refine WX.e_other rfl ?_ | apply WX.e_then | apply WX.e_again | apply WX.n_block | apply WX.r_then | apply WX.r_block | apply WX.r_again | refine WC.cond_yes rfl ?_ | refine WC.cond_no rfl ?_ | refine WC.cond rfl (fun hc => ?_) (fun hc => ?_) | refine WC.cond_b rfl (fun hc => ?_) (fun hc => ?_))
        refine WX.again (i + 1) ⟨by omega, rfl⟩ (by omega) ⟨?_, ?_, ?_, rfl, trivial⟩
        · rw [hd1]; rfl
        · exact congrArg (fun z => some (Value.int .i64 z)) hsI.symm
        · rw [hb1]; rfl
      · rw [if_neg hbig] at hd1
        repeat' (first | apply WL.fold | apply WA.fold | apply WL.nil | apply WX.n_then | apply WC.seq | apply WC.region | refine WL.pa ?_ | refine WL.ga rfl ?_ | refine WL.na rfl ?_ | refine WL.nu rfl rfl ?_ | apply WC.block | apply WC.skip | apply WC.exit | apply WC.ret | apply WX.e_block | refine WX.e_other rfl ?_ | apply WX.e_then | apply WX.e_again | apply WX.n_block | apply WX.r_then | apply WX.r_block | apply WX.r_again | refine WC.cond_yes rfl ?_ | refine WC.cond_no rfl ?_ | refine WC.cond rfl (fun hc => ?_) (fun hc => ?_) | refine WC.cond_b rfl (fun hc => ?_) (fun hc => ?_))
        refine WX.again (i + 1) ⟨by omega, rfl⟩ (by omega) ⟨?_, ?_, ?_, rfl, trivial⟩
        · rw [hd1]; rfl
        · exact congrArg (fun z => some (Value.int .i64 z)) hsI.symm
        · rw [hb1]; rfl
  · obtain rfl : i = 8 := by omega
    repeat' (first | apply WL.fold | apply WA.fold | apply WL.nil | apply WX.n_then | apply WC.seq | apply WC.region | refine WL.pa ?_ | refine WL.ga rfl ?_ | refine WL.na rfl ?_ | refine WL.nu rfl rfl ?_ | apply WC.block | apply WC.skip | apply WC.exit | apply WC.ret | apply WX.e_block | refine WX.e_other rfl ?_ | apply WX.e_then | apply WX.e_again | apply WX.n_block | apply WX.r_then | apply WX.r_block | apply WX.r_again | refine WC.cond_yes rfl ?_ | refine WC.cond_no rfl ?_ | refine WC.cond rfl (fun hc => ?_) (fun hc => ?_) | refine WC.cond_b rfl (fun hc => ?_) (fun hc => ?_))
    refine WX.ret1 rfl rfl ⟨?_, rfl⟩
    rw [← ref_eq ha hb]; rfl
theorem refMul_fn (a b : Int) (w : World) : Fn Tryd.prog 39 #[.int .i64 a, .int .i64 b] w fun v w' => v = .int .i64 (mulI a b) ∧ w = w' := by
  by_cases h : isNum a ∧ isNum b
  · obtain ⟨⟨h1, h2⟩, h3, h4⟩ := h
    obtain ⟨a, rfl⟩ := Int.eq_ofNat_of_zero_le h1
    obtain ⟨b, rfl⟩ := Int.eq_ofNat_of_zero_le h3
    refine (refMul_yes a b (by omega) (by omega) w).mono ?_
    rintro _ _ ⟨rfl, rfl⟩
    refine ⟨?_, rfl⟩
    rw [mulI, if_pos ⟨⟨h1, h2⟩, h3, h4⟩]; rfl
  · refine (refMul_no a b h w).mono ?_
    rintro _ _ ⟨rfl, rfl⟩
    exact ⟨by rw [mulI, if_neg h], rfl⟩
def invI (a : Int) : Int := if isNum a then ((invN a.toNat : Nat) : Int) else 0
theorem inverse_fn (a : Int) (w : World) (hr : Red w) : Fn Tryd.prog 15 #[.int .i64 a] w fun v w' => v = .int .i64 (invI a) ∧ w = w' := by
  by_cases h : isNum a
  · obtain ⟨h1, h2⟩ := h
    obtain ⟨a, rfl⟩ := Int.eq_ofNat_of_zero_le h1
    refine (inverse_yes a (by omega) w hr).mono ?_
    rintro _ _ ⟨rfl, rfl⟩
    refine ⟨?_, rfl⟩
    rw [invI, if_pos ⟨h1, h2⟩]; rfl
  · refine (inverse_no a h w).mono ?_
    rintro _ _ ⟨rfl, rfl⟩
    exact ⟨by rw [invI, if_neg h], rfl⟩
theorem refInverse_fn (a : Int) (w : World) : Fn Tryd.prog 53 #[.int .i64 a] w fun v w' => v = .int .i64 (invI a) ∧ w = w' := by
  refine enter (l := [_]) rfl Tryd.ntmps53 rfl ?_
  repeat' (first | apply WL.fold | apply WA.fold | apply WL.nil | apply WX.n_then | apply WC.seq | apply WC.region | refine WL.pa ?_ | refine WL.ga rfl ?_ | refine WL.na rfl ?_ | refine WL.nu rfl rfl ?_ | apply WC.block | apply WC.skip | apply WC.exit | apply WC.ret | apply WX.e_block | refine WX.e_other rfl ?_ | apply WX.e_then | apply WX.e_again | apply WX.n_block | apply WX.r_then | apply WX.r_block | apply WX.r_again | refine WC.cond_yes rfl ?_ | refine WC.cond_no rfl ?_ | refine WC.cond rfl (fun hc => ?_) (fun hc => ?_) | refine WC.cond_b rfl (fun hc => ?_) (fun hc => ?_))
  refine WC.loop (α := Nat) (fun b => [(0, .int .i64 a), (3, iv b)])
    (fun b w' => 1 ≤ b ∧ b ≤ 256 ∧ w = w' ∧ ∀ c : Nat, 1 ≤ c → c < b → mulI a c ≠ 1) (fun b => 256 - b) 1 ⟨rfl, rfl, trivial⟩ ⟨by omega, by omega, rfl, fun c h1 h2 => by omega⟩ ?_
  rintro b _ ⟨hb1, hb, rfl, hno⟩
  by_cases hlt : b < 256
  · repeat' (first | apply WL.fold | apply WA.fold | apply WL.nil | apply WX.n_then | apply WC.seq | apply WC.region | refine WL.pa ?_ | refine WL.ga rfl ?_ | refine WL.na rfl ?_ | refine WL.nu rfl rfl ?_ | apply WC.block | apply WC.skip | apply WC.exit | apply WC.ret | apply WX.e_block | refine WX.e_other rfl ?_ | apply WX.e_then | apply WX.e_again | apply WX.n_block | apply WX.r_then | apply WX.r_block | apply WX.r_again | refine WC.cond_yes rfl ?_ | refine WC.cond_no rfl ?_ | refine WC.cond rfl (fun hc => ?_) (fun hc => ?_) | refine WC.cond_b rfl (fun hc => ?_) (fun hc => ?_))
    refine WL.call rfl rfl (refMul_fn a b w) ?_
    rintro _ _ ⟨rfl, rfl⟩
    by_cases h1 : mulI a b = 1
    · repeat' (first | apply WL.fold | apply WA.fold | apply WL.nil | apply WX.n_then | apply WC.seq | apply WC.region | refine WL.pa ?_ | refine WL.ga rfl ?_ | refine WL.na rfl ?_ | refine WL.nu rfl rfl ?_ | apply WC.block | apply WC.skip | apply WC.exit | apply WC.ret | apply WX.e_block | refine WX.e_other rfl ?_ | apply WX.e_then | apply WX.e_again | apply WX.n_block | apply WX.r_then | apply WX.r_block | apply WX.r_again | refine WC.cond_yes rfl ?_ | refine WC.cond_no rfl ?_ | refine WC.cond rfl (fun hc => ?_) (fun hc => ?_) | refine WC.cond_b rfl (fun hc => ?_) (fun hc => ?_))
      refine WX.ret1 rfl rfl ⟨?_, rfl⟩
      have hn : isNum a := by
        by_cases hn : isNum a
        · exact hn
        · rw [mulI, if_neg (fun h => hn h.1)] at h1; cases h1
      have hnb : isNum (b : Int) := ⟨by omega, by omega⟩
      rw [mulI, if_pos ⟨hn, hnb⟩, Int.toNat_natCast] at h1
      obtain ⟨n1, n2⟩ := hn
      have := mul_eq_one (a := a.toNat) (b := b) (by omega) hlt (by omega)
      rw [invI, if_pos ⟨n1, n2⟩, this]
    · repeat' (first | apply WL.fold | apply WA.fold | apply WL.nil | apply WX.n_then | apply WC.seq | apply WC.region | refine WL.pa ?_ | refine WL.ga rfl ?_ | refine WL.na rfl ?_ | refine WL.nu rfl rfl ?_ | apply WC.block | apply WC.skip | apply WC.exit | apply WC.ret | apply WX.e_block | refine WX.e_other rfl ?_ | apply WX.e_then | apply WX.e_again | apply WX.n_block | apply WX.r_then | apply WX.r_block | apply WX.r_again | refine WC.cond_yes rfl ?_ | refine WC.cond_no rfl ?_ | refine WC.cond rfl (fun hc => ?_) (fun hc => ?_) | refine WC.cond_b rfl (fun hc => ?_) (fun hc => ?_))
      refine WX.again (b + 1) ⟨by omega, by omega, rfl, fun c c1 c2 => ?_⟩ (by omega) ⟨rfl, rfl, trivial⟩
      by_cases e : c = b
      · subst e; exact h1
      · exact hno c c1 (by omega)
  · obtain rfl : b = 256 := by omega
    repeat' (first | apply WL.fold | apply WA.fold | apply WL.nil | apply WX.n_then | apply WC.seq | apply WC.region | refine WL.pa ?_ | refine WL.ga rfl ?_ | refine WL.na rfl ?_ | refine WL.nu rfl rfl ?_ | apply WC.block | apply WC.skip | apply WC.exit | apply WC.ret | apply WX.e_block | refine WX.e_other rfl ?_ | apply WX.e_then | apply WX.e_again | apply WX.n_block | apply WX.r_then | apply WX.r_block | apply WX.r_again | refine WC.cond_yes rfl ?_ | refine WC.cond_no rfl ?_ | refine WC.cond rfl (fun hc => ?_) (fun hc => ?_) | refine WC.cond_b rfl (fun hc => ?_) (fun hc => ?_))
    refine WX.ret1 rfl rfl ⟨?_, rfl⟩
    by_cases hn : isNum a
    · obtain ⟨n1, n2⟩ := hn
      rw [invI, if_pos ⟨n1, n2⟩]
      rcases Nat.eq_zero_or_pos a.toNat with h0 | h0
      · rw [h0, exInv2]; rfl
      · have hl := invN_lt (a := a.toNat) (by omega)
        have hp := inv_pos a.toNat (by omega) h0
        have hm := mul_inv a.toNat (by omega) h0
        refine absurd ?_ (hno (invN a.toNat) hp hl)
        rw [mulI, if_pos ⟨⟨n1, n2⟩, by omega, by omega⟩, Int.toNat_natCast, hm]; rfl
    · rw [invI, if_neg hn]
def pickI (c n : Int) : Int := if c < 0 then (-(c + 1)) % n else c % n
theorem pick_fn (c n : Int) (h1 : -9223372036854775808 ≤ c) (h2 : c ≤ 9223372036854775807) (hn : 0 < n) (w : World) : Fn Tryd.prog 9 #[.int .i64 c, .int .i64 n] w fun v w' => v = .int .i64 (pickI c n) ∧ w = w' := by
  refine enter (l := [_, _]) rfl Tryd.ntmps9 rfl ?_
  by_cases h : c < 0
  · repeat' (first | apply WL.fold | apply WA.fold | apply WL.nil | apply WX.n_then | apply WC.seq | apply WC.region | refine WL.pa ?_ | refine WL.ga rfl ?_ | refine WL.na rfl ?_ | refine WL.nu rfl rfl ?_ | apply WC.block | apply WC.skip | apply WC.exit | apply WC.ret | apply WX.e_block | refine WX.e_other rfl ?_ | apply WX.e_then | apply WX.e_again | apply WX.n_block | apply WX.r_then | apply WX.r_block | apply WX.r_again | refine WC.cond_yes rfl ?_ | refine WC.cond_no rfl ?_ | refine WC.cond rfl (fun hc => ?_) (fun hc => ?_) | refine WC.cond_b rfl (fun hc => ?_) (fun hc => ?_))
    exact WX.ret1 rfl rfl ⟨by rw [pickI, if_pos h], rfl⟩
  · repeat' (first | apply WL.fold | apply WA.fold | apply WL.nil | apply WX.n_then | apply WC.seq | apply WC.region | refine WL.pa ?_ | refine WL.ga rfl ?_ | refine WL.na rfl ?_ | refine WL.nu rfl rfl ?_ | apply WC.block | apply WC.skip | apply WC.exit | apply WC.ret | apply WX.e_block | refine WX.e_other rfl ?_ | apply WX.e_then | apply WX.e_again | apply WX.n_block | apply WX.r_then | apply WX.r_block | apply WX.r_again | refine WC.cond_yes rfl ?_ | refine WC.cond_no rfl ?_ | refine WC.cond rfl (fun hc => ?_) (fun hc => ?_) | refine WC.cond_b rfl (fun hc => ?_) (fun hc => ?_))
    exact WX.ret1 rfl rfl ⟨by rw [pickI, if_neg h], rfl⟩
theorem pickI_lt (c : Int) {n : Int} (hn : 0 < n) : 0 ≤ pickI c n ∧ pickI c n < n := by
  unfold pickI
  split
  · exact ⟨Int.emod_nonneg _ (by omega), Int.emod_lt_of_pos _ hn⟩
  · exact ⟨Int.emod_nonneg _ (by omega), Int.emod_lt_of_pos _ hn⟩
end Go.Sx

