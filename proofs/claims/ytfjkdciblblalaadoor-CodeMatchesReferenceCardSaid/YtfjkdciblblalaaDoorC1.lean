/- Chapter 17: the numbers: the walks. -/
import Derived.Test.YtfjkdciblblalaaDoorRow
import Derived.Test.YtfjkdciblblalaaDoorTy
import Derived.Test.YtfjkdciblblalaaDoorGF
namespace Go.Sx
open Go Go.Proofs
attribute [local irreducible] WC WL WX POp Then Again Fn NX W1 WA WO QL RP RA Yld LoopAt
/-- The table of package code. -/
def Red (w : World) : Prop := ∀ i : Nat, i < 16 → w.cell? ⟨0, i, none⟩ = some (.int .i64 ((redL.getD i 0 : Nat) : Int))

theorem isNumber_fn (n : Int) (w : World) : Fn Tryd.prog 27 #[.int .i64 n] w fun v w' => v = .bool (decide (0 ≤ n ∧ n ≤ 255)) ∧ w = w' := by
  refine enter (l := [.int .i64 n]) rfl Tryd.ntmps27 rfl ?_
  by_cases h0 : 0 ≤ n <;> by_cases h1 : n ≤ 255
  all_goals
    repeat' (first | apply WL.fold | apply WA.fold | apply WL.nil | apply WX.n_then | apply WC.seq | apply WC.region | refine WL.pa ?_ | refine WL.ga rfl ?_ | refine WL.na rfl ?_ | refine WL.nu rfl rfl ?_ | apply WC.block | apply WC.skip | apply WC.exit | apply WC.ret | apply WX.e_block | refine WX.e_other rfl ?_ | apply WX.e_then | apply WX.e_again | apply WX.n_block | apply WX.r_then | apply WX.r_block | apply WX.r_again | refine WC.cond_yes rfl ?_ | refine WC.cond_no rfl ?_ | refine WC.cond rfl (fun hc => ?_) (fun hc => ?_) | refine WC.cond_b rfl (fun hc => ?_) (fun hc => ?_))
  all_goals exact WX.ret1 rfl rfl ⟨by simp [h0, h1], rfl⟩

theorem few_fn (a b : Nat) (ha : a < 256) (hb : b < 16) (w : World) (hr : Red w) :
    Fn Tryd.prog 28 #[.int .i64 (a : Int), .int .i64 (b : Int)] w fun v w' => v = .int .i64 ((fewN a b : Nat) : Int) ∧ w = w' := by
  refine enter (l := [.int .i64 a, .int .i64 b]) rfl Tryd.ntmps28 rfl ?_
  repeat' (first | apply WL.fold | apply WA.fold | apply WL.nil | apply WX.n_then | apply WC.seq | apply WC.region | refine WL.pa ?_ | refine WL.ga rfl ?_ | refine WL.na rfl ?_ | refine WL.nu rfl rfl ?_ | apply WC.block | apply WC.skip | apply WC.exit | apply WC.ret | apply WX.e_block | refine WX.e_other rfl ?_ | apply WX.e_then | apply WX.e_again | apply WX.n_block | apply WX.r_then | apply WX.r_block | apply WX.r_again | refine WC.cond_yes rfl ?_ | refine WC.cond_no rfl ?_ | refine WC.cond rfl (fun hc => ?_) (fun hc => ?_) | refine WC.cond_b rfl (fun hc => ?_) (fun hc => ?_))
  refine WC.loop (α := Nat) (fun i => [(0, .int .i64 (a : Int)), (1, .int .i64 (b : Int)), (5, .int .i64 ((fewP a b i : Nat) : Int)), (7, .int .i64 (i : Int))])
    (fun i w' => i ≤ 4 ∧ w' = w) (fun i => 4 - i) 0 ⟨rfl, rfl, rfl, rfl, trivial⟩ ⟨by omega, rfl⟩ ?_
  rintro i w' ⟨hi, rfl⟩
  have hp := fewP_lt (b := b) ha i hi
  by_cases hlt : i < 4
  · have hs : a <<< i < 9223372036854775808 := shl_lt (k := 8) (n := 63) ha (by omega)
    repeat' (first | apply WL.fold | apply WA.fold | apply WL.nil | apply WX.n_then | apply WC.seq | apply WC.region | refine WL.pa ?_ | refine WL.ga rfl ?_ | refine WL.na rfl ?_ | refine WL.nu rfl rfl ?_ | apply WC.block | apply WC.skip | apply WC.exit | apply WC.ret | apply WX.e_block | refine WX.e_other rfl ?_ | apply WX.e_then | apply WX.e_again | apply WX.n_block | apply WX.r_then | apply WX.r_block | apply WX.r_again | refine WC.cond_yes rfl ?_ | refine WC.cond_no rfl ?_ | refine WC.cond rfl (fun hc => ?_) (fun hc => ?_) | refine WC.cond_b rfl (fun hc => ?_) (fun hc => ?_))
    · have hc' : (b >>> i) &&& 1 = 1 := by omega
      refine WX.again (i + 1) ⟨by omega, rfl⟩ (by omega) ⟨rfl, rfl, ?_, rfl, trivial⟩
      simp only [fewP, hc', if_true]; rfl
    · have hc' : ¬ (b >>> i) &&& 1 = 1 := by omega
      refine WX.again (i + 1) ⟨by omega, rfl⟩ (by omega) ⟨rfl, rfl, ?_, rfl, trivial⟩
      simp only [fewP, hc', if_false]; rfl
  · obtain rfl : i = 4 := by omega
    have h8 : fewP a b 4 >>> 8 < 16 := by rw [Nat.shiftRight_eq_div_pow]; omega
    repeat' (first | apply WL.fold | apply WA.fold | apply WL.nil | apply WX.n_then | apply WC.seq | apply WC.region | refine WL.pa ?_ | refine WL.ga rfl ?_ | refine WL.na rfl ?_ | refine WL.nu rfl rfl ?_ | apply WC.block | apply WC.skip | apply WC.exit | apply WC.ret | apply WX.e_block | refine WX.e_other rfl ?_ | apply WX.e_then | apply WX.e_again | apply WX.n_block | apply WX.r_then | apply WX.r_block | apply WX.r_again | refine WC.cond_yes rfl ?_ | refine WC.cond_no rfl ?_ | refine WC.cond rfl (fun hc => ?_) (fun hc => ?_) | refine WC.cond_b rfl (fun hc => ?_) (fun hc => ?_))
    refine WL.load rfl (hr (fewP a b 4 >>> 8) h8) rfl ?_
    have hl := redL_lt (fewP a b 4 >>> 8)
    repeat' (first | apply WL.fold | apply WA.fold | apply WL.nil | apply WX.n_then | apply WC.seq | apply WC.region | refine WL.pa ?_ | refine WL.ga rfl ?_ | refine WL.na rfl ?_ | refine WL.nu rfl rfl ?_ | apply WC.block | apply WC.skip | apply WC.exit | apply WC.ret | apply WX.e_block | refine WX.e_other rfl ?_ | apply WX.e_then | apply WX.e_again | apply WX.n_block | apply WX.r_then | apply WX.r_block | apply WX.r_again | refine WC.cond_yes rfl ?_ | refine WC.cond_no rfl ?_ | refine WC.cond rfl (fun hc => ?_) (fun hc => ?_) | refine WC.cond_b rfl (fun hc => ?_) (fun hc => ?_))
    exact WX.ret1 rfl rfl ⟨rfl, rfl⟩

theorem sixteen_fn (a : Nat) (ha : a < 256) (w : World) (hr : Red w) : Fn Tryd.prog 29 #[.int .i64 (a : Int)] w fun v w' => v = .int .i64 ((sixteenN a : Nat) : Int) ∧ w = w' := by
  refine enter (l := [.int .i64 a]) rfl Tryd.ntmps29 rfl ?_
  have h4 : a >>> 4 < 16 := by rw [Nat.shiftRight_eq_div_pow]; omega
  have hs : a <<< 4 < 9223372036854775808 := shl_lt (k := 8) (n := 63) ha (by omega)
  repeat' (first | apply WL.fold | apply WA.fold | apply WL.nil | apply WX.n_then | apply WC.seq | apply WC.region | refine WL.pa ?_ | refine WL.ga rfl ?_ | refine WL.na rfl ?_ | refine WL.nu rfl rfl ?_ | apply WC.block | apply WC.skip | apply WC.exit | apply WC.ret | apply WX.e_block | refine WX.e_other rfl ?_ | apply WX.e_then | apply WX.e_again | apply WX.n_block | apply WX.r_then | apply WX.r_block | apply WX.r_again | refine WC.cond_yes rfl ?_ | refine WC.cond_no rfl ?_ | refine WC.cond rfl (fun hc => ?_) (fun hc => ?_) | refine WC.cond_b rfl (fun hc => ?_) (fun hc => ?_))
  refine WL.load rfl (hr (a >>> 4) h4) rfl ?_
  have hl := redL_lt (a >>> 4)
  repeat' (first | apply WL.fold | apply WA.fold | apply WL.nil | apply WX.n_then | apply WC.seq | apply WC.region | refine WL.pa ?_ | refine WL.ga rfl ?_ | refine WL.na rfl ?_ | refine WL.nu rfl rfl ?_ | apply WC.block | apply WC.skip | apply WC.exit | apply WC.ret | apply WX.e_block | refine WX.e_other rfl ?_ | apply WX.e_then | apply WX.e_again | apply WX.n_block | apply WX.r_then | apply WX.r_block | apply WX.r_again | refine WC.cond_yes rfl ?_ | refine WC.cond_no rfl ?_ | refine WC.cond rfl (fun hc => ?_) (fun hc => ?_) | refine WC.cond_b rfl (fun hc => ?_) (fun hc => ?_))
  exact WX.ret1 rfl rfl ⟨rfl, rfl⟩

def isNum (n : Int) : Prop := 0 ≤ n ∧ n ≤ 255
instance (n : Int) : Decidable (isNum n) := inferInstanceAs (Decidable (0 ≤ n ∧ n ≤ 255))
def mulI (a b : Int) : Int := if isNum a ∧ isNum b then ((mulN a.toNat b.toNat : Nat) : Int) else 0
theorem mul_no (a b : Int) (h : ¬ (isNum a ∧ isNum b)) (w : World) : Fn Tryd.prog 14 #[.int .i64 a, .int .i64 b] w fun v w' => v = .int .i64 0 ∧ w = w' := by
  refine enter (l := [.int .i64 a, .int .i64 b]) rfl Tryd.ntmps14 rfl ?_
  repeat' (first | apply WL.fold | apply WA.fold | apply WL.nil | apply WX.n_then | apply WC.seq | apply WC.region | refine WL.pa ?_ | refine WL.ga rfl ?_ | refine WL.na rfl ?_ | refine WL.nu rfl rfl ?_ | apply WC.block | apply WC.skip | apply WC.exit | apply WC.ret | apply WX.e_block | refine WX.e_other rfl ?_ | apply WX.e_then | apply WX.e_again | apply WX.n_block | apply WX.r_then | apply WX.r_block | apply WX.r_again | refine WC.cond_yes rfl ?_ | refine WC.cond_no rfl ?_ | refine WC.cond rfl (fun hc => ?_) (fun hc => ?_) | refine WC.cond_b rfl (fun hc => ?_) (fun hc => ?_))
  refine WL.call rfl rfl (isNumber_fn a w) ?_
  rintro _ _ ⟨rfl, rfl⟩
  by_cases h1 : 0 ≤ a ∧ a ≤ 255
  · have h2 : ¬ (0 ≤ b ∧ b ≤ 255) := fun h2 => h ⟨h1, h2⟩
    repeat' (first | apply WL.fold | apply WA.fold | apply WL.nil | apply WX.n_then | apply WC.seq | apply WC.region | refine WL.pa ?_ | refine WL.ga rfl ?_ | refine WL.na rfl ?_ | refine WL.nu rfl rfl ?_ | apply WC.block | apply WC.skip | apply WC.exit | apply WC.ret | apply WX.e_block | refine WX.e_other rfl ?_ | apply WX.e_then | apply WX.e_again | apply WX.n_block | apply WX.r_then | apply WX.r_block | apply WX.r_again | refine WC.cond_yes rfl ?_ | refine WC.cond_no rfl ?_ | refine WC.cond rfl (fun hc => ?_) (fun hc => ?_) | refine WC.cond_b rfl (fun hc => ?_) (fun hc => ?_))
    refine WL.call rfl rfl (isNumber_fn b _) ?_
    rintro _ _ ⟨rfl, rfl⟩
    repeat' (first | apply WL.fold | apply WA.fold | apply WL.nil | apply WX.n_then | apply WC.seq | apply WC.region | refine WL.pa ?_ | refine WL.ga rfl ?_ | refine WL.na rfl ?_ | refine WL.nu rfl rfl ?_ | apply WC.block | apply WC.skip | apply WC.exit | apply WC.ret | apply WX.e_block | refine WX.e_other rfl ?_ | apply WX.e_then | apply WX.e_again | apply WX.n_block | apply WX.r_then | apply WX.r_block | apply WX.r_again | refine WC.cond_yes rfl ?_ | refine WC.cond_no rfl ?_ | refine WC.cond rfl (fun hc => ?_) (fun hc => ?_) | refine WC.cond_b rfl (fun hc => ?_) (fun hc => ?_))
    exact WX.ret1 rfl rfl ⟨rfl, rfl⟩
  · repeat' (first | apply WL.fold | apply WA.fold | apply WL.nil | apply WX.n_then | apply WC.seq | apply WC.region | refine WL.pa ?_ | refine WL.ga rfl ?_ | refine WL.na rfl ?_ | refine WL.nu rfl rfl ?_ | apply WC.block | apply WC.skip | apply WC.exit | apply WC.ret | apply WX.e_block | refine WX.e_other rfl ?_ | apply WX.e_then | apply WX.e_again | apply WX.n_block | apply WX.r_then | apply WX.r_block | apply WX.r_again | refine WC.cond_yes rfl ?_ | refine WC.cond_no rfl ?_ | refine WC.cond rfl (fun hc => ?_) (fun hc => ?_) | refine WC.cond_b rfl (fun hc => ?_) (fun hc => ?_))
    exact WX.ret1 rfl rfl ⟨rfl, rfl⟩
theorem mul_yes (a b : Nat) (ha : a < 256) (hb : b < 256) (w : World) (hr : Red w) : Fn Tryd.prog 14 #[.int .i64 (a : Int), .int .i64 (b : Int)] w fun v w' => v = .int .i64 ((mulN a b : Nat) : Int) ∧ w = w' := by
  refine enter (l := [.int .i64 a, .int .i64 b]) rfl Tryd.ntmps14 rfl ?_
  have h1 : 0 ≤ (a : Int) ∧ (a : Int) ≤ 255 := by omega
  have h2 : 0 ≤ (b : Int) ∧ (b : Int) ≤ 255 := by omega
  have h3 : b &&& 15 < 16 := Nat.lt_of_le_of_lt Nat.and_le_right (by omega)
  have h4 : b >>> 4 < 16 := by rw [Nat.shiftRight_eq_div_pow]; omega
  have f1 := fewN_lt (a := a) (b := b &&& 15)
  have f2 := fewN_lt (a := a) (b := b >>> 4)
  have f3 := sixteenN_lt (a := fewN a (b >>> 4))
  repeat' (first | apply WL.fold | apply WA.fold | apply WL.nil | apply WX.n_then | apply WC.seq | apply WC.region | refine WL.pa ?_ | refine WL.ga rfl ?_ | refine WL.na rfl ?_ | refine WL.nu rfl rfl ?_ | apply WC.block | apply WC.skip | apply WC.exit | apply WC.ret | apply WX.e_block | refine WX.e_other rfl ?_ | apply WX.e_then | apply WX.e_again | apply WX.n_block | apply WX.r_then | apply WX.r_block | apply WX.r_again | refine WC.cond_yes rfl ?_ | refine WC.cond_no rfl ?_ | refine WC.cond rfl (fun hc => ?_) (fun hc => ?_) | refine WC.cond_b rfl (fun hc => ?_) (fun hc => ?_))
  refine WL.call rfl rfl (isNumber_fn a w) ?_
  rintro _ _ ⟨rfl, rfl⟩
  repeat' (first | apply WL.fold | apply WA.fold | apply WL.nil | apply WX.n_then | apply WC.seq | apply WC.region | refine WL.pa ?_ | refine WL.ga rfl ?_ | refine WL.na rfl ?_ | refine WL.nu rfl rfl ?_ | apply WC.block | apply WC.skip | apply WC.exit | apply WC.ret | apply WX.e_block | refine WX.e_other rfl ?_ | apply WX.e_then | apply WX.e_again | apply WX.n_block | apply WX.r_then | apply WX.r_block | apply WX.r_again | refine WC.cond_yes rfl ?_ | refine WC.cond_no rfl ?_ | refine WC.cond rfl (fun hc => ?_) (fun hc => ?_) | refine WC.cond_b rfl (fun hc => ?_) (fun hc => ?_))
  refine WL.call rfl rfl (isNumber_fn b _) ?_
  rintro _ _ ⟨rfl, rfl⟩
  repeat' (first | apply WL.fold | apply WA.fold | apply WL.nil | apply WX.n_then | apply WC.seq | apply WC.region | refine WL.pa ?_ | refine WL.ga rfl ?_ | refine WL.na rfl ?_ | refine WL.nu rfl rfl ?_ | apply WC.block | apply WC.skip | apply WC.exit | apply WC.ret | apply WX.e_block | refine WX.e_other rfl ?_ | apply WX.e_then | apply WX.e_again | apply WX.n_block | apply WX.r_then | apply WX.r_block | apply WX.r_again | refine WC.cond_yes rfl ?_ | refine WC.cond_no rfl ?_ | refine WC.cond rfl (fun hc => ?_) (fun hc => ?_) | refine WC.cond_b rfl (fun hc => ?_) (fun hc => ?_))
  refine WL.call rfl rfl (few_fn a (b &&& 15) ha h3 _ hr) ?_
  rintro _ _ ⟨rfl, rfl⟩
  repeat' (first | apply WL.fold | apply WA.fold | apply WL.nil | apply WX.n_then | apply WC.seq | apply WC.region | refine WL.pa ?_ | refine WL.ga rfl ?_ | refine WL.na rfl ?_ | refine WL.nu rfl rfl ?_ | apply WC.block | apply WC.skip | apply WC.exit | apply WC.ret | apply WX.e_block | refine WX.e_other rfl ?_ | apply WX.e_then | apply WX.e_again | apply WX.n_block | apply WX.r_then | apply WX.r_block | apply WX.r_again | refine WC.cond_yes rfl ?_ | refine WC.cond_no rfl ?_ | refine WC.cond rfl (fun hc => ?_) (fun hc => ?_) | refine WC.cond_b rfl (fun hc => ?_) (fun hc => ?_))
  refine WL.call rfl rfl (few_fn a (b >>> 4) ha h4 _ hr) ?_
  rintro _ _ ⟨rfl, rfl⟩
  repeat' (first | apply WL.fold | apply WA.fold | apply WL.nil | apply WX.n_then | apply WC.seq | apply WC.region | refine WL.pa ?_ | refine WL.ga rfl ?_ | refine WL.na rfl ?_ | refine WL.nu rfl rfl ?_ | apply WC.block | apply WC.skip | apply WC.exit | apply WC.ret | apply WX.e_block | refine WX.e_other rfl ?_ | apply WX.e_then | apply WX.e_again | apply WX.n_block | apply WX.r_then | apply WX.r_block | apply WX.r_again | refine WC.cond_yes rfl ?_ | refine WC.cond_no rfl ?_ | refine WC.cond rfl (fun hc => ?_) (fun hc => ?_) | refine WC.cond_b rfl (fun hc => ?_) (fun hc => ?_))
  refine WL.call rfl rfl (sixteen_fn _ f2 _ hr) ?_
  rintro _ _ ⟨rfl, rfl⟩
  repeat' (first | apply WL.fold | apply WA.fold | apply WL.nil | apply WX.n_then | apply WC.seq | apply WC.region | refine WL.pa ?_ | refine WL.ga rfl ?_ | refine WL.na rfl ?_ | refine WL.nu rfl rfl ?_ | apply WC.block | apply WC.skip | apply WC.exit | apply WC.ret | apply WX.e_block | refine WX.e_other rfl ?_ | apply WX.e_then | apply WX.e_again | apply WX.n_block | apply WX.r_then | apply WX.r_block | apply WX.r_again | refine WC.cond_yes rfl ?_ | refine WC.cond_no rfl ?_ | refine WC.cond rfl (fun hc => ?_) (fun hc => ?_) | refine WC.cond_b rfl (fun hc => ?_) (fun hc => ?_))
  exact WX.ret1 rfl rfl ⟨rfl, rfl⟩
theorem mul_fn (a b : Int) (w : World) (hr : Red w) : Fn Tryd.prog 14 #[.int .i64 a, .int .i64 b] w fun v w' => v = .int .i64 (mulI a b) ∧ w = w' := by
  by_cases h : isNum a ∧ isNum b
  · obtain ⟨⟨h1, h2⟩, h3, h4⟩ := h
    obtain ⟨a, rfl⟩ := Int.eq_ofNat_of_zero_le h1
    obtain ⟨b, rfl⟩ := Int.eq_ofNat_of_zero_le h3
    refine (mul_yes a b (by omega) (by omega) w hr).mono ?_
    rintro _ _ ⟨rfl, rfl⟩
    refine ⟨?_, rfl⟩
    rw [mulI, if_pos ⟨⟨h1, h2⟩, h3, h4⟩]; rfl
  · refine (mul_no a b h w).mono ?_
    rintro _ _ ⟨rfl, rfl⟩
    exact ⟨by rw [mulI, if_neg h], rfl⟩

theorem inverse_no (a : Int) (h : ¬ isNum a) (w : World) : Fn Tryd.prog 15 #[.int .i64 a] w fun v w' => v = .int .i64 0 ∧ w = w' := by
  refine enter (l := [.int .i64 a]) rfl Tryd.ntmps15 rfl ?_
  have h' : ¬ (0 ≤ a ∧ a ≤ 255) := h
  repeat' (first | apply WL.fold | apply WA.fold | apply WL.nil | apply WX.n_then | apply WC.seq | apply WC.region | refine WL.pa ?_ | refine WL.ga rfl ?_ | refine WL.na rfl ?_ | refine WL.nu rfl rfl ?_ | apply WC.block | apply WC.skip | apply WC.exit | apply WC.ret | apply WX.e_block | refine WX.e_other rfl ?_ | apply WX.e_then | apply WX.e_again | apply WX.n_block | apply WX.r_then | apply WX.r_block | apply WX.r_again | refine WC.cond_yes rfl ?_ | refine WC.cond_no rfl ?_ | refine WC.cond rfl (fun hc => ?_) (fun hc => ?_) | refine WC.cond_b rfl (fun hc => ?_) (fun hc => ?_))
  refine WL.call rfl rfl (isNumber_fn a w) ?_
  rintro _ _ ⟨rfl, rfl⟩
  repeat' (first | apply WL.fold | apply WA.fold | apply WL.nil | apply WX.n_then | apply WC.seq | apply WC.region | refine WL.pa ?_ | refine WL.ga rfl ?_ | refine WL.na rfl ?_ | refine WL.nu rfl rfl ?_ | apply WC.block | apply WC.skip | apply WC.exit | apply WC.ret | apply WX.e_block | refine WX.e_other rfl ?_ | apply WX.e_then | apply WX.e_again | apply WX.n_block | apply WX.r_then | apply WX.r_block | apply WX.r_again | refine WC.cond_yes rfl ?_ | refine WC.cond_no rfl ?_ | refine WC.cond rfl (fun hc => ?_) (fun hc => ?_) | refine WC.cond_b rfl (fun hc => ?_) (fun hc => ?_))
  exact WX.ret1 rfl rfl ⟨rfl, rfl⟩
theorem inverse_yes (a : Nat) (ha : a < 256) (w : World) (hr : Red w) : Fn Tryd.prog 15 #[.int .i64 (a : Int)] w fun v w' => v = .int .i64 ((invN a : Nat) : Int) ∧ w = w' := by
  refine enter (l := [.int .i64 a]) rfl Tryd.ntmps15 rfl ?_
  have h1 : 0 ≤ (a : Int) ∧ (a : Int) ≤ 255 := by omega
  repeat' (first | apply WL.fold | apply WA.fold | apply WL.nil | apply WX.n_then | apply WC.seq | apply WC.region | refine WL.pa ?_ | refine WL.ga rfl ?_ | refine WL.na rfl ?_ | refine WL.nu rfl rfl ?_ | apply WC.block | apply WC.skip | apply WC.exit | apply WC.ret | apply WX.e_block | refine WX.e_other rfl ?_ | apply WX.e_then | apply WX.e_again | apply WX.n_block | apply WX.r_then | apply WX.r_block | apply WX.r_again | refine WC.cond_yes rfl ?_ | refine WC.cond_no rfl ?_ | refine WC.cond rfl (fun hc => ?_) (fun hc => ?_) | refine WC.cond_b rfl (fun hc => ?_) (fun hc => ?_))
  refine WL.call rfl rfl (isNumber_fn a w) ?_
  rintro _ _ ⟨rfl, rfl⟩
  repeat' (first | apply WL.fold | apply WA.fold | apply WL.nil | apply WX.n_then | apply WC.seq | apply WC.region | refine WL.pa ?_ | refine WL.ga rfl ?_ | refine WL.na rfl ?_ | refine WL.nu rfl rfl ?_ | apply WC.block | apply WC.skip | apply WC.exit | apply WC.ret | apply WX.e_block | refine WX.e_other rfl ?_ | apply WX.e_then | apply WX.e_again | apply WX.n_block | apply WX.r_then | apply WX.r_block | apply WX.r_again | refine WC.cond_yes rfl ?_ | refine WC.cond_no rfl ?_ | refine WC.cond rfl (fun hc => ?_) (fun hc => ?_) | refine WC.cond_b rfl (fun hc => ?_) (fun hc => ?_))

  refine WC.loop (α := Nat) (fun i => [(3, .int .i64 (((invP a i).1 : Nat) : Int)), (4, .int .i64 (((invP a i).2 : Nat) : Int)), (9, .int .i64 (i : Int))])
    (fun i w' => i ≤ 7 ∧ w' = w) (fun i => 7 - i) 0 ⟨rfl, rfl, rfl, trivial⟩ ⟨by omega, rfl⟩ ?_
  rintro i w' ⟨hi, rfl⟩
  obtain ⟨hp1, hp2⟩ := invP_lt ha i
  by_cases hlt : i < 7
  · repeat' (first | apply WL.fold | apply WA.fold | apply WL.nil | apply WX.n_then | apply WC.seq | apply WC.region | refine WL.pa ?_ | refine WL.ga rfl ?_ | refine WL.na rfl ?_ | refine WL.nu rfl rfl ?_ | apply WC.block | apply WC.skip | apply WC.exit | apply WC.ret | apply WX.e_block | refine WX.e_other rfl ?_ | apply WX.e_then | apply WX.e_again | apply WX.n_block | apply WX.r_then | apply WX.r_block | apply WX.r_again | refine WC.cond_yes rfl ?_ | refine WC.cond_no rfl ?_ | refine WC.cond rfl (fun hc => ?_) (fun hc => ?_) | refine WC.cond_b rfl (fun hc => ?_) (fun hc => ?_))
    refine WL.call rfl rfl (mul_yes _ _ hp2 hp2 _ hr) ?_
    rintro _ _ ⟨rfl, rfl⟩
    repeat' (first | apply WL.fold | apply WA.fold | apply WL.nil | apply WX.n_then | apply WC.seq | apply WC.region | refine WL.pa ?_ | refine WL.ga rfl ?_ | refine WL.na rfl ?_ | refine WL.nu rfl rfl ?_ | apply WC.block | apply WC.skip | apply WC.exit | apply WC.ret | apply WX.e_block | refine WX.e_other rfl ?_ | apply WX.e_then | apply WX.e_again | apply WX.n_block | apply WX.r_then | apply WX.r_block | apply WX.r_again | refine WC.cond_yes rfl ?_ | refine WC.cond_no rfl ?_ | refine WC.cond rfl (fun hc => ?_) (fun hc => ?_) | refine WC.cond_b rfl (fun hc => ?_) (fun hc => ?_))
    refine WL.call rfl rfl (mul_yes _ _ hp1 mulN_lt _ hr) ?_
    rintro _ _ ⟨rfl, rfl⟩
    repeat' (first | apply WL.fold | apply WA.fold | apply WL.nil | apply WX.n_then | apply WC.seq | apply WC.region | refine WL.pa ?_ | refine WL.ga rfl ?_ | refine WL.na rfl ?_ | refine WL.nu rfl rfl ?_ | apply WC.block | apply WC.skip | apply WC.exit | apply WC.ret | apply WX.e_block | refine WX.e_other rfl ?_ | apply WX.e_then | apply WX.e_again | apply WX.n_block | apply WX.r_then | apply WX.r_block | apply WX.r_again | refine WC.cond_yes rfl ?_ | refine WC.cond_no rfl ?_ | refine WC.cond rfl (fun hc => ?_) (fun hc => ?_) | refine WC.cond_b rfl (fun hc => ?_) (fun hc => ?_))
    exact WX.again (i + 1) ⟨by omega, rfl⟩ (by omega) ⟨rfl, rfl, rfl, trivial⟩
  · obtain rfl : i = 7 := by omega
    repeat' (first | apply WL.fold | apply WA.fold | apply WL.nil | apply WX.n_then | apply WC.seq | apply WC.region | refine WL.pa ?_ | refine WL.ga rfl ?_ | refine WL.na rfl ?_ | refine WL.nu rfl rfl ?_ | apply WC.block | apply WC.skip | apply WC.exit | apply WC.ret | apply WX.e_block | refine WX.e_other rfl ?_ | apply WX.e_then | apply WX.e_again | apply WX.n_block | apply WX.r_then | apply WX.r_block | apply WX.r_again | refine WC.cond_yes rfl ?_ | refine WC.cond_no rfl ?_ | refine WC.cond rfl (fun hc => ?_) (fun hc => ?_) | refine WC.cond_b rfl (fun hc => ?_) (fun hc => ?_))
    exact WX.ret1 rfl rfl ⟨rfl, rfl⟩
end Go.Sx
/- Chapter 17: weights: the walks. -/
namespace Go.Sx
open Go Go.Proofs
attribute [local irreducible] WC WL WX POp Then Again Fn NX W1 WA WO QL RP RA Yld LoopAt
instance : Mixed Tryd.prog := ⟨by kernel_rfl⟩
abbrev iv (n : Nat) : Value := .int .i64 (n : Int)

def belK (nums : List Nat) (k : Nat) (j : Nat) : Nat := if j ∈ nums.take k then bel nums j else 0
def belKJ (nums : List Nat) (k j : Nat) (i : Nat) (q : Nat) : Nat := if q = i then (nums.take j).foldl (belS i) 1 else belK nums k q

theorem Red.ext {w w' : World} (h : Red w) (k : Ext w w') : Red w' := fun i hi => cell_ext k (h i hi)

theorem weights_fn (vn : Value) (nums : List Nat) (hne : nums ≠ []) (hn : ∀ i ∈ nums, i < 9) (w : World) (hr : Red w) (hl : nums.length ≤ 100) (hv : Rd w vn (nums.map iv)) :
    Fn Tryd.prog 18 #[vn] w fun v w' => ∃ b1 b2, v = .func (.func 36) #[] #[.pointer (some ⟨b1, 0, none⟩), .pointer (some ⟨b2, 0, none⟩)] ∧ Ext w w' ∧
      Blk w' b1 [vn] 38 ∧ Blk w' b2 (row 9 fun j => iv (belA nums j)) 48 := by
  obtain ⟨b0, off, c, rfl, hc, hb0, hcell⟩ := hv.at (by simpa using hne)
  simp only [List.length_map] at hc ⊢
  refine enter (l := [_]) rfl Tryd.ntmps18 rfl ?_
  repeat' (first | apply WL.fold | apply WA.fold | apply WL.nil | apply WX.n_then | apply WC.seq | apply WC.region | refine WL.pa ?_ | refine WL.ga rfl ?_ | refine WL.na rfl ?_ | refine WL.nu rfl rfl ?_ | apply WC.block | apply WC.skip | apply WC.exit | apply WC.ret | apply WX.e_block | refine WX.e_other rfl ?_ | apply WX.e_then | apply WX.e_again | apply WX.n_block | apply WX.r_then | apply WX.r_block | apply WX.r_again | refine WC.cond_yes rfl ?_ | refine WC.cond_no rfl ?_ | refine WC.cond rfl (fun hc => ?_) (fun hc => ?_) | refine WC.cond_b rfl (fun hc => ?_) (fun hc => ?_))
  refine WL.one (W1.box' rfl rfl rfl ?_)
  intro b1 w1 e1 s1 x1 k1
  repeat' (first | apply WL.fold | apply WA.fold | apply WL.nil | apply WX.n_then | apply WC.seq | apply WC.region | refine WL.pa ?_ | refine WL.ga rfl ?_ | refine WL.na rfl ?_ | refine WL.nu rfl rfl ?_ | apply WC.block | apply WC.skip | apply WC.exit | apply WC.ret | apply WX.e_block | refine WX.e_other rfl ?_ | apply WX.e_then | apply WX.e_again | apply WX.n_block | apply WX.r_then | apply WX.r_block | apply WX.r_again | refine WC.cond_yes rfl ?_ | refine WC.cond_no rfl ?_ | refine WC.cond rfl (fun hc => ?_) (fun hc => ?_) | refine WC.cond_b rfl (fun hc => ?_) (fun hc => ?_))
  refine WL.one (W1.alloc' (cs := row 9 fun _ => iv 0) rfl rfl ?_)
  intro b2 w2 e2 s2 x2 k2
  repeat' (first | apply WL.fold | apply WA.fold | apply WL.nil | apply WX.n_then | apply WC.seq | apply WC.region | refine WL.pa ?_ | refine WL.ga rfl ?_ | refine WL.na rfl ?_ | refine WL.nu rfl rfl ?_ | apply WC.block | apply WC.skip | apply WC.exit | apply WC.ret | apply WX.e_block | refine WX.e_other rfl ?_ | apply WX.e_then | apply WX.e_again | apply WX.n_block | apply WX.r_then | apply WX.r_block | apply WX.r_again | refine WC.cond_yes rfl ?_ | refine WC.cond_no rfl ?_ | refine WC.cond rfl (fun hc => ?_) (fun hc => ?_) | refine WC.cond_b rfl (fun hc => ?_) (fun hc => ?_))
  refine WL.load rfl ((k1.ext x2).cell rfl) rfl ?_
  repeat' (first | apply WL.fold | apply WA.fold | apply WL.nil | apply WX.n_then | apply WC.seq | apply WC.region | refine WL.pa ?_ | refine WL.ga rfl ?_ | refine WL.na rfl ?_ | refine WL.nu rfl rfl ?_ | apply WC.block | apply WC.skip | apply WC.exit | apply WC.ret | apply WX.e_block | refine WX.e_other rfl ?_ | apply WX.e_then | apply WX.e_again | apply WX.n_block | apply WX.r_then | apply WX.r_block | apply WX.r_again | refine WC.cond_yes rfl ?_ | refine WC.cond_no rfl ?_ | refine WC.cond rfl (fun hc => ?_) (fun hc => ?_) | refine WC.cond_b rfl (fun hc => ?_) (fun hc => ?_))
  refine WC.loop (α := Nat) (fun k => [(1, .pointer (some ⟨b1, 0, none⟩)), (3, .pointer (some ⟨b2, 0, none⟩)), (8, .slice (some ⟨b0, off, none⟩) nums.length c), (9, iv nums.length), (10, iv k)])
    (fun k w' => k ≤ nums.length ∧ Ext w w' ∧ Blk w' b1 [.slice (some ⟨b0, off, none⟩) nums.length c] 38 ∧ Blk w' b2 (row 9 fun j => iv (belK nums k j)) 48) (fun k => nums.length - k) 0
    ⟨rfl, rfl, rfl, rfl, rfl, trivial⟩ ⟨by omega, x1.trans x2, k1.ext x2, by simpa [belK] using k2⟩ ?_
  rintro k w' ⟨hk, hx, hB1, hB2⟩
  by_cases hlt : k < nums.length
  · have hi : nums[k] < 9 := hn _ (by simp)
    have hck : w'.cell? ⟨b0, off + k, none⟩ = some (iv nums[k]) := cell_ext hx (hcell k _ (by simp [hlt]))
    generalize hik : nums[k] = i at *
    repeat' (first | apply WL.fold | apply WA.fold | apply WL.nil | apply WX.n_then | apply WC.seq | apply WC.region | refine WL.pa ?_ | refine WL.ga rfl ?_ | refine WL.na rfl ?_ | refine WL.nu rfl rfl ?_ | apply WC.block | apply WC.skip | apply WC.exit | apply WC.ret | apply WX.e_block | refine WX.e_other rfl ?_ | apply WX.e_then | apply WX.e_again | apply WX.n_block | apply WX.r_then | apply WX.r_block | apply WX.r_again | refine WC.cond_yes rfl ?_ | refine WC.cond_no rfl ?_ | refine WC.cond rfl (fun hc => ?_) (fun hc => ?_) | refine WC.cond_b rfl (fun hc => ?_) (fun hc => ?_))
    refine WL.load rfl hck rfl ?_
    repeat' (first | apply WL.fold | apply WA.fold | apply WL.nil | apply WX.n_then | apply WC.seq | apply WC.region | refine WL.pa ?_ | refine WL.ga rfl ?_ | refine WL.na rfl ?_ | refine WL.nu rfl rfl ?_ | apply WC.block | apply WC.skip | apply WC.exit | apply WC.ret | apply WX.e_block | refine WX.e_other rfl ?_ | apply WX.e_then | apply WX.e_again | apply WX.n_block | apply WX.r_then | apply WX.r_block | apply WX.r_again | refine WC.cond_yes rfl ?_ | refine WC.cond_no rfl ?_ | refine WC.cond rfl (fun hc => ?_) (fun hc => ?_) | refine WC.cond_b rfl (fun hc => ?_) (fun hc => ?_))
    refine WL.one (W1.store' rfl rfl (by intro _ h; cases h) (by intro _ h; cases h) hB2 (by rw [row_len]; omega) ?_)
    intro w3 u3 hB3
    rw [row_set] at hB3
    have hne12 : b1 ≠ b2 := by omega
    have x3 : Ext w w3 := u3.ext hx (by omega)
    have hB1' := hB1.keep1 u3 hne12
    repeat' (first | apply WL.fold | apply WA.fold | apply WL.nil | apply WX.n_then | apply WC.seq | apply WC.region | refine WL.pa ?_ | refine WL.ga rfl ?_ | refine WL.na rfl ?_ | refine WL.nu rfl rfl ?_ | apply WC.block | apply WC.skip | apply WC.exit | apply WC.ret | apply WX.e_block | refine WX.e_other rfl ?_ | apply WX.e_then | apply WX.e_again | apply WX.n_block | apply WX.r_then | apply WX.r_block | apply WX.r_again | refine WC.cond_yes rfl ?_ | refine WC.cond_no rfl ?_ | refine WC.cond rfl (fun hc => ?_) (fun hc => ?_) | refine WC.cond_b rfl (fun hc => ?_) (fun hc => ?_))
    refine WL.load rfl (hB1'.cell rfl) rfl ?_
    repeat' (first | apply WL.fold | apply WA.fold | apply WL.nil | apply WX.n_then | apply WC.seq | apply WC.region | refine WL.pa ?_ | refine WL.ga rfl ?_ | refine WL.na rfl ?_ | refine WL.nu rfl rfl ?_ | apply WC.block | apply WC.skip | apply WC.exit | apply WC.ret | apply WX.e_block | refine WX.e_other rfl ?_ | apply WX.e_then | apply WX.e_again | apply WX.n_block | apply WX.r_then | apply WX.r_block | apply WX.r_again | refine WC.cond_yes rfl ?_ | refine WC.cond_no rfl ?_ | refine WC.cond rfl (fun hc => ?_) (fun hc => ?_) | refine WC.cond_b rfl (fun hc => ?_) (fun hc => ?_))
    refine WC.loop (α := Nat) (fun j => [(1, .pointer (some ⟨b1, 0, none⟩)), (3, .pointer (some ⟨b2, 0, none⟩)), (5, iv i), (8, .slice (some ⟨b0, off, none⟩) nums.length c), (9, iv nums.length), (10, iv k),
        (16, .slice (some ⟨b0, off, none⟩) nums.length c), (17, iv nums.length), (18, iv j)])
      (fun j w' => j ≤ nums.length ∧ Ext w w' ∧ Blk w' b1 [.slice (some ⟨b0, off, none⟩) nums.length c] 38 ∧ Blk w' b2 (row 9 fun q => iv (belKJ nums k j i q)) 48) (fun j => nums.length - j) 0
      ⟨rfl, rfl, rfl, rfl, rfl, rfl, rfl, rfl, rfl, trivial⟩ ⟨by omega, x3, hB1', ?_⟩ ?_
    · refine (congrArg (fun l => Blk w3 b2 l _) (row_congr fun q hq => ?_)).mp hB3
      unfold belKJ
      by_cases e : q = i <;> simp [e]
    clear hB3 x3 hB1' u3 w3 hx hB1 hB2 hck
    rintro j w' ⟨hj, hx, hB1, hB2⟩
    by_cases hjlt : j < nums.length
    · have hh : nums[j] < 9 := hn _ (by simp)
      have hcj : w'.cell? ⟨b0, off + j, none⟩ = some (iv nums[j]) := cell_ext hx (hcell j _ (by simp [hjlt]))
      have hstep : (nums.take (j + 1)).foldl (belS i) 1 = belS i ((nums.take j).foldl (belS i) 1) nums[j] := take_succ_foldl _ _ _ _ hjlt
      generalize hhj : nums[j] = h at *
      have hacc := belF_lt i (nums.take j) 1 (by decide)
      have hix : i ^^^ h < 256 := Nat.xor_lt_two_pow (n := 8) (by omega) (by omega)
      have hgi : (row 9 fun q => iv (belKJ nums k j i q))[i]? = some (iv ((nums.take j).foldl (belS i) 1)) := by rw [row_get _ hi]; simp [belKJ]
      repeat' (first | apply WL.fold | apply WA.fold | apply WL.nil | apply WX.n_then | apply WC.seq | apply WC.region | refine WL.pa ?_ | refine WL.ga rfl ?_ | refine WL.na rfl ?_ | refine WL.nu rfl rfl ?_ | apply WC.block | apply WC.skip | apply WC.exit | apply WC.ret | apply WX.e_block | refine WX.e_other rfl ?_ | apply WX.e_then | apply WX.e_again | apply WX.n_block | apply WX.r_then | apply WX.r_block | apply WX.r_again | refine WC.cond_yes rfl ?_ | refine WC.cond_no rfl ?_ | refine WC.cond rfl (fun hc => ?_) (fun hc => ?_) | refine WC.cond_b rfl (fun hc => ?_) (fun hc => ?_))
      refine WL.load rfl hcj rfl ?_
      repeat' (first | apply WL.fold | apply WA.fold | apply WL.nil | apply WX.n_then | apply WC.seq | apply WC.region | refine WL.pa ?_ | refine WL.ga rfl ?_ | refine WL.na rfl ?_ | refine WL.nu rfl rfl ?_ | apply WC.block | apply WC.skip | apply WC.exit | apply WC.ret | apply WX.e_block | refine WX.e_other rfl ?_ | apply WX.e_then | apply WX.e_again | apply WX.n_block | apply WX.r_then | apply WX.r_block | apply WX.r_again | refine WC.cond_yes rfl ?_ | refine WC.cond_no rfl ?_ | refine WC.cond rfl (fun hc => ?_) (fun hc => ?_) | refine WC.cond_b rfl (fun hc => ?_) (fun hc => ?_))
      · -- h is another number
        refine WC.any rfl (fun w4 x4 h4 => ?_)
        have hB2' := hB2.ext x4
        have hB1' := hB1.ext x4
        have hrd := (hr.ext hx).ext x4
        have fin : ∀ w5, Upd1 b2 w4 w5 → Blk w5 b2 ((row 9 fun q => iv (belKJ nums k j i q)).set i (iv (mulN ((nums.take j).foldl (belS i) 1) (invN (i ^^^ h))))) 48 →
            j + 1 ≤ nums.length ∧ Ext w w5 ∧ Blk w5 b1 [.slice (some ⟨b0, off, none⟩) nums.length c] 38 ∧ Blk w5 b2 (row 9 fun q => iv (belKJ nums k (j + 1) i q)) 48 := fun w5 u5 hB5 => by
          refine ⟨by omega, u5.ext (hx.trans x4) (by omega), hB1'.keep1 u5 hne12, ?_⟩
          rw [row_set] at hB5
          refine (congrArg (fun l => Blk w5 b2 l _) (row_congr fun q hq => ?_)).mp hB5
          unfold belKJ
          have hne' : ¬ h = i := by omega
          by_cases e : q = i
          · simp only [e, if_true, hstep, belS, if_neg hne']
          · simp only [e, if_false]
        refine WA.pa 0 rfl ?_
        refine WA.pa 1 rfl ?_
        refine WA.pa 2 rfl ?_
        refine WA.pa 4 rfl ?_
        refine WA.pa 5 rfl ?_
        refine WA.pa 6 rfl ?_
        refine WA.all [3, 7] (by kernel_rfl) rfl ⟨⟨_, rfl, ?_⟩, ⟨_, rfl, ?_⟩, trivial⟩
        · refine WO.one (W1.load rfl (hB2'.cell hgi) rfl ?_)
          apply WA.fold
          refine WA.all [7] (by kernel_rfl) rfl ⟨⟨_, rfl, ?_⟩, trivial⟩
          refine WO.one (W1.call rfl rfl (inverse_yes _ hix _ hrd) ?_)
          rintro _ _ ⟨rfl, rfl⟩
          apply WA.fold
          refine WA.all [8] (by kernel_rfl) rfl ⟨⟨_, rfl, ?_⟩, trivial⟩
          refine WO.one (W1.call rfl rfl (mul_yes _ _ hacc (invN_lt hix) _ hrd) ?_)
          rintro _ _ ⟨rfl, rfl⟩
          apply WA.fold
          refine WA.pa 9 rfl ?_
          refine WA.all [10] (by kernel_rfl) rfl ⟨⟨_, rfl, ?_⟩, trivial⟩
          refine WO.one (W1.store' rfl rfl (by intro _ h; cases h) (by intro _ h; cases h) hB2' (by rw [row_len]; omega) fun w5 u5 hB5 => ?_)
          apply WA.fold
          refine WA.done (by kernel_rfl) ?_
          repeat' (first | apply WL.fold | apply WA.fold | apply WL.nil | apply WX.n_then | apply WC.seq | apply WC.region | refine WL.pa ?_ | refine WL.ga rfl ?_ | refine WL.na rfl ?_ | refine WL.nu rfl rfl ?_ | apply WC.block | apply WC.skip | apply WC.exit | apply WC.ret | apply WX.e_block | refine WX.e_other rfl ?_ | apply WX.e_then | apply WX.e_again | apply WX.n_block | apply WX.r_then | apply WX.r_block | apply WX.r_again | refine WC.cond_yes rfl ?_ | refine WC.cond_no rfl ?_ | refine WC.cond rfl (fun hc => ?_) (fun hc => ?_) | refine WC.cond_b rfl (fun hc => ?_) (fun hc => ?_))
          exact WX.again (j + 1) (fin w5 u5 hB5) (by omega) ⟨rfl, rfl, rfl, rfl, rfl, rfl, rfl, rfl, rfl, trivial⟩
        · refine WO.one (W1.call rfl rfl (inverse_yes _ hix _ hrd) ?_)
          rintro _ _ ⟨rfl, rfl⟩
          apply WA.fold
          refine WA.all [3] (by kernel_rfl) rfl ⟨⟨_, rfl, ?_⟩, trivial⟩
          refine WO.one (W1.load rfl (hB2'.cell hgi) rfl ?_)
          apply WA.fold
          refine WA.all [8] (by kernel_rfl) rfl ⟨⟨_, rfl, ?_⟩, trivial⟩
          refine WO.one (W1.call rfl rfl (mul_yes _ _ hacc (invN_lt hix) _ hrd) ?_)
          rintro _ _ ⟨rfl, rfl⟩
          apply WA.fold
          refine WA.pa 9 rfl ?_
          refine WA.all [10] (by kernel_rfl) rfl ⟨⟨_, rfl, ?_⟩, trivial⟩
          refine WO.one (W1.store' rfl rfl (by intro _ h; cases h) (by intro _ h; cases h) hB2' (by rw [row_len]; omega) fun w5 u5 hB5 => ?_)
          apply WA.fold
          refine WA.done (by kernel_rfl) ?_
          repeat' (first | apply WL.fold | apply WA.fold | apply WL.nil | apply WX.n_then | apply WC.seq | apply WC.region | refine WL.pa ?_ | refine WL.ga rfl ?_ | refine WL.na rfl ?_ | refine WL.nu rfl rfl ?_ | apply WC.block | apply WC.skip | apply WC.exit | apply WC.ret | apply WX.e_block | refine WX.e_other rfl ?_ | apply WX.e_then | apply WX.e_again | apply WX.n_block | apply WX.r_then | apply WX.r_block | apply WX.r_again | refine WC.cond_yes rfl ?_ | refine WC.cond_no rfl ?_ | refine WC.cond rfl (fun hc => ?_) (fun hc => ?_) | refine WC.cond_b rfl (fun hc => ?_) (fun hc => ?_))
          exact WX.again (j + 1) (fin w5 u5 hB5) (by omega) ⟨rfl, rfl, rfl, rfl, rfl, rfl, rfl, rfl, rfl, trivial⟩
      · have e : h = i := by omega
        refine WX.again (j + 1) ⟨by omega, hx, hB1, ?_⟩ (by omega) ⟨rfl, rfl, rfl, rfl, rfl, rfl, rfl, rfl, rfl, trivial⟩
        refine (congrArg (fun l => Blk w' b2 l _) (row_congr fun q hq => ?_)).mp hB2
        unfold belKJ
        rw [hstep, belS, if_pos e]
    · obtain rfl : j = nums.length := by omega
      repeat' (first | apply WL.fold | apply WA.fold | apply WL.nil | apply WX.n_then | apply WC.seq | apply WC.region | refine WL.pa ?_ | refine WL.ga rfl ?_ | refine WL.na rfl ?_ | refine WL.nu rfl rfl ?_ | apply WC.block | apply WC.skip | apply WC.exit | apply WC.ret | apply WX.e_block | refine WX.e_other rfl ?_ | apply WX.e_then | apply WX.e_again | apply WX.n_block | apply WX.r_then | apply WX.r_block | apply WX.r_again | refine WC.cond_yes rfl ?_ | refine WC.cond_no rfl ?_ | refine WC.cond rfl (fun hc => ?_) (fun hc => ?_) | refine WC.cond_b rfl (fun hc => ?_) (fun hc => ?_))
      refine WX.again (k + 1) ⟨by omega, hx, hB1, ?_⟩ (by omega) ⟨rfl, rfl, rfl, rfl, rfl, trivial⟩
      refine (congrArg (fun l => Blk w' b2 l _) (row_congr fun q hq => ?_)).mp hB2
      unfold belKJ belK
      rw [List.take_length, List.take_succ_eq_append_getElem hlt, hik]
      by_cases e : q = i
      · subst e; simp [bel]
      · simp [e]
  · obtain rfl : k = nums.length := by omega
    repeat' (first | apply WL.fold | apply WA.fold | apply WL.nil | apply WX.n_then | apply WC.seq | apply WC.region | refine WL.pa ?_ | refine WL.ga rfl ?_ | refine WL.na rfl ?_ | refine WL.nu rfl rfl ?_ | apply WC.block | apply WC.skip | apply WC.exit | apply WC.ret | apply WX.e_block | refine WX.e_other rfl ?_ | apply WX.e_then | apply WX.e_again | apply WX.n_block | apply WX.r_then | apply WX.r_block | apply WX.r_again | refine WC.cond_yes rfl ?_ | refine WC.cond_no rfl ?_ | refine WC.cond rfl (fun hc => ?_) (fun hc => ?_) | refine WC.cond_b rfl (fun hc => ?_) (fun hc => ?_))
    refine WX.ret1 rfl rfl ⟨b1, b2, rfl, hx, hB1, ?_⟩
    simpa [belK, belA] using hB2
end Go.Sx

