/- Chapter 17: the numbers: the walks. -/
import Derived.Test.YtionfblneloaiaaGreatDoorQB08
namespace Go.Sx
open Go Go.Proofs
attribute [local irreducible] WC WL WX POp Then Again Fn NX W1 WA WO QL RP RA Yld LoopAt
/-- The table of package code. -/
def Red (w : World) : Prop := ∀ i : Nat, i < 16 → w.cell? ⟨3, i, none⟩ = some (.int .i64 ((redL.getD i 0 : Nat) : Int))

theorem isNumber_fn (n : Int) (w : World) : Fn Tryz.prog 172 #[.int .i64 n] w fun v w' => v = .bool (decide (0 ≤ n ∧ n ≤ 255)) ∧ w = w' := by
  refine enter (l := [.int .i64 n]) rfl Tryz.ntmps172 rfl ?_
  by_cases h0 : 0 ≤ n <;> by_cases h1 : n ≤ 255
  all_goals
    repeat' (first | apply WL.fold | apply WA.fold | apply WL.nil | apply WX.n_then | apply WC.seq | apply WC.region | refine WL.pa ?_ | refine WL.ga rfl ?_ | refine WL.na rfl ?_ | refine WL.nu rfl rfl ?_ | apply WC.block | apply WC.skip | apply WC.exit | apply WC.ret | apply WX.e_block | refine WX.e_other rfl ?_ | apply WX.e_then | apply WX.e_again | apply WX.n_block | apply WX.r_then | apply WX.r_block | apply WX.r_again | refine WC.cond_yes rfl ?_ | refine WC.cond_no rfl ?_ | refine WC.cond rfl (fun hc => ?_) (fun hc => ?_) | refine WC.cond_b rfl (fun hc => ?_) (fun hc => ?_))
  all_goals exact WX.ret1 rfl rfl ⟨by simp [h0, h1], rfl⟩

theorem few_fn (a b : Nat) (ha : a < 256) (hb : b < 16) (w : World) (hr : Red w) :
    Fn Tryz.prog 173 #[.int .i64 (a : Int), .int .i64 (b : Int)] w fun v w' => v = .int .i64 ((fewN a b : Nat) : Int) ∧ w = w' := by
  refine enter (l := [.int .i64 a, .int .i64 b]) rfl Tryz.ntmps173 rfl ?_
  repeat' (first | apply WL.fold | apply WA.fold | apply WL.nil | apply WX.n_then | apply WC.seq | apply WC.region | refine WL.pa ?_ | refine WL.ga rfl ?_ | refine WL.na rfl ?_ | refine WL.nu rfl rfl ?_ | apply WC.block | apply WC.skip | apply WC.exit | apply WC.ret | apply WX.e_block | refine WX.e_other rfl ?_ | apply WX.e_then | apply WX.e_again | apply WX.n_block | apply WX.r_then | apply WX.r_block | apply WX.r_again | refine WC.cond_yes rfl ?_ | refine WC.cond_no rfl ?_ | refine WC.cond rfl (fun hc => ?_) (fun hc => ?_) | refine WC.cond_b rfl (fun hc => ?_) (fun hc => ?_))
  refine WC.loop (α := Nat) (fun i => [(0, .int .i64 (a : Int)), (1, .int .i64 (b : Int)), (5, .int .i64 ((fewP a b i : Nat) : Int)), (7, .int .i64 (i : Int))])
    (fun i w' => i ≤ 4 ∧ w' = w) (fun i => 4 - i) 0 ⟨rfl, rfl, rfl, rfl, trivial⟩ ⟨by omega, rfl⟩ ?_
  rintro i w' ⟨hi, rfl⟩
  have hp := fewP_lt (b := b) ha i hi
  by_cases hlt : i < 4
  · have hs : a <<< i < 9223372036854775808 := shl_lt (k := 8) (n := 63) ha (by omega)
    repeat' (first | apply WL.fold | apply WA.fold | apply WL.nil | apply WX.n_then | apply WC.seq | apply WC.region | refine WL.pa ?_ | refine WL.ga rfl ?_ | refine WL.na rfl ?_ | refine WL.nu rfl rfl ?_ | apply WC.block | apply WC.skip | apply WC.exit | apply WC.ret | apply WX.e_block | refine WX.e_other rfl ?_ | apply WX.e_then | apply WX.e_again | apply WX.n_block | apply WX.r_then | apply WX.r_block | apply WX.r_again | refine WC.cond_yes rfl ?_ | refine WC.cond_no rfl ?_ | refine WC.cond rfl (fun hc => ?_) (fun hc => ?_) | refine WC.cond_b rfl (fun hc => ?_) (fun hc => ?_))
    · have hc' : (b >>> i) &&& 1 = 1 := by omega
      refine WX.again (i + 1) ⟨by omega, rfl⟩ (by omega) ⟨rfl, rfl, ?_, rfl, trivial⟩
      simp only [fewP, hc', if_true]; rfl
    · have hc' : ¬ (b >>> i) &&& 1 = 1 := by omega
      refine WX.again (i + 1) ⟨by omega, rfl⟩ (by omega) ⟨rfl, rfl, ?_, rfl, trivial⟩
      simp only [fewP, hc', if_false]; rfl
  · obtain rfl : i = 4 := by omega
    have h8 : fewP a b 4 >>> 8 < 16 := by rw [Nat.shiftRight_eq_div_pow]; omega
    repeat' (first | apply WL.fold | apply WA.fold | apply WL.nil | apply WX.n_then | apply WC.seq | apply WC.region | refine WL.pa ?_ | refine WL.ga rfl ?_ | refine WL.na rfl ?_ | refine WL.nu rfl rfl ?_ | apply WC.block | apply WC.skip | apply WC.exit | apply WC.ret | apply WX.e_block | refine WX.e_other rfl ?_ | apply WX.e_then | apply WX.e_again | apply WX.n_block | apply WX.r_then | apply WX.r_block | apply WX.r_again | refine WC.cond_yes rfl ?_ | refine WC.cond_no rfl ?_ | refine WC.cond rfl (fun hc => ?_) (fun hc => ?_) | refine WC.cond_b rfl (fun hc => ?_) (fun hc => ?_))
    refine WL.load rfl (hr (fewP a b 4 >>> 8) h8) rfl ?_
    have hl := redL_lt (fewP a b 4 >>> 8)
    repeat' (first | apply WL.fold | apply WA.fold | apply WL.nil | apply WX.n_then | apply WC.seq | apply WC.region | refine WL.pa ?_ | refine WL.ga rfl ?_ | refine WL.na rfl ?_ | refine WL.nu rfl rfl ?_ | apply WC.block | apply WC.skip | apply WC.exit | apply WC.ret | apply WX.e_block | refine WX.e_other rfl ?_ | apply WX.e_then | apply WX.e_again | apply WX.n_block | apply WX.r_then | apply WX.r_block | apply WX.r_again | refine WC.cond_yes rfl ?_ | refine WC.cond_no rfl ?_ | refine WC.cond rfl (fun hc => ?_) (fun hc => ?_) | refine WC.cond_b rfl (fun hc => ?_) (fun hc => ?_))
    exact WX.ret1 rfl rfl ⟨rfl, rfl⟩

theorem sixteen_fn (a : Nat) (ha : a < 256) (w : World) (hr : Red w) : Fn Tryz.prog 174 #[.int .i64 (a : Int)] w fun v w' => v = .int .i64 ((sixteenN a : Nat) : Int) ∧ w = w' := by
  refine enter (l := [.int .i64 a]) rfl Tryz.ntmps174 rfl ?_
  have h4 : a >>> 4 < 16 := by rw [Nat.shiftRight_eq_div_pow]; omega
  have hs : a <<< 4 < 9223372036854775808 := shl_lt (k := 8) (n := 63) ha (by omega)
  repeat' (first | apply WL.fold | apply WA.fold | apply WL.nil | apply WX.n_then | apply WC.seq | apply WC.region | refine WL.pa ?_ | refine WL.ga rfl ?_ | refine WL.na rfl ?_ | refine WL.nu rfl rfl ?_ | apply WC.block | apply WC.skip | apply WC.exit | apply WC.ret | apply WX.e_block | refine WX.e_other rfl ?_ | apply WX.e_then | apply WX.e_again | apply WX.n_block | apply WX.r_then | apply WX.r_block | apply WX.r_again | refine WC.cond_yes rfl ?_ | refine WC.cond_no rfl ?_ | refine WC.cond rfl (fun hc => ?_) (fun hc => ?_) | refine WC.cond_b rfl (fun hc => ?_) (fun hc => ?_))
  refine WL.load rfl (hr (a >>> 4) h4) rfl ?_
  have hl := redL_lt (a >>> 4)
  repeat' (first | apply WL.fold | apply WA.fold | apply WL.nil | apply WX.n_then | apply WC.seq | apply WC.region | refine WL.pa ?_ | refine WL.ga rfl ?_ | refine WL.na rfl ?_ | refine WL.nu rfl rfl ?_ | apply WC.block | apply WC.skip | apply WC.exit | apply WC.ret | apply WX.e_block | refine WX.e_other rfl ?_ | apply WX.e_then | apply WX.e_again | apply WX.n_block | apply WX.r_then | apply WX.r_block | apply WX.r_again | refine WC.cond_yes rfl ?_ | refine WC.cond_no rfl ?_ | refine WC.cond rfl (fun hc => ?_) (fun hc => ?_) | refine WC.cond_b rfl (fun hc => ?_) (fun hc => ?_))
  exact WX.ret1 rfl rfl ⟨rfl, rfl⟩

def isNum (n : Int) : Prop := 0 ≤ n ∧ n ≤ 255
instance (n : Int) : Decidable (isNum n) := inferInstanceAs (Decidable (0 ≤ n ∧ n ≤ 255))
def mulI (a b : Int) : Int := if isNum a ∧ isNum b then ((mulN a.toNat b.toNat : Nat) : Int) else 0
theorem mul_yes (a b : Nat) (ha : a < 256) (hb : b < 256) (w : World) (hr : Red w) : Fn Tryz.prog 135 #[.int .i64 (a : Int), .int .i64 (b : Int)] w fun v w' => v = .int .i64 ((mulN a b : Nat) : Int) ∧ w = w' := by
  refine enter (l := [.int .i64 a, .int .i64 b]) rfl Tryz.ntmps135 rfl ?_
  have h1 : 0 ≤ (a : Int) ∧ (a : Int) ≤ 255 := by omega
  have h2 : 0 ≤ (b : Int) ∧ (b : Int) ≤ 255 := by omega
  have h3 : b &&& 15 < 16 := Nat.lt_of_le_of_lt Nat.and_le_right (by omega)
  have h4 : b >>> 4 < 16 := by rw [Nat.shiftRight_eq_div_pow]; omega
  have f1 := fewN_lt (a := a) (b := b &&& 15)
  have f2 := fewN_lt (a := a) (b := b >>> 4)
  have f3 := sixteenN_lt (a := fewN a (b >>> 4))
  repeat' (first | apply WL.fold | apply WA.fold | apply WL.nil | apply WX.n_then | apply WC.seq | apply WC.region | refine WL.pa ?_ | refine WL.ga rfl ?_ | refine WL.na rfl ?_ | refine WL.nu rfl rfl ?_ | apply WC.block | apply WC.skip | apply WC.exit | apply WC.ret | apply WX.e_block | refine WX.e_other rfl ?_ | apply WX.e_then | apply WX.e_again | apply WX.n_block | apply WX.r_then | apply WX.r_block | apply WX.r_again | refine WC.cond_yes rfl ?_ | refine WC.cond_no rfl ?_ | refine WC.cond rfl (fun hc => ?_) (fun hc => ?_) | refine WC.cond_b rfl (fun hc => ?_) (fun hc => ?_))
  refine WL.call rfl rfl (isNumber_fn a w) ?_
  rintro _ _ ⟨rfl, rfl⟩
  repeat' (first | apply WL.fold | apply WA.fold | apply WL.nil | apply WX.n_then | apply WC.seq | apply WC.region | refine WL.pa ?_ | refine WL.ga rfl ?_ | refine WL.na rfl ?_ | refine WL.nu rfl rfl ?_ | apply WC.block | apply WC.skip | apply WC.exit | apply WC.ret | apply WX.e_block | refine WX.e_other rfl ?_ | apply WX.e_then | apply WX.e_again | apply WX.n_block | apply WX.r_then | apply WX.r_block | apply WX.r_again | refine WC.cond_yes rfl ?_ | refine WC.cond_no rfl ?_ | refine WC.cond rfl (fun hc => ?_) (fun hc => ?_) | refine WC.cond_b rfl (fun hc => ?_) (fun hc => ?_))
  refine WL.call rfl rfl (isNumber_fn b _) ?_
  rintro _ _ ⟨rfl, rfl⟩
  repeat' (first | apply WL.fold | apply WA.fold | apply WL.nil | apply WX.n_then | apply WC.seq | apply WC.region | refine WL.pa ?_ | refine WL.ga rfl ?_ | refine WL.na rfl ?_ | refine WL.nu rfl rfl ?_ | apply WC.block | apply WC.skip | apply WC.exit | apply WC.ret | apply WX.e_block | refine WX.e_other rfl ?_ | apply WX.e_then | apply WX.e_again | apply WX.n_block | apply WX.r_then | apply WX.r_block | apply WX.r_again | refine WC.cond_yes rfl ?_ | refine WC.cond_no rfl ?_ | refine WC.cond rfl (fun hc => ?_) (fun hc => ?_) | refine WC.cond_b rfl (fun hc => ?_) (fun hc => ?_))
  refine WL.call rfl rfl (few_fn a (b &&& 15) ha h3 _ hr) ?_
  rintro _ _ ⟨rfl, rfl⟩
  repeat' (first | apply WL.fold | apply WA.fold | apply WL.nil | apply WX.n_then | apply WC.seq | apply WC.region | refine WL.pa ?_ | refine WL.ga rfl ?_ | refine WL.na rfl ?_ | refine WL.nu rfl rfl ?_ | apply WC.block | apply WC.skip | apply WC.exit | apply WC.ret | apply WX.e_block | refine WX.e_other rfl ?_ | apply WX.e_then | apply WX.e_again | apply WX.n_block | apply WX.r_then | apply WX.r_block | apply WX.r_again | refine WC.cond_yes rfl ?_ | refine WC.cond_no rfl ?_ | refine WC.cond rfl (fun hc => ?_) (fun hc => ?_) | refine WC.cond_b rfl (fun hc => ?_) (fun hc => ?_))
  refine WL.call rfl rfl (few_fn a (b >>> 4) ha h4 _ hr) ?_
  rintro _ _ ⟨rfl, rfl⟩
  repeat' (first | apply WL.fold | apply WA.fold | apply WL.nil | apply WX.n_then | apply WC.seq | apply WC.region | refine WL.pa ?_ | refine WL.ga rfl ?_ | refine WL.na rfl ?_ | refine WL.nu rfl rfl ?_ | apply WC.block | apply WC.skip | apply WC.exit | apply WC.ret | apply WX.e_block | refine WX.e_other rfl ?_ | apply WX.e_then | apply WX.e_again | apply WX.n_block | apply WX.r_then | apply WX.r_block | apply WX.r_again | refine WC.cond_yes rfl ?_ | refine WC.cond_no rfl ?_ | refine WC.cond rfl (fun hc => ?_) (fun hc => ?_) | refine WC.cond_b rfl (fun hc => ?_) (fun hc => ?_))
  refine WL.call rfl rfl (sixteen_fn _ f2 _ hr) ?_
  rintro _ _ ⟨rfl, rfl⟩
  repeat' (first | apply WL.fold | apply WA.fold | apply WL.nil | apply WX.n_then | apply WC.seq | apply WC.region | refine WL.pa ?_ | refine WL.ga rfl ?_ | refine WL.na rfl ?_ | refine WL.nu rfl rfl ?_ | apply WC.block | apply WC.skip | apply WC.exit | apply WC.ret | apply WX.e_block | refine WX.e_other rfl ?_ | apply WX.e_then | apply WX.e_again | apply WX.n_block | apply WX.r_then | apply WX.r_block | apply WX.r_again | refine WC.cond_yes rfl ?_ | refine WC.cond_no rfl ?_ | refine WC.cond rfl (fun hc => ?_) (fun hc => ?_) | refine WC.cond_b rfl (fun hc => ?_) (fun hc => ?_))
  exact WX.ret1 rfl rfl ⟨rfl, rfl⟩

theorem inverse_yes (a : Nat) (ha : a < 256) (w : World) (hr : Red w) : Fn Tryz.prog 136 #[.int .i64 (a : Int)] w fun v w' => v = .int .i64 ((invN a : Nat) : Int) ∧ w = w' := by
  refine enter (l := [.int .i64 a]) rfl Tryz.ntmps136 rfl ?_
  have h1 : 0 ≤ (a : Int) ∧ (a : Int) ≤ 255 := by omega
  repeat' (first | apply WL.fold | apply WA.fold | apply WL.nil | apply WX.n_then | apply WC.seq | apply WC.region | refine WL.pa ?_ | refine WL.ga rfl ?_ | refine WL.na rfl ?_ | refine WL.nu rfl rfl ?_ | apply WC.block | apply WC.skip | apply WC.exit | apply WC.ret | apply WX.e_block | refine WX.e_other rfl ?_ | apply WX.e_then | apply WX.e_again | apply WX.n_block | apply WX.r_then | apply WX.r_block | apply WX.r_again | refine WC.cond_yes rfl ?_ | refine WC.cond_no rfl ?_ | refine WC.cond rfl (fun hc => ?_) (fun hc => ?_) | refine WC.cond_b rfl (fun hc => ?_) (fun hc => ?_))
  refine WL.call rfl rfl (isNumber_fn a w) ?_
  rintro _ _ ⟨rfl, rfl⟩
  repeat' (first | apply WL.fold | apply WA.fold | apply WL.nil | apply WX.n_then | apply WC.seq | apply WC.region | refine WL.pa ?_ | refine WL.ga rfl ?_ | refine WL.na rfl ?_ | refine WL.nu rfl rfl ?_ | apply WC.block | apply WC.skip | apply WC.exit | apply WC.ret | apply WX.e_block | refine WX.e_other rfl ?_ | apply WX.e_then | apply WX.e_again | apply WX.n_block | apply WX.r_then | apply WX.r_block | apply WX.r_again | refine WC.cond_yes rfl ?_ | refine WC.cond_no rfl ?_ | refine WC.cond rfl (fun hc => ?_) (fun hc => ?_) | refine WC.cond_b rfl (fun hc => ?_) (fun hc => ?_))

  refine WC.loop (α := Nat) (fun i => [(3, .int .i64 (((invP a i).1 : Nat) : Int)), (4, .int .i64 (((invP a i).2 : Nat) : Int)), (9, .int .i64 (i : Int))])
    (fun i w' => i ≤ 7 ∧ w' = w) (fun i => 7 - i) 0 ⟨rfl, rfl, rfl, trivial⟩ ⟨by omega, rfl⟩ ?_
  rintro i w' ⟨hi, rfl⟩
  obtain ⟨hp1, hp2⟩ := invP_lt ha i
  by_cases hlt : i < 7
  · repeat' (first | apply WL.fold | apply WA.fold | apply WL.nil | apply WX.n_then | apply WC.seq | apply WC.region | refine WL.pa ?_ | refine WL.ga rfl ?_ | refine WL.na rfl ?_ | refine WL.nu rfl rfl ?_ | apply WC.block | apply WC.skip | apply WC.exit | apply WC.ret | apply WX.e_block | refine WX.e_other rfl ?_ | apply WX.e_then | apply WX.e_again | apply WX.n_block | apply WX.r_then | apply WX.r_block | apply WX.r_again | refine WC.cond_yes rfl ?_ | refine WC.cond_no rfl ?_ | refine WC.cond rfl (fun hc => ?_) (fun hc => ?_) | refine WC.cond_b rfl (fun hc => ?_) (fun hc => ?_))
    refine WL.call rfl rfl (mul_yes _ _ hp2 hp2 _ hr) ?_
    rintro _ _ ⟨rfl, rfl⟩
    repeat' (first | apply WL.fold | apply WA.fold | apply WL.nil | apply WX.n_then | apply WC.seq | apply WC.region | refine WL.pa ?_ | refine WL.ga rfl ?_ | refine WL.na rfl ?_ | refine WL.nu rfl rfl ?_ | apply WC.block | apply WC.skip | apply WC.exit | apply WC.ret | apply WX.e_block | refine WX.e_other rfl ?_ | apply WX.e_then | apply WX.e_again | apply WX.n_block | apply WX.r_then | apply WX.r_block | apply WX.r_again | refine WC.cond_yes rfl ?_ | refine WC.cond_no rfl ?_ | refine WC.cond rfl (fun hc => ?_) (fun hc => ?_) | refine WC.cond_b rfl (fun hc => ?_) (fun hc => ?_))
    refine WL.call rfl rfl (mul_yes _ _ hp1 mulN_lt _ hr) ?_
    rintro _ _ ⟨rfl, rfl⟩
    repeat' (first | apply WL.fold | apply WA.fold | apply WL.nil | apply WX.n_then | apply WC.seq | apply WC.region | refine WL.pa ?_ | refine WL.ga rfl ?_ | refine WL.na rfl ?_ | refine WL.nu rfl rfl ?_ | apply WC.block | apply WC.skip | apply WC.exit | apply WC.ret | apply WX.e_block | refine WX.e_other rfl ?_ | apply WX.e_then | apply WX.e_again | apply WX.n_block | apply WX.r_then | apply WX.r_block | apply WX.r_again | refine WC.cond_yes rfl ?_ | refine WC.cond_no rfl ?_ | refine WC.cond rfl (fun hc => ?_) (fun hc => ?_) | refine WC.cond_b rfl (fun hc => ?_) (fun hc => ?_))
    exact WX.again (i + 1) ⟨by omega, rfl⟩ (by omega) ⟨rfl, rfl, rfl, trivial⟩
  · obtain rfl : i = 7 := by omega
    repeat' (first | apply WL.fold | apply WA.fold | apply WL.nil | apply WX.n_then | apply WC.seq | apply WC.region | refine WL.pa ?_ | refine WL.ga rfl ?_ | refine WL.na rfl ?_ | refine WL.nu rfl rfl ?_ | apply WC.block | apply WC.skip | apply WC.exit | apply WC.ret | apply WX.e_block | refine WX.e_other rfl ?_ | apply WX.e_then | apply WX.e_again | apply WX.n_block | apply WX.r_then | apply WX.r_block | apply WX.r_again | refine WC.cond_yes rfl ?_ | refine WC.cond_no rfl ?_ | refine WC.cond rfl (fun hc => ?_) (fun hc => ?_) | refine WC.cond_b rfl (fun hc => ?_) (fun hc => ?_))
    exact WX.ret1 rfl rfl ⟨rfl, rfl⟩
end Go.Sx
/- Chapter 17: weights: the walks. -/
namespace Go.Sx
open Go Go.Proofs
attribute [local irreducible] WC WL WX POp Then Again Fn NX W1 WA WO QL RP RA Yld LoopAt
instance : Mixed Tryz.prog := ⟨by kernel_rfl⟩
abbrev iv (n : Nat) : Value := .int .i64 (n : Int)

def belK (nums : List Nat) (k : Nat) (j : Nat) : Nat := if j ∈ nums.take k then bel nums j else 0
def belKJ (nums : List Nat) (k j : Nat) (i : Nat) (q : Nat) : Nat := if q = i then (nums.take j).foldl (belS i) 1 else belK nums k q

theorem Red.ext {w w' : World} (h : Red w) (k : Ext w w') : Red w' := fun i hi => cell_ext k (h i hi)

theorem weights_fn (vn : Value) (nums : List Nat) (hne : nums ≠ []) (hn : ∀ i ∈ nums, i < 9) (w : World) (hr : Red w) (hl : nums.length ≤ 100) (hv : Rd w vn (nums.map iv)) :
    Fn Tryz.prog 83 #[vn] w fun v w' => ∃ b1 b2, v = .func (.func 137) #[] #[.pointer (some ⟨b1, 0, none⟩), .pointer (some ⟨b2, 0, none⟩)] ∧ Ext w w' ∧
      Blk w' b1 [vn] 38 ∧ Blk w' b2 (row 9 fun j => iv (belA nums j)) 155 := by
  obtain ⟨b0, off, c, rfl, hc, hb0, hcell⟩ := hv.at (by simpa using hne)
  simp only [List.length_map] at hc ⊢
  refine enter (l := [_]) rfl Tryz.ntmps83 rfl ?_
  repeat' (first | apply WL.fold | apply WA.fold | apply WL.nil | apply WX.n_then | apply WC.seq | apply WC.region | refine WL.pa ?_ | refine WL.ga rfl ?_ | refine WL.na rfl ?_ | refine WL.nu rfl rfl ?_ | apply WC.block | apply WC.skip | apply WC.exit | apply WC.ret | apply WX.e_block | refine WX.e_other rfl ?_ | apply WX.e_then | apply WX.e_again | apply WX.n_block | apply WX.r_then | apply WX.r_block | apply WX.r_again | refine WC.cond_yes rfl ?_ | refine WC.cond_no rfl ?_ | refine WC.cond rfl (fun hc => ?_) (fun hc => ?_) | refine WC.cond_b rfl (fun hc => ?_) (fun hc => ?_))
  refine WL.one (W1.box' rfl rfl rfl ?_)
  intro b1 w1 e1 s1 x1 k1
  repeat' (first | apply WL.fold | apply WA.fold | apply WL.nil | apply WX.n_then | apply WC.seq | apply WC.region | refine WL.pa ?_ | refine WL.ga rfl ?_ | refine WL.na rfl ?_ | refine WL.nu rfl rfl ?_ | apply WC.block | apply WC.skip | apply WC.exit | apply WC.ret | apply WX.e_block | refine WX.e_other rfl ?_ | apply WX.e_then | apply WX.e_again | apply WX.n_block | apply WX.r_then | apply WX.r_block | apply WX.r_again | refine WC.cond_yes rfl ?_ | refine WC.cond_no rfl ?_ | refine WC.cond rfl (fun hc => ?_) (fun hc => ?_) | refine WC.cond_b rfl (fun hc => ?_) (fun hc => ?_))
  refine WL.one (W1.alloc' (cs := row 9 fun _ => iv 0) rfl rfl ?_)
  intro b2 w2 e2 s2 x2 k2
  repeat' (first | apply WL.fold | apply WA.fold | apply WL.nil | apply WX.n_then | apply WC.seq | apply WC.region | refine WL.pa ?_ | refine WL.ga rfl ?_ | refine WL.na rfl ?_ | refine WL.nu rfl rfl ?_ | apply WC.block | apply WC.skip | apply WC.exit | apply WC.ret | apply WX.e_block | refine WX.e_other rfl ?_ | apply WX.e_then | apply WX.e_again | apply WX.n_block | apply WX.r_then | apply WX.r_block | apply WX.r_again | refine WC.cond_yes rfl ?_ | refine WC.cond_no rfl ?_ | refine WC.cond rfl (fun hc => ?_) (fun hc => ?_) | refine WC.cond_b rfl (fun hc => ?_) (fun hc => ?_))
  refine WL.load rfl ((k1.ext x2).cell rfl) rfl ?_
  repeat' (first | apply WL.fold | apply WA.fold | apply WL.nil | apply WX.n_then | apply WC.seq | apply WC.region | refine WL.pa ?_ | refine WL.ga rfl ?_ | refine WL.na rfl ?_ | refine WL.nu rfl rfl ?_ | apply WC.block | apply WC.skip | apply WC.exit | apply WC.ret | apply WX.e_block | refine WX.e_other rfl ?_ | apply WX.e_then | apply WX.e_again | apply WX.n_block | apply WX.r_then | apply WX.r_block | apply WX.r_again | refine WC.cond_yes rfl ?_ | refine WC.cond_no rfl ?_ | refine WC.cond rfl (fun hc => ?_) (fun hc => ?_) | refine WC.cond_b rfl (fun hc => ?_) (fun hc => ?_))
  refine WC.loop (α := Nat) (fun k => [(1, .pointer (some ⟨b1, 0, none⟩)), (3, .pointer (some ⟨b2, 0, none⟩)), (8, .slice (some ⟨b0, off, none⟩) nums.length c), (9, iv nums.length), (10, iv k)])
    (fun k w' => k ≤ nums.length ∧ Ext w w' ∧ Blk w' b1 [.slice (some ⟨b0, off, none⟩) nums.length c] 38 ∧ Blk w' b2 (row 9 fun j => iv (belK nums k j)) 155) (fun k => nums.length - k) 0
    ⟨rfl, rfl, rfl, rfl, rfl, trivial⟩ ⟨by omega, x1.trans x2, k1.ext x2, by simpa [belK] using k2⟩ ?_
  rintro k w' ⟨hk, hx, hB1, hB2⟩
  by_cases hlt : k < nums.length
  · have hi : nums[k] < 9 := hn _ (by simp)
    have hck : w'.cell? ⟨b0, off + k, none⟩ = some (iv nums[k]) := cell_ext hx (hcell k _ (by simp [hlt]))
    generalize hik : nums[k] = i at *
    repeat' (first | apply WL.fold | apply WA.fold | apply WL.nil | apply WX.n_then | apply WC.seq | apply WC.region | refine WL.pa ?_ | refine WL.ga rfl ?_ | refine WL.na rfl ?_ | refine WL.nu rfl rfl ?_ | apply WC.block | apply WC.skip | apply WC.exit | apply WC.ret | apply WX.e_block | refine WX.e_other rfl ?_ | apply WX.e_then | apply WX.e_again | apply WX.n_block | apply WX.r_then | apply WX.r_block | apply WX.r_again | refine WC.cond_yes rfl ?_ | refine WC.cond_no rfl ?_ | refine WC.cond rfl (fun hc => ?_) (fun hc => ?_) | refine WC.cond_b rfl (fun hc => ?_) (fun hc => ?_))
    refine WL.load rfl hck rfl ?_
    repeat' (first | apply WL.fold | apply WA.fold | apply WL.nil | apply WX.n_then | apply WC.seq | apply WC.region | refine WL.pa ?_ | refine WL.ga rfl ?_ | refine WL.na rfl ?_ | refine WL.nu rfl rfl ?_ | apply WC.block | apply WC.skip | apply WC.exit | apply WC.ret | apply WX.e_block | refine WX.e_other rfl ?_ | apply WX.e_then | apply WX.e_again | apply WX.n_block | apply WX.r_then | apply WX.r_block | apply WX.r_again | refine WC.cond_yes rfl ?_ | refine WC.cond_no rfl ?_ | refine WC.cond rfl (fun hc => ?_) (fun hc => ?_) | refine WC.cond_b rfl (fun hc => ?_) (fun hc => ?_))
    refine WL.one (W1.store' rfl rfl (by intro _ h; cases h) (by intro _ h; cases h) hB2 (by rw [row_len]; omega) ?_)
    intro w3 u3 hB3
    rw [row_set] at hB3
    have hne12 : b1 ≠ b2 := by omega
    have x3 : Ext w w3 := u3.ext hx (by omega)
    have hB1' := hB1.keep1 u3 hne12
    repeat' (first | apply WL.fold | apply WA.fold | apply WL.nil | apply WX.n_then | apply WC.seq | apply WC.region | refine WL.pa ?_ | refine WL.ga rfl ?_ | refine WL.na rfl ?_ | refine WL.nu rfl rfl ?_ | apply WC.block | apply WC.skip | apply WC.exit | apply WC.ret | apply WX.e_block | refine WX.e_other rfl ?_ | apply WX.e_then | apply WX.e_again | apply WX.n_block | apply WX.r_then | apply WX.r_block | apply WX.r_again | refine WC.cond_yes rfl ?_ | refine WC.cond_no rfl ?_ | refine WC.cond rfl (fun hc => ?_) (fun hc => ?_) | refine WC.cond_b rfl (fun hc => ?_) (fun hc => ?_))
    refine WL.load rfl (hB1'.cell rfl) rfl ?_
    repeat' (first | apply WL.fold | apply WA.fold | apply WL.nil | apply WX.n_then | apply WC.seq | apply WC.region | refine WL.pa ?_ | refine WL.ga rfl ?_ | refine WL.na rfl ?_ | refine WL.nu rfl rfl ?_ | apply WC.block | apply WC.skip | apply WC.exit | apply WC.ret | apply WX.e_block | refine WX.e_other rfl ?_ | apply WX.e_then | apply WX.e_again | apply WX.n_block | apply WX.r_then | apply WX.r_block | apply WX.r_again | refine WC.cond_yes rfl ?_ | refine WC.cond_no rfl ?_ | refine WC.cond rfl (fun hc => ?_) (fun hc => ?_) | refine WC.cond_b rfl (fun hc => ?_) (fun hc => ?_))
    refine WC.loop (α := Nat) (fun j => [(1, .pointer (some ⟨b1, 0, none⟩)), (3, .pointer (some ⟨b2, 0, none⟩)), (5, iv i), (8, .slice (some ⟨b0, off, none⟩) nums.length c), (9, iv nums.length), (10, iv k),
        (16, .slice (some ⟨b0, off, none⟩) nums.length c), (17, iv nums.length), (18, iv j)])
      (fun j w' => j ≤ nums.length ∧ Ext w w' ∧ Blk w' b1 [.slice (some ⟨b0, off, none⟩) nums.length c] 38 ∧ Blk w' b2 (row 9 fun q => iv (belKJ nums k j i q)) 155) (fun j => nums.length - j) 0
      ⟨rfl, rfl, rfl, rfl, rfl, rfl, rfl, rfl, rfl, trivial⟩ ⟨by omega, x3, hB1', ?_⟩ ?_
    · refine (congrArg (fun l => Blk w3 b2 l _) (row_congr fun q hq => ?_)).mp hB3
      unfold belKJ
      by_cases e : q = i <;> simp [e]
    clear hB3 x3 hB1' u3 w3 hx hB1 hB2 hck
    rintro j w' ⟨hj, hx, hB1, hB2⟩
    by_cases hjlt : j < nums.length
    · have hh : nums[j] < 9 := hn _ (by simp)
      have hcj : w'.cell? ⟨b0, off + j, none⟩ = some (iv nums[j]) := cell_ext hx (hcell j _ (by simp [hjlt]))
      have hstep : (nums.take (j + 1)).foldl (belS i) 1 = belS i ((nums.take j).foldl (belS i) 1) nums[j] := take_succ_foldl _ _ _ _ hjlt
      generalize hhj : nums[j] = h at *
      have hacc := belF_lt i (nums.take j) 1 (by decide)
      have hix : i ^^^ h < 256 := Nat.xor_lt_two_pow (n := 8) (by omega) (by omega)
      have hgi : (row 9 fun q => iv (belKJ nums k j i q))[i]? = some (iv ((nums.take j).foldl (belS i) 1)) := by rw [row_get _ hi]; simp [belKJ]
      repeat' (first | apply WL.fold | apply WA.fold | apply WL.nil | apply WX.n_then | apply WC.seq | apply WC.region | refine WL.pa ?_ | refine WL.ga rfl ?_ | refine WL.na rfl ?_ | refine WL.nu rfl rfl ?_ | apply WC.block | apply WC.skip | apply WC.exit | apply WC.ret | apply WX.e_block | refine WX.e_other rfl ?_ | apply WX.e_then | apply WX.e_again | apply WX.n_block | apply WX.r_then | apply WX.r_block | apply WX.r_again | refine WC.cond_yes rfl ?_ | refine WC.cond_no rfl ?_ | refine WC.cond rfl (fun hc => ?_) (fun hc => ?_) | refine WC.cond_b rfl (fun hc => ?_) (fun hc => ?_))
      refine WL.load rfl hcj rfl ?_
      repeat' (first | apply WL.fold | apply WA.fold | apply WL.nil | apply WX.n_then | apply WC.seq | apply WC.region | refine WL.pa ?_ | refine WL.ga rfl ?_ | refine WL.na rfl ?_ | refine WL.nu rfl rfl ?_ | apply WC.block | apply WC.skip | apply WC.exit | apply WC.ret | apply WX.e_block | refine WX.e_other rfl ?_ | apply WX.e_then | apply WX.e_again | apply WX.n_block | apply WX.r_then | apply WX.r_block | apply WX.r_again | refine WC.cond_yes rfl ?_ | refine WC.cond_no rfl ?_ | refine WC.cond rfl (fun hc => ?_) (fun hc => ?_) | refine WC.cond_b rfl (fun hc => ?_) (fun hc => ?_))
      · -- h is another number
        refine WC.any rfl (fun w4 x4 h4 => ?_)
        have hB2' := hB2.ext x4
        have hB1' := hB1.ext x4
        have hrd := (hr.ext hx).ext x4
        have fin : ∀ w5, Upd1 b2 w4 w5 → Blk w5 b2 ((row 9 fun q => iv (belKJ nums k j i q)).set i (iv (mulN ((nums.take j).foldl (belS i) 1) (invN (i ^^^ h))))) 155 →
            j + 1 ≤ nums.length ∧ Ext w w5 ∧ Blk w5 b1 [.slice (some ⟨b0, off, none⟩) nums.length c] 38 ∧ Blk w5 b2 (row 9 fun q => iv (belKJ nums k (j + 1) i q)) 155 := fun w5 u5 hB5 => by
          refine ⟨by omega, u5.ext (hx.trans x4) (by omega), hB1'.keep1 u5 hne12, ?_⟩
          rw [row_set] at hB5
          refine (congrArg (fun l => Blk w5 b2 l _) (row_congr fun q hq => ?_)).mp hB5
          unfold belKJ
          have hne' : ¬ h = i := by omega
          by_cases e : q = i
          · simp only [e, if_true, hstep, belS, if_neg hne']
          · simp only [e, if_false]
        refine WA.pa 0 rfl ?_
        refine WA.pa 1 rfl ?_
        refine WA.pa 2 rfl ?_
        refine WA.pa 4 rfl ?_
        refine WA.pa 5 rfl ?_
        refine WA.pa 6 rfl ?_
        refine WA.all [3, 7] (by kernel_rfl) rfl ⟨⟨_, rfl, ?_⟩, ⟨_, rfl, ?_⟩, trivial⟩
        · refine WO.one (W1.load rfl (hB2'.cell hgi) rfl ?_)
          apply WA.fold
          refine WA.all [7] (by kernel_rfl) rfl ⟨⟨_, rfl, ?_⟩, trivial⟩
          refine WO.one (W1.call rfl rfl (inverse_yes _ hix _ hrd) ?_)
          rintro _ _ ⟨rfl, rfl⟩
          apply WA.fold
          refine WA.all [8] (by kernel_rfl) rfl ⟨⟨_, rfl, ?_⟩, trivial⟩
          refine WO.one (W1.call rfl rfl (mul_yes _ _ hacc (invN_lt hix) _ hrd) ?_)
          rintro _ _ ⟨rfl, rfl⟩
          apply WA.fold
          refine WA.pa 9 rfl ?_
          refine WA.all [10] (by kernel_rfl) rfl ⟨⟨_, rfl, ?_⟩, trivial⟩
          refine WO.one (W1.store' rfl rfl (by intro _ h; cases h) (by intro _ h; cases h) hB2' (by rw [row_len]; omega) fun w5 u5 hB5 => ?_)
          apply WA.fold
          refine WA.done (by kernel_rfl) ?_
          repeat' (first | apply WL.fold | apply WA.fold | apply WL.nil | apply WX.n_then | apply WC.seq | apply WC.region | refine WL.pa ?_ | refine WL.ga rfl ?_ | refine WL.na rfl ?_ | refine WL.nu rfl rfl ?_ | apply WC.block | apply WC.skip | apply WC.exit | apply WC.ret | apply WX.e_block | refine WX.e_other rfl ?_ | apply WX.e_then | apply WX.e_again | apply WX.n_block | apply WX.r_then | apply WX.r_block | apply WX.r_again | refine WC.cond_yes rfl ?_ | refine WC.cond_no rfl ?_ | refine WC.cond rfl (fun hc => ?_) (fun hc => ?_) | refine WC.cond_b rfl (fun hc => ?_) (fun hc => ?_))
          exact WX.again (j + 1) (fin w5 u5 hB5) (by omega) ⟨rfl, rfl, rfl, rfl, rfl, rfl, rfl, rfl, rfl, trivial⟩
        · refine WO.one (W1.call rfl rfl (inverse_yes _ hix _ hrd) ?_)
          rintro _ _ ⟨rfl, rfl⟩
          apply WA.fold
          refine WA.all [3] (by kernel_rfl) rfl ⟨⟨_, rfl, ?_⟩, trivial⟩
          refine WO.one (W1.load rfl (hB2'.cell hgi) rfl ?_)
          apply WA.fold
          refine WA.all [8] (by kernel_rfl) rfl ⟨⟨_, rfl, ?_⟩, trivial⟩
          refine WO.one (W1.call rfl rfl (mul_yes _ _ hacc (invN_lt hix) _ hrd) ?_)
          rintro _ _ ⟨rfl, rfl⟩
          apply WA.fold
          refine WA.pa 9 rfl ?_
          refine WA.all [10] (by kernel_rfl) rfl ⟨⟨_, rfl, ?_⟩, trivial⟩
          refine WO.one (W1.store' rfl rfl (by intro _ h; cases h) (by intro _ h; cases h) hB2' (by rw [row_len]; omega) fun w5 u5 hB5 => ?_)
          apply WA.fold
          refine WA.done (by kernel_rfl) ?_
          repeat' (first | apply WL.fold | apply WA.fold | apply WL.nil | apply WX.n_then | apply WC.seq | apply WC.region | refine WL.pa ?_ | refine WL.ga rfl ?_ | refine WL.na rfl ?_ | refine WL.nu rfl rfl ?_ | apply WC.block | apply WC.skip | apply WC.exit | apply WC.ret | apply WX.e_block | refine WX.e_other rfl ?_ | apply WX.e_then | apply WX.e_again | apply WX.n_block | apply WX.r_then | apply WX.r_block | apply WX.r_again | refine WC.cond_yes rfl ?_ | refine WC.cond_no rfl ?_ | refine WC.cond rfl (fun hc => ?_) (fun hc => ?_) | refine WC.cond_b rfl (fun hc => ?_) (fun hc => ?_))
          exact WX.again (j + 1) (fin w5 u5 hB5) (by omega) ⟨rfl, rfl, rfl, rfl, rfl, rfl, rfl, rfl, rfl, trivial⟩
      · have e : h = i := by omega
        refine WX.again (j + 1) ⟨by omega, hx, hB1, ?_⟩ (by omega) ⟨rfl, rfl, rfl, rfl, rfl, rfl, rfl, rfl, rfl, trivial⟩
        refine (congrArg (fun l => Blk w' b2 l _) (row_congr fun q hq => ?_)).mp hB2
        unfold belKJ
        rw [hstep, belS, if_pos e]
    · obtain rfl : j = nums.length := by omega
      repeat' (first | apply WL.fold | apply WA.fold | apply WL.nil | apply WX.n_then | apply WC.seq | apply WC.region | refine WL.pa ?_ | refine WL.ga rfl ?_ | refine WL.na rfl ?_ | refine WL.nu rfl rfl ?_ | apply WC.block | apply WC.skip | apply WC.exit | apply WC.ret | apply WX.e_block | refine WX.e_other rfl ?_ | apply WX.e_then | apply WX.e_again | apply WX.n_block | apply WX.r_then | apply WX.r_block | apply WX.r_again | refine WC.cond_yes rfl ?_ | refine WC.cond_no rfl ?_ | refine WC.cond rfl (fun hc => ?_) (fun hc => ?_) | refine WC.cond_b rfl (fun hc => ?_) (fun hc => ?_))
      refine WX.again (k + 1) ⟨by omega, hx, hB1, ?_⟩ (by omega) ⟨rfl, rfl, rfl, rfl, rfl, trivial⟩
      refine (congrArg (fun l => Blk w' b2 l _) (row_congr fun q hq => ?_)).mp hB2
      unfold belKJ belK
      rw [List.take_length, List.take_succ_eq_append_getElem hlt, hik]
      by_cases e : q = i
      · subst e; simp [bel]
      · simp [e]
  · obtain rfl : k = nums.length := by omega
    repeat' (first | apply WL.fold | apply WA.fold | apply WL.nil | apply WX.n_then | apply WC.seq | apply WC.region | refine WL.pa ?_ | refine WL.ga rfl ?_ | refine WL.na rfl ?_ | refine WL.nu rfl rfl ?_ | apply WC.block | apply WC.skip | apply WC.exit | apply WC.ret | apply WX.e_block | refine WX.e_other rfl ?_ | apply WX.e_then | apply WX.e_again | apply WX.n_block | apply WX.r_then | apply WX.r_block | apply WX.r_again | refine WC.cond_yes rfl ?_ | refine WC.cond_no rfl ?_ | refine WC.cond rfl (fun hc => ?_) (fun hc => ?_) | refine WC.cond_b rfl (fun hc => ?_) (fun hc => ?_))
    refine WX.ret1 rfl rfl ⟨b1, b2, rfl, hx, hB1, ?_⟩
    simpa [belK, belA] using hB2
end Go.Sx
/- Chapter 17: the closure that weights returns. -/
namespace Go.Sx
open Go Go.Proofs
attribute [local irreducible] WC WL WX POp Then Again Fn NX W1 WA WO QL RP RA Yld LoopAt
def outK (nums : List Nat) (x k j : Nat) : Nat := if j ∈ nums.take k then wgt nums x j else 0
def outKJ (nums : List Nat) (x k j i q : Nat) : Nat := if q = i then (nums.take j).foldl (outS i x) (bel nums i) else outK nums x k q

theorem weightsAt_fn (x : Nat) (hx9 : x < 9) (vn : Value) (nums : List Nat) (hne : nums ≠ []) (hn : ∀ i ∈ nums, i < 9) (w : World) (hr : Red w) (hl : nums.length ≤ 100) (hv : Rd w vn (nums.map iv)) (b1 b2 : Nat)
    (hK1 : Blk w b1 [vn] 38) (hK2 : Blk w b2 (row 9 fun j => iv (belA nums j)) 155) :
    Fn Tryz.prog 137 #[iv x, .pointer (some ⟨b1, 0, none⟩), .pointer (some ⟨b2, 0, none⟩)] w fun v w' => v = .agg (row 9 fun j => iv (wgtA nums x j)).toArray ∧ Ext w w' := by
  obtain ⟨b0, off, c, rfl, hc, hb0, hcell⟩ := hv.at (by simpa using hne)
  simp only [List.length_map] at hc hK1 ⊢
  have hlt1 := hK1.lt
  have hlt2 := hK2.lt
  refine enter (l := [_, _, _]) rfl Tryz.ntmps137 rfl ?_
  repeat' (first | apply WL.fold | apply WA.fold | apply WL.nil | apply WX.n_then | apply WC.seq | apply WC.region | refine WL.pa ?_ | refine WL.ga rfl ?_ | refine WL.na rfl ?_ | refine WL.nu rfl rfl ?_ | apply WC.block | apply WC.skip | apply WC.exit | apply WC.ret | apply WX.e_block | refine WX.e_other rfl ?_ | apply WX.e_then | apply WX.e_again | apply WX.n_block | apply WX.r_then | apply WX.r_block | apply WX.r_again | refine WC.cond_yes rfl ?_ | refine WC.cond_no rfl ?_ | refine WC.cond rfl (fun hc => ?_) (fun hc => ?_) | refine WC.cond_b rfl (fun hc => ?_) (fun hc => ?_))
  refine WL.one (W1.alloc' (cs := row 9 fun _ => iv 0) rfl rfl ?_)
  intro b3 w1 e1 s1 x1 k1
  repeat' (first | apply WL.fold | apply WA.fold | apply WL.nil | apply WX.n_then | apply WC.seq | apply WC.region | refine WL.pa ?_ | refine WL.ga rfl ?_ | refine WL.na rfl ?_ | refine WL.nu rfl rfl ?_ | apply WC.block | apply WC.skip | apply WC.exit | apply WC.ret | apply WX.e_block | refine WX.e_other rfl ?_ | apply WX.e_then | apply WX.e_again | apply WX.n_block | apply WX.r_then | apply WX.r_block | apply WX.r_again | refine WC.cond_yes rfl ?_ | refine WC.cond_no rfl ?_ | refine WC.cond rfl (fun hc => ?_) (fun hc => ?_) | refine WC.cond_b rfl (fun hc => ?_) (fun hc => ?_))
  refine WL.load rfl ((hK1.ext x1).cell rfl) rfl ?_
  repeat' (first | apply WL.fold | apply WA.fold | apply WL.nil | apply WX.n_then | apply WC.seq | apply WC.region | refine WL.pa ?_ | refine WL.ga rfl ?_ | refine WL.na rfl ?_ | refine WL.nu rfl rfl ?_ | apply WC.block | apply WC.skip | apply WC.exit | apply WC.ret | apply WX.e_block | refine WX.e_other rfl ?_ | apply WX.e_then | apply WX.e_again | apply WX.n_block | apply WX.r_then | apply WX.r_block | apply WX.r_again | refine WC.cond_yes rfl ?_ | refine WC.cond_no rfl ?_ | refine WC.cond rfl (fun hc => ?_) (fun hc => ?_) | refine WC.cond_b rfl (fun hc => ?_) (fun hc => ?_))
  refine WC.loop (α := Nat) (fun k => [(0, iv x), (1, .pointer (some ⟨b1, 0, none⟩)), (2, .pointer (some ⟨b2, 0, none⟩)), (4, .pointer (some ⟨b3, 0, none⟩)), (9, .slice (some ⟨b0, off, none⟩) nums.length c), (10, iv nums.length), (11, iv k)])
    (fun k w' => k ≤ nums.length ∧ Ext w w' ∧ Blk w' b3 (row 9 fun j => iv (outK nums x k j)) 155) (fun k => nums.length - k) 0
    ⟨rfl, rfl, rfl, rfl, rfl, rfl, rfl, trivial⟩ ⟨by omega, x1, by simpa [outK] using k1⟩ ?_
  rintro k w' ⟨hk, hx, hB3⟩
  by_cases hlt : k < nums.length
  · have hi : nums[k] < 9 := hn _ (by simp)
    have hmem : nums[k] ∈ nums := by simp
    have hck : w'.cell? ⟨b0, off + k, none⟩ = some (iv nums[k]) := cell_ext hx (hcell k _ (by simp [hlt]))
    generalize hik : nums[k] = i at *
    have hbi : (row 9 fun j => iv (belA nums j))[i]? = some (iv (bel nums i)) := by rw [row_get _ hi]; simp [belA, hmem]
    repeat' (first | apply WL.fold | apply WA.fold | apply WL.nil | apply WX.n_then | apply WC.seq | apply WC.region | refine WL.pa ?_ | refine WL.ga rfl ?_ | refine WL.na rfl ?_ | refine WL.nu rfl rfl ?_ | apply WC.block | apply WC.skip | apply WC.exit | apply WC.ret | apply WX.e_block | refine WX.e_other rfl ?_ | apply WX.e_then | apply WX.e_again | apply WX.n_block | apply WX.r_then | apply WX.r_block | apply WX.r_again | refine WC.cond_yes rfl ?_ | refine WC.cond_no rfl ?_ | refine WC.cond rfl (fun hc => ?_) (fun hc => ?_) | refine WC.cond_b rfl (fun hc => ?_) (fun hc => ?_))
    refine WL.load rfl hck rfl ?_
    repeat' (first | apply WL.fold | apply WA.fold | apply WL.nil | apply WX.n_then | apply WC.seq | apply WC.region | refine WL.pa ?_ | refine WL.ga rfl ?_ | refine WL.na rfl ?_ | refine WL.nu rfl rfl ?_ | apply WC.block | apply WC.skip | apply WC.exit | apply WC.ret | apply WX.e_block | refine WX.e_other rfl ?_ | apply WX.e_then | apply WX.e_again | apply WX.n_block | apply WX.r_then | apply WX.r_block | apply WX.r_again | refine WC.cond_yes rfl ?_ | refine WC.cond_no rfl ?_ | refine WC.cond rfl (fun hc => ?_) (fun hc => ?_) | refine WC.cond_b rfl (fun hc => ?_) (fun hc => ?_))
    refine WL.load rfl ((hK2.ext hx).cell hbi) rfl ?_
    repeat' (first | apply WL.fold | apply WA.fold | apply WL.nil | apply WX.n_then | apply WC.seq | apply WC.region | refine WL.pa ?_ | refine WL.ga rfl ?_ | refine WL.na rfl ?_ | refine WL.nu rfl rfl ?_ | apply WC.block | apply WC.skip | apply WC.exit | apply WC.ret | apply WX.e_block | refine WX.e_other rfl ?_ | apply WX.e_then | apply WX.e_again | apply WX.n_block | apply WX.r_then | apply WX.r_block | apply WX.r_again | refine WC.cond_yes rfl ?_ | refine WC.cond_no rfl ?_ | refine WC.cond rfl (fun hc => ?_) (fun hc => ?_) | refine WC.cond_b rfl (fun hc => ?_) (fun hc => ?_))
    refine WL.one (W1.store' rfl rfl (by intro _ h; cases h) (by intro _ h; cases h) hB3 (by rw [row_len]; omega) ?_)
    intro w3 u3 hB
    rw [row_set] at hB
    have x3 : Ext w w3 := u3.ext hx (by omega)
    repeat' (first | apply WL.fold | apply WA.fold | apply WL.nil | apply WX.n_then | apply WC.seq | apply WC.region | refine WL.pa ?_ | refine WL.ga rfl ?_ | refine WL.na rfl ?_ | refine WL.nu rfl rfl ?_ | apply WC.block | apply WC.skip | apply WC.exit | apply WC.ret | apply WX.e_block | refine WX.e_other rfl ?_ | apply WX.e_then | apply WX.e_again | apply WX.n_block | apply WX.r_then | apply WX.r_block | apply WX.r_again | refine WC.cond_yes rfl ?_ | refine WC.cond_no rfl ?_ | refine WC.cond rfl (fun hc => ?_) (fun hc => ?_) | refine WC.cond_b rfl (fun hc => ?_) (fun hc => ?_))
    refine WL.load rfl ((hK1.ext x3).cell rfl) rfl ?_
    repeat' (first | apply WL.fold | apply WA.fold | apply WL.nil | apply WX.n_then | apply WC.seq | apply WC.region | refine WL.pa ?_ | refine WL.ga rfl ?_ | refine WL.na rfl ?_ | refine WL.nu rfl rfl ?_ | apply WC.block | apply WC.skip | apply WC.exit | apply WC.ret | apply WX.e_block | refine WX.e_other rfl ?_ | apply WX.e_then | apply WX.e_again | apply WX.n_block | apply WX.r_then | apply WX.r_block | apply WX.r_again | refine WC.cond_yes rfl ?_ | refine WC.cond_no rfl ?_ | refine WC.cond rfl (fun hc => ?_) (fun hc => ?_) | refine WC.cond_b rfl (fun hc => ?_) (fun hc => ?_))
    refine WC.loop (α := Nat) (fun j => [(0, iv x), (1, .pointer (some ⟨b1, 0, none⟩)), (2, .pointer (some ⟨b2, 0, none⟩)), (4, .pointer (some ⟨b3, 0, none⟩)), (6, iv i), (9, .slice (some ⟨b0, off, none⟩) nums.length c), (10, iv nums.length), (11, iv k),
        (20, .slice (some ⟨b0, off, none⟩) nums.length c), (21, iv nums.length), (22, iv j)])
      (fun j w' => j ≤ nums.length ∧ Ext w w' ∧ Blk w' b3 (row 9 fun q => iv (outKJ nums x k j i q)) 155) (fun j => nums.length - j) 0
      ⟨rfl, rfl, rfl, rfl, rfl, rfl, rfl, rfl, rfl, rfl, rfl, trivial⟩ ⟨by omega, x3, ?_⟩ ?_
    · refine (congrArg (fun l => Blk w3 b3 l _) (row_congr fun q hq => ?_)).mp hB
      unfold outKJ
      by_cases e : q = i <;> simp [e]
    clear hB x3 u3 w3 hx hB3 hck
    rintro j w' ⟨hj, hx, hB3⟩
    by_cases hjlt : j < nums.length
    · have hh : nums[j] < 9 := hn _ (by simp)
      have hcj : w'.cell? ⟨b0, off + j, none⟩ = some (iv nums[j]) := cell_ext hx (hcell j _ (by simp [hjlt]))
      have hstep : (nums.take (j + 1)).foldl (outS i x) (bel nums i) = outS i x ((nums.take j).foldl (outS i x) (bel nums i)) nums[j] := take_succ_foldl _ _ _ _ hjlt
      generalize hhj : nums[j] = h at *
      have hacc := outF_lt i x (nums.take j) _ (bel_lt nums i)
      have hix : x ^^^ h < 256 := Nat.xor_lt_two_pow (n := 8) (by omega) (by omega)
      have hgi : (row 9 fun q => iv (outKJ nums x k j i q))[i]? = some (iv ((nums.take j).foldl (outS i x) (bel nums i))) := by rw [row_get _ hi]; simp [outKJ]
      repeat' (first | apply WL.fold | apply WA.fold | apply WL.nil | apply WX.n_then | apply WC.seq | apply WC.region | refine WL.pa ?_ | refine WL.ga rfl ?_ | refine WL.na rfl ?_ | refine WL.nu rfl rfl ?_ | apply WC.block | apply WC.skip | apply WC.exit | apply WC.ret | apply WX.e_block | refine WX.e_other rfl ?_ | apply WX.e_then | apply WX.e_again | apply WX.n_block | apply WX.r_then | apply WX.r_block | apply WX.r_again | refine WC.cond_yes rfl ?_ | refine WC.cond_no rfl ?_ | refine WC.cond rfl (fun hc => ?_) (fun hc => ?_) | refine WC.cond_b rfl (fun hc => ?_) (fun hc => ?_))
      refine WL.load rfl hcj rfl ?_
      repeat' (first | apply WL.fold | apply WA.fold | apply WL.nil | apply WX.n_then | apply WC.seq | apply WC.region | refine WL.pa ?_ | refine WL.ga rfl ?_ | refine WL.na rfl ?_ | refine WL.nu rfl rfl ?_ | apply WC.block | apply WC.skip | apply WC.exit | apply WC.ret | apply WX.e_block | refine WX.e_other rfl ?_ | apply WX.e_then | apply WX.e_again | apply WX.n_block | apply WX.r_then | apply WX.r_block | apply WX.r_again | refine WC.cond_yes rfl ?_ | refine WC.cond_no rfl ?_ | refine WC.cond rfl (fun hc => ?_) (fun hc => ?_) | refine WC.cond_b rfl (fun hc => ?_) (fun hc => ?_))
      · refine WL.load rfl (hB3.cell hgi) rfl ?_
        repeat' (first | apply WL.fold | apply WA.fold | apply WL.nil | apply WX.n_then | apply WC.seq | apply WC.region | refine WL.pa ?_ | refine WL.ga rfl ?_ | refine WL.na rfl ?_ | refine WL.nu rfl rfl ?_ | apply WC.block | apply WC.skip | apply WC.exit | apply WC.ret | apply WX.e_block | refine WX.e_other rfl ?_ | apply WX.e_then | apply WX.e_again | apply WX.n_block | apply WX.r_then | apply WX.r_block | apply WX.r_again | refine WC.cond_yes rfl ?_ | refine WC.cond_no rfl ?_ | refine WC.cond rfl (fun hc => ?_) (fun hc => ?_) | refine WC.cond_b rfl (fun hc => ?_) (fun hc => ?_))
        refine WL.call rfl rfl (mul_yes _ _ hacc hix _ (hr.ext hx)) ?_
        rintro _ _ ⟨rfl, rfl⟩
        repeat' (first | apply WL.fold | apply WA.fold | apply WL.nil | apply WX.n_then | apply WC.seq | apply WC.region | refine WL.pa ?_ | refine WL.ga rfl ?_ | refine WL.na rfl ?_ | refine WL.nu rfl rfl ?_ | apply WC.block | apply WC.skip | apply WC.exit | apply WC.ret | apply WX.e_block | refine WX.e_other rfl ?_ | apply WX.e_then | apply WX.e_again | apply WX.n_block | apply WX.r_then | apply WX.r_block | apply WX.r_again | refine WC.cond_yes rfl ?_ | refine WC.cond_no rfl ?_ | refine WC.cond rfl (fun hc => ?_) (fun hc => ?_) | refine WC.cond_b rfl (fun hc => ?_) (fun hc => ?_))
        refine WL.one (W1.store' rfl rfl (by intro _ h; cases h) (by intro _ h; cases h) hB3 (by rw [row_len]; omega) fun w5 u5 hB5 => ?_)
        repeat' (first | apply WL.fold | apply WA.fold | apply WL.nil | apply WX.n_then | apply WC.seq | apply WC.region | refine WL.pa ?_ | refine WL.ga rfl ?_ | refine WL.na rfl ?_ | refine WL.nu rfl rfl ?_ | apply WC.block | apply WC.skip | apply WC.exit | apply WC.ret | apply WX.e_block | refine WX.e_other rfl ?_ | apply WX.e_then | apply WX.e_again | apply WX.n_block | apply WX.r_then | apply WX.r_block | apply WX.r_again | refine WC.cond_yes rfl ?_ | refine WC.cond_no rfl ?_ | refine WC.cond rfl (fun hc => ?_) (fun hc => ?_) | refine WC.cond_b rfl (fun hc => ?_) (fun hc => ?_))
        refine WX.again (j + 1) ⟨by omega, u5.ext hx (by omega), ?_⟩ (by omega) ⟨rfl, rfl, rfl, rfl, rfl, rfl, rfl, rfl, rfl, rfl, rfl, trivial⟩
        rw [row_set] at hB5
        refine (congrArg (fun l => Blk w5 b3 l _) (row_congr fun q hq => ?_)).mp hB5
        unfold outKJ
        have hne' : ¬ h = i := by omega
        by_cases e : q = i
        · simp only [e, if_true, hstep, outS, if_neg hne']
        · simp only [e, if_false]
      · have e : h = i := by omega
        refine WX.again (j + 1) ⟨by omega, hx, ?_⟩ (by omega) ⟨rfl, rfl, rfl, rfl, rfl, rfl, rfl, rfl, rfl, rfl, rfl, trivial⟩
        refine (congrArg (fun l => Blk w' b3 l _) (row_congr fun q hq => ?_)).mp hB3
        unfold outKJ
        rw [hstep, outS, if_pos e]
    · obtain rfl : j = nums.length := by omega
      repeat' (first | apply WL.fold | apply WA.fold | apply WL.nil | apply WX.n_then | apply WC.seq | apply WC.region | refine WL.pa ?_ | refine WL.ga rfl ?_ | refine WL.na rfl ?_ | refine WL.nu rfl rfl ?_ | apply WC.block | apply WC.skip | apply WC.exit | apply WC.ret | apply WX.e_block | refine WX.e_other rfl ?_ | apply WX.e_then | apply WX.e_again | apply WX.n_block | apply WX.r_then | apply WX.r_block | apply WX.r_again | refine WC.cond_yes rfl ?_ | refine WC.cond_no rfl ?_ | refine WC.cond rfl (fun hc => ?_) (fun hc => ?_) | refine WC.cond_b rfl (fun hc => ?_) (fun hc => ?_))
      refine WX.again (k + 1) ⟨by omega, hx, ?_⟩ (by omega) ⟨rfl, rfl, rfl, rfl, rfl, rfl, rfl, trivial⟩
      refine (congrArg (fun l => Blk w' b3 l _) (row_congr fun q hq => ?_)).mp hB3
      unfold outKJ outK
      rw [List.take_length, List.take_succ_eq_append_getElem hlt, hik]
      by_cases e : q = i
      · subst e; simp [wgt]
      · simp [e]
  · obtain rfl : k = nums.length := by omega
    repeat' (first | apply WL.fold | apply WA.fold | apply WL.nil | apply WX.n_then | apply WC.seq | apply WC.region | refine WL.pa ?_ | refine WL.ga rfl ?_ | refine WL.na rfl ?_ | refine WL.nu rfl rfl ?_ | apply WC.block | apply WC.skip | apply WC.exit | apply WC.ret | apply WX.e_block | refine WX.e_other rfl ?_ | apply WX.e_then | apply WX.e_again | apply WX.n_block | apply WX.r_then | apply WX.r_block | apply WX.r_again | refine WC.cond_yes rfl ?_ | refine WC.cond_no rfl ?_ | refine WC.cond rfl (fun hc => ?_) (fun hc => ?_) | refine WC.cond_b rfl (fun hc => ?_) (fun hc => ?_))
    refine WL.one (W1.loadAgg rfl (row_len 9 _) (fun i v hv => by rw [Nat.zero_add]; exact hB3.cell hv) rfl ?_)
    repeat' (first | apply WL.fold | apply WA.fold | apply WL.nil | apply WX.n_then | apply WC.seq | apply WC.region | refine WL.pa ?_ | refine WL.ga rfl ?_ | refine WL.na rfl ?_ | refine WL.nu rfl rfl ?_ | apply WC.block | apply WC.skip | apply WC.exit | apply WC.ret | apply WX.e_block | refine WX.e_other rfl ?_ | apply WX.e_then | apply WX.e_again | apply WX.n_block | apply WX.r_then | apply WX.r_block | apply WX.r_again | refine WC.cond_yes rfl ?_ | refine WC.cond_no rfl ?_ | refine WC.cond rfl (fun hc => ?_) (fun hc => ?_) | refine WC.cond_b rfl (fun hc => ?_) (fun hc => ?_))
    refine WL.one (W1.storeAgg' rfl rfl (row_len 9 _) (by intro v hv; simp only [row, List.mem_map] at hv; obtain ⟨q, -, rfl⟩ := hv; rfl) hB3 (by simp only [row_len]) fun w5 u5 hB5 => ?_)
    repeat' (first | apply WL.fold | apply WA.fold | apply WL.nil | apply WX.n_then | apply WC.seq | apply WC.region | refine WL.pa ?_ | refine WL.ga rfl ?_ | refine WL.na rfl ?_ | refine WL.nu rfl rfl ?_ | apply WC.block | apply WC.skip | apply WC.exit | apply WC.ret | apply WX.e_block | refine WX.e_other rfl ?_ | apply WX.e_then | apply WX.e_again | apply WX.n_block | apply WX.r_then | apply WX.r_block | apply WX.r_again | refine WC.cond_yes rfl ?_ | refine WC.cond_no rfl ?_ | refine WC.cond rfl (fun hc => ?_) (fun hc => ?_) | refine WC.cond_b rfl (fun hc => ?_) (fun hc => ?_))
    refine WX.retCell rfl rfl hB5 (row_len 9 _) ⟨?_, u5.ext hx (by omega)⟩
    have : (row 9 fun j => iv (outK nums x nums.length j)) = row 9 fun j => iv (wgtA nums x j) := row_congr fun q hq => by simp [outK, wgtA]
    rw [this]
end Go.Sx
/- Chapter 17: columns, and the iterator that it returns. -/
namespace Go.Sx
open Go Go.Proofs
attribute [local irreducible] WC WL WX POp Then Again Fn NX W1 WA WO QL RP RA Yld LoopAt
theorem columns_fn (vf vn : Value) (hf : vf.cells = #[vf]) (hn : vn.cells = #[vn]) (w : World) :
    Fn Tryz.prog 138 #[vf, vn] w fun v w' => ∃ b1 b2, v = .func (.func 175) #[] #[.pointer (some ⟨b1, 0, none⟩), .pointer (some ⟨b2, 0, none⟩)] ∧ Ext w w' ∧ w.heap.size ≤ b1 ∧ w.heap.size ≤ b2 ∧
      Blk w' b1 [vf] 69 ∧ Blk w' b2 [vn] 38 := by
  refine enter (l := [_, _]) rfl Tryz.ntmps138 rfl ?_
  repeat' (first | apply WL.fold | apply WA.fold | apply WL.nil | apply WX.n_then | apply WC.seq | apply WC.region | refine WL.pa ?_ | refine WL.ga rfl ?_ | refine WL.na rfl ?_ | refine WL.nu rfl rfl ?_ | apply WC.block | apply WC.skip | apply WC.exit | apply WC.ret | apply WX.e_block | refine WX.e_other rfl ?_ | apply WX.e_then | apply WX.e_again | apply WX.n_block | apply WX.r_then | apply WX.r_block | apply WX.r_again | refine WC.cond_yes rfl ?_ | refine WC.cond_no rfl ?_ | refine WC.cond rfl (fun hc => ?_) (fun hc => ?_) | refine WC.cond_b rfl (fun hc => ?_) (fun hc => ?_))
  refine WL.one (W1.box' rfl hf rfl ?_)
  intro b1 w1 e1 s1 x1 k1
  repeat' (first | apply WL.fold | apply WA.fold | apply WL.nil | apply WX.n_then | apply WC.seq | apply WC.region | refine WL.pa ?_ | refine WL.ga rfl ?_ | refine WL.na rfl ?_ | refine WL.nu rfl rfl ?_ | apply WC.block | apply WC.skip | apply WC.exit | apply WC.ret | apply WX.e_block | refine WX.e_other rfl ?_ | apply WX.e_then | apply WX.e_again | apply WX.n_block | apply WX.r_then | apply WX.r_block | apply WX.r_again | refine WC.cond_yes rfl ?_ | refine WC.cond_no rfl ?_ | refine WC.cond rfl (fun hc => ?_) (fun hc => ?_) | refine WC.cond_b rfl (fun hc => ?_) (fun hc => ?_))
  refine WL.one (W1.box' rfl hn rfl ?_)
  intro b2 w2 e2 s2 x2 k2
  repeat' (first | apply WL.fold | apply WA.fold | apply WL.nil | apply WX.n_then | apply WC.seq | apply WC.region | refine WL.pa ?_ | refine WL.ga rfl ?_ | refine WL.na rfl ?_ | refine WL.nu rfl rfl ?_ | apply WC.block | apply WC.skip | apply WC.exit | apply WC.ret | apply WX.e_block | refine WX.e_other rfl ?_ | apply WX.e_then | apply WX.e_again | apply WX.n_block | apply WX.r_then | apply WX.r_block | apply WX.r_again | refine WC.cond_yes rfl ?_ | refine WC.cond_no rfl ?_ | refine WC.cond rfl (fun hc => ?_) (fun hc => ?_) | refine WC.cond_b rfl (fun hc => ?_) (fun hc => ?_))
  exact WX.ret1 rfl rfl ⟨b1, b2, rfl, x1.trans x2, by omega, by omega, k1.ext x2, k2⟩

theorem columns1_fn (l bf bn : Nat) (vf vn : Value) (frs : List ByteArray) (nums : List Nat) (m : Nat) (hne : nums ≠ []) (hn : ∀ i ∈ nums, i < frs.length) (hm : ∀ i ∈ nums, (fr frs i).size = m) (hm4 : m ≤ 4096) (hl : nums.length ≤ 100)
    (Inv : Nat → World → Prop)
    (hI : ∀ j W, Inv j W → Blk W bf [vf] 69 ∧ Blk W bn [vn] 38 ∧ Rd W vf (strs frs) ∧ Rd W vn (nums.map iv))
    (hE : ∀ j W W', Inv j W → Ext W W' → Inv j W')
    (hY : ∀ j W vb, j < m → Inv j W → Rd W vb (nums.map fun i => iv (sb (fr frs i) j)) → Yld Tryz.prog l [iv j, vb] W fun b W' => b = true ∧ Inv (j + 1) W')
    (w : World) (h0 : Inv 0 w) : Fn Tryz.prog 175 #[.func (.yield l) #[] #[], .pointer (some ⟨bf, 0, none⟩), .pointer (some ⟨bn, 0, none⟩)] w fun _ w' => Inv m w' := by
  obtain ⟨hBf, hBn, hRf, hRn⟩ := hI 0 w h0
  obtain ⟨b0, off, c, rfl, hc, hb0, -⟩ := hRn.at (by simpa using hne)
  have hp0 := len_pos hne
  have hi0 := hn _ (nu_mem hp0)
  have hfne : strs frs ≠ [] := by
    intro e
    have h1 : (strs frs).length = 0 := by rw [e]; rfl
    simp only [strs, List.length_map] at h1
    omega
  obtain ⟨b1, off1, c1, rfl, hc1, hb1, -⟩ := hRf.at hfne
  have hlf : (strs frs).length = frs.length := by simp [strs]
  simp only [List.length_map, hlf] at hc hc1 hI hBf hBn hRf hRn ⊢
  have hm0 := hm _ (nu_mem hp0)
  have hnum : ∀ k, k < nums.length → (nums.map iv)[k]? = some (iv (nu nums k)) := fun k hk => by simp [nu_get hk]
  refine enter (l := [_, _, _]) rfl Tryz.ntmps175 rfl ?_
  apply WC.seq
  apply WC.quiet (by kernel_rfl)
  refine QL.load rfl (hBf.cell rfl) rfl ?_
  refine QL.load rfl (hBn.cell rfl) rfl ?_
  refine QL.pa ?_
  refine QL.load rfl (hRn.cell (hnum 0 hp0)) rfl ?_
  refine QL.pa ?_
  refine QL.load rfl (hRf.cell (strs_get hi0)) rfl ?_
  refine QL.pa ?_
  refine QL.pa ?_
  refine QL.nil (fun w1 x1 => ?_)
  repeat' (first | apply WL.fold | apply WA.fold | apply WL.nil | apply WX.n_then | apply WC.seq | apply WC.region | refine WL.pa ?_ | refine WL.ga rfl ?_ | refine WL.na rfl ?_ | refine WL.nu rfl rfl ?_ | apply WC.block | apply WC.skip | apply WC.exit | apply WC.ret | apply WX.e_block | refine WX.e_other rfl ?_ | apply WX.e_then | apply WX.e_again | apply WX.n_block | apply WX.r_then | apply WX.r_block | apply WX.r_again | refine WC.cond_yes rfl ?_ | refine WC.cond_no rfl ?_ | refine WC.cond rfl (fun hc => ?_) (fun hc => ?_) | refine WC.cond_b rfl (fun hc => ?_) (fun hc => ?_))
  have h1 := hE 0 w w1 h0 x1
  rw [hm0]
  refine WC.loop (α := Nat) (fun j => [(0, .func (.yield l) #[] #[]), (1, .pointer (some ⟨bf, 0, none⟩)), (2, .pointer (some ⟨bn, 0, none⟩)), (14, iv m), (15, iv j)])
    (fun j w' => j ≤ m ∧ Inv j w') (fun j => m - j) 0 ⟨rfl, rfl, rfl, rfl, rfl, trivial⟩ ⟨by omega, h1⟩ ?_
  rintro j w' ⟨hj, hInv⟩
  by_cases hlt : j < m
  · obtain ⟨gBf, gBn, gRf, gRn⟩ := hI j w' hInv
    repeat' (first | apply WL.fold | apply WA.fold | apply WL.nil | apply WX.n_then | apply WC.seq | apply WC.region | refine WL.pa ?_ | refine WL.ga rfl ?_ | refine WL.na rfl ?_ | refine WL.nu rfl rfl ?_ | apply WC.block | apply WC.skip | apply WC.exit | apply WC.ret | apply WX.e_block | refine WX.e_other rfl ?_ | apply WX.e_then | apply WX.e_again | apply WX.n_block | apply WX.r_then | apply WX.r_block | apply WX.r_again | refine WC.cond_yes rfl ?_ | refine WC.cond_no rfl ?_ | refine WC.cond rfl (fun hc => ?_) (fun hc => ?_) | refine WC.cond_b rfl (fun hc => ?_) (fun hc => ?_))
    refine WL.load rfl (gBn.cell rfl) rfl ?_
    repeat' (first | apply WL.fold | apply WA.fold | apply WL.nil | apply WX.n_then | apply WC.seq | apply WC.region | refine WL.pa ?_ | refine WL.ga rfl ?_ | refine WL.na rfl ?_ | refine WL.nu rfl rfl ?_ | apply WC.block | apply WC.skip | apply WC.exit | apply WC.ret | apply WX.e_block | refine WX.e_other rfl ?_ | apply WX.e_then | apply WX.e_again | apply WX.n_block | apply WX.r_then | apply WX.r_block | apply WX.r_again | refine WC.cond_yes rfl ?_ | refine WC.cond_no rfl ?_ | refine WC.cond rfl (fun hc => ?_) (fun hc => ?_) | refine WC.cond_b rfl (fun hc => ?_) (fun hc => ?_))
    refine WL.one (W1.make' rfl rfl rfl rfl rfl (Nat.le_refl _) (by omega) (by omega) rfl ?_)
    intro b5 w5 e5 s5 x5 k5
    repeat' (first | apply WL.fold | apply WA.fold | apply WL.nil | apply WX.n_then | apply WC.seq | apply WC.region | refine WL.pa ?_ | refine WL.ga rfl ?_ | refine WL.na rfl ?_ | refine WL.nu rfl rfl ?_ | apply WC.block | apply WC.skip | apply WC.exit | apply WC.ret | apply WX.e_block | refine WX.e_other rfl ?_ | apply WX.e_then | apply WX.e_again | apply WX.n_block | apply WX.r_then | apply WX.r_block | apply WX.r_again | refine WC.cond_yes rfl ?_ | refine WC.cond_no rfl ?_ | refine WC.cond rfl (fun hc => ?_) (fun hc => ?_) | refine WC.cond_b rfl (fun hc => ?_) (fun hc => ?_))
    refine WL.load rfl ((gBn.ext x5).cell rfl) rfl ?_
    repeat' (first | apply WL.fold | apply WA.fold | apply WL.nil | apply WX.n_then | apply WC.seq | apply WC.region | refine WL.pa ?_ | refine WL.ga rfl ?_ | refine WL.na rfl ?_ | refine WL.nu rfl rfl ?_ | apply WC.block | apply WC.skip | apply WC.exit | apply WC.ret | apply WX.e_block | refine WX.e_other rfl ?_ | apply WX.e_then | apply WX.e_again | apply WX.n_block | apply WX.r_then | apply WX.r_block | apply WX.r_again | refine WC.cond_yes rfl ?_ | refine WC.cond_no rfl ?_ | refine WC.cond rfl (fun hc => ?_) (fun hc => ?_) | refine WC.cond_b rfl (fun hc => ?_) (fun hc => ?_))
    refine WC.loop (α := Nat) (fun k => [(0, .func (.yield l) #[] #[]), (1, .pointer (some ⟨bf, 0, none⟩)), (2, .pointer (some ⟨bn, 0, none⟩)), (4, iv j), (5, .slice (some ⟨b5, 0, none⟩) nums.length nums.length), (14, iv m), (15, iv j),
        (21, .slice (some ⟨b0, off, none⟩) nums.length c), (22, iv nums.length), (23, iv k)])
      (fun k w2 => k ≤ nums.length ∧ Ext w' w2 ∧ Blk w2 b5 (row nums.length fun q => if q < k then iv (sb (fr frs (nu nums q)) j) else iv 0) 3) (fun k => nums.length - k) 0
      ⟨rfl, rfl, rfl, rfl, rfl, rfl, rfl, rfl, rfl, rfl, trivial⟩ ⟨by omega, x5, (congrArg (fun l => Blk w5 b5 l _) ((row_rep _ _).trans (row_congr fun q _ => by simp))).mp k5⟩ ?_
    rintro k w2 ⟨hk, hx2, hB5⟩
    by_cases hklt : k < nums.length
    · have hik := hn _ (nu_mem hklt)
      have hmk := hm _ (nu_mem hklt)
      have hsb := sb_lt (fr frs (nu nums k)) j
      repeat' (first | apply WL.fold | apply WA.fold | apply WL.nil | apply WX.n_then | apply WC.seq | apply WC.region | refine WL.pa ?_ | refine WL.ga rfl ?_ | refine WL.na rfl ?_ | refine WL.nu rfl rfl ?_ | apply WC.block | apply WC.skip | apply WC.exit | apply WC.ret | apply WX.e_block | refine WX.e_other rfl ?_ | apply WX.e_then | apply WX.e_again | apply WX.n_block | apply WX.r_then | apply WX.r_block | apply WX.r_again | refine WC.cond_yes rfl ?_ | refine WC.cond_no rfl ?_ | refine WC.cond rfl (fun hc => ?_) (fun hc => ?_) | refine WC.cond_b rfl (fun hc => ?_) (fun hc => ?_))
      refine WL.load rfl ((gRn.ext hx2).cell (hnum k hklt)) rfl ?_
      repeat' (first | apply WL.fold | apply WA.fold | apply WL.nil | apply WX.n_then | apply WC.seq | apply WC.region | refine WL.pa ?_ | refine WL.ga rfl ?_ | refine WL.na rfl ?_ | refine WL.nu rfl rfl ?_ | apply WC.block | apply WC.skip | apply WC.exit | apply WC.ret | apply WX.e_block | refine WX.e_other rfl ?_ | apply WX.e_then | apply WX.e_again | apply WX.n_block | apply WX.r_then | apply WX.r_block | apply WX.r_again | refine WC.cond_yes rfl ?_ | refine WC.cond_no rfl ?_ | refine WC.cond rfl (fun hc => ?_) (fun hc => ?_) | refine WC.cond_b rfl (fun hc => ?_) (fun hc => ?_))
      refine WL.load rfl ((gBf.ext hx2).cell rfl) rfl ?_
      repeat' (first | apply WL.fold | apply WA.fold | apply WL.nil | apply WX.n_then | apply WC.seq | apply WC.region | refine WL.pa ?_ | refine WL.ga rfl ?_ | refine WL.na rfl ?_ | refine WL.nu rfl rfl ?_ | apply WC.block | apply WC.skip | apply WC.exit | apply WC.ret | apply WX.e_block | refine WX.e_other rfl ?_ | apply WX.e_then | apply WX.e_again | apply WX.n_block | apply WX.r_then | apply WX.r_block | apply WX.r_again | refine WC.cond_yes rfl ?_ | refine WC.cond_no rfl ?_ | refine WC.cond rfl (fun hc => ?_) (fun hc => ?_) | refine WC.cond_b rfl (fun hc => ?_) (fun hc => ?_))
      refine WL.load rfl ((gRf.ext hx2).cell (strs_get hik)) rfl ?_
      repeat' (first | apply WL.fold | apply WA.fold | apply WL.nil | apply WX.n_then | apply WC.seq | apply WC.region | refine WL.pa ?_ | refine WL.ga rfl ?_ | refine WL.na rfl ?_ | refine WL.nu rfl rfl ?_ | apply WC.block | apply WC.skip | apply WC.exit | apply WC.ret | apply WX.e_block | refine WX.e_other rfl ?_ | apply WX.e_then | apply WX.e_again | apply WX.n_block | apply WX.r_then | apply WX.r_block | apply WX.r_again | refine WC.cond_yes rfl ?_ | refine WC.cond_no rfl ?_ | refine WC.cond rfl (fun hc => ?_) (fun hc => ?_) | refine WC.cond_b rfl (fun hc => ?_) (fun hc => ?_))
      refine WL.one (W1.store' rfl rfl (by intro _ h; cases h) (by intro _ h; cases h) hB5 (by rw [row_len]; omega) fun w6 u6 hB6 => ?_)
      repeat' (first | apply WL.fold | apply WA.fold | apply WL.nil | apply WX.n_then | apply WC.seq | apply WC.region | refine WL.pa ?_ | refine WL.ga rfl ?_ | refine WL.na rfl ?_ | refine WL.nu rfl rfl ?_ | apply WC.block | apply WC.skip | apply WC.exit | apply WC.ret | apply WX.e_block | refine WX.e_other rfl ?_ | apply WX.e_then | apply WX.e_again | apply WX.n_block | apply WX.r_then | apply WX.r_block | apply WX.r_again | refine WC.cond_yes rfl ?_ | refine WC.cond_no rfl ?_ | refine WC.cond rfl (fun hc => ?_) (fun hc => ?_) | refine WC.cond_b rfl (fun hc => ?_) (fun hc => ?_))
      refine WX.again (k + 1) ⟨by omega, u6.ext hx2 (by omega), ?_⟩ (by omega) ⟨rfl, rfl, rfl, rfl, rfl, rfl, rfl, rfl, rfl, rfl, trivial⟩
      rw [row_set] at hB6
      refine (congrArg (fun l => Blk w6 b5 l _) (row_congr fun q hq => ?_)).mp hB6
      by_cases e : q = k
      · subst e; simp
      · have : (q < k + 1) = (q < k) := by simp only [eq_iff_iff]; omega
        simp only [e, if_false, this]
    · obtain rfl : k = nums.length := by omega
      repeat' (first | apply WL.fold | apply WA.fold | apply WL.nil | apply WX.n_then | apply WC.seq | apply WC.region | refine WL.pa ?_ | refine WL.ga rfl ?_ | refine WL.na rfl ?_ | refine WL.nu rfl rfl ?_ | apply WC.block | apply WC.skip | apply WC.exit | apply WC.ret | apply WX.e_block | refine WX.e_other rfl ?_ | apply WX.e_then | apply WX.e_again | apply WX.n_block | apply WX.r_then | apply WX.r_block | apply WX.r_again | refine WC.cond_yes rfl ?_ | refine WC.cond_no rfl ?_ | refine WC.cond rfl (fun hc => ?_) (fun hc => ?_) | refine WC.cond_b rfl (fun hc => ?_) (fun hc => ?_))
      refine WL.one (W1.yield rfl rfl rfl (hY j w2 _ hlt (hE j _ _ hInv hx2) ?_) ?_)
      · have := Rd.of_blk hB5 (l := nums.length) (c := nums.length) (by rw [row_len]; exact Nat.le_refl _) (Nat.le_refl _)
        rw [List.take_of_length_le (by rw [row_len]; exact Nat.le_refl _)] at this
        refine (congrArg (Rd w2 _) ?_).mp this
        apply List.ext_getElem
        · simp [row]
        · intro q h1 h2
          have hq : q < nums.length := by simpa [row] using h1
          simp [row, hq, nu]
      · rintro _ w6 ⟨rfl, hI6⟩
        repeat' (first | apply WL.fold | apply WA.fold | apply WL.nil | apply WX.n_then | apply WC.seq | apply WC.region | refine WL.pa ?_ | refine WL.ga rfl ?_ | refine WL.na rfl ?_ | refine WL.nu rfl rfl ?_ | apply WC.block | apply WC.skip | apply WC.exit | apply WC.ret | apply WX.e_block | refine WX.e_other rfl ?_ | apply WX.e_then | apply WX.e_again | apply WX.n_block | apply WX.r_then | apply WX.r_block | apply WX.r_again | refine WC.cond_yes rfl ?_ | refine WC.cond_no rfl ?_ | refine WC.cond rfl (fun hc => ?_) (fun hc => ?_) | refine WC.cond_b rfl (fun hc => ?_) (fun hc => ?_))
        exact WX.again (j + 1) ⟨by omega, hI6⟩ (by omega) ⟨rfl, rfl, rfl, rfl, rfl, trivial⟩
  · obtain rfl : j = m := by omega
    repeat' (first | apply WL.fold | apply WA.fold | apply WL.nil | apply WX.n_then | apply WC.seq | apply WC.region | refine WL.pa ?_ | refine WL.ga rfl ?_ | refine WL.na rfl ?_ | refine WL.nu rfl rfl ?_ | apply WC.block | apply WC.skip | apply WC.exit | apply WC.ret | apply WX.e_block | refine WX.e_other rfl ?_ | apply WX.e_then | apply WX.e_again | apply WX.n_block | apply WX.r_then | apply WX.r_block | apply WX.r_again | refine WC.cond_yes rfl ?_ | refine WC.cond_no rfl ?_ | refine WC.cond rfl (fun hc => ?_) (fun hc => ?_) | refine WC.cond_b rfl (fun hc => ?_) (fun hc => ?_))
    exact WX.end0 rfl hInv
end Go.Sx
/- Chapter 17: computed: a range over the iterator. -/
namespace Go.Sx
open Go Go.Proofs
attribute [local irreducible] WC WL WX POp Then Again Fn NX W1 WA WO QL RP RA Yld LoopAt
theorem computed_fn (vf vn : Value) (frs : List ByteArray) (nums : List Nat) (wt : Nat → Nat) (m : Nat) (hne : nums ≠ []) (hn : ∀ i ∈ nums, i < frs.length) (hn9 : ∀ i ∈ nums, i < 9) (hm : ∀ i ∈ nums, (fr frs i).size = m) (hm4 : m ≤ 4096)
    (hl : nums.length ≤ 100) (hW : ∀ i, wt i < 256) (w : World) (hr : Red w) (hRf : Rd w vf (strs frs)) (hRn : Rd w vn (nums.map iv)) :
    Fn Tryz.prog 84 #[vf, vn, .agg (row 9 fun j => iv (wt j)).toArray] w fun v w' => v = .string (cmpStr frs nums wt m) ∧ Ext w w' := by
  have hcf := hRf; have hcn := hRn
  obtain ⟨b0, off, c, rfl, hc, hb0, -⟩ := hRn.at (by simpa using hne)
  have hp0 := len_pos hne
  have hi0 := hn _ (nu_mem hp0)
  have hfne : strs frs ≠ [] := by
    intro e
    have h1 : (strs frs).length = 0 := by rw [e]; rfl
    simp only [strs, List.length_map] at h1
    omega
  obtain ⟨b1, off1, c1, rfl, hc1, hb1, -⟩ := hRf.at hfne
  have hlf : (strs frs).length = frs.length := by simp [strs]
  simp only [List.length_map, hlf] at hc hc1 hRf hRn hcf hcn ⊢
  have hm0 := hm _ (nu_mem hp0)
  have hnum : ∀ k, k < nums.length → (nums.map iv)[k]? = some (iv (nu nums k)) := fun k hk => by simp [nu_get hk]
  refine enterM (l := [_, _, _]) rfl Tryz.ntmps84 rfl ?_
  repeat' (first | apply WL.fold | apply WA.fold | apply WL.nil | apply WX.n_then | apply WC.seq | apply WC.region | refine WL.pa ?_ | refine WL.ga rfl ?_ | refine WL.na rfl ?_ | refine WL.nu rfl rfl ?_ | apply WC.block | apply WC.skip | apply WC.exit | apply WC.ret | apply WX.e_block | refine WX.e_other rfl ?_ | apply WX.e_then | apply WX.e_again | apply WX.n_block | apply WX.r_then | apply WX.r_block | apply WX.r_again | refine WC.cond_yes rfl ?_ | refine WC.cond_no rfl ?_ | refine WC.cond rfl (fun hc => ?_) (fun hc => ?_) | refine WC.cond_b rfl (fun hc => ?_) (fun hc => ?_))
  refine WL.one (W1.box' rfl rfl rfl ?_)
  intro c1' w1 e1 s1 x1 k1
  repeat' (first | apply WL.fold | apply WA.fold | apply WL.nil | apply WX.n_then | apply WC.seq | apply WC.region | refine WL.pa ?_ | refine WL.ga rfl ?_ | refine WL.na rfl ?_ | refine WL.nu rfl rfl ?_ | apply WC.block | apply WC.skip | apply WC.exit | apply WC.ret | apply WX.e_block | refine WX.e_other rfl ?_ | apply WX.e_then | apply WX.e_again | apply WX.n_block | apply WX.r_then | apply WX.r_block | apply WX.r_again | refine WC.cond_yes rfl ?_ | refine WC.cond_no rfl ?_ | refine WC.cond rfl (fun hc => ?_) (fun hc => ?_) | refine WC.cond_b rfl (fun hc => ?_) (fun hc => ?_))
  refine WL.one (W1.boxAgg' rfl rfl ?_)
  intro c2 w2 e2 s2 x2 k2
  repeat' (first | apply WL.fold | apply WA.fold | apply WL.nil | apply WX.n_then | apply WC.seq | apply WC.region | refine WL.pa ?_ | refine WL.ga rfl ?_ | refine WL.na rfl ?_ | refine WL.nu rfl rfl ?_ | apply WC.block | apply WC.skip | apply WC.exit | apply WC.ret | apply WX.e_block | refine WX.e_other rfl ?_ | apply WX.e_then | apply WX.e_again | apply WX.n_block | apply WX.r_then | apply WX.r_block | apply WX.r_again | refine WC.cond_yes rfl ?_ | refine WC.cond_no rfl ?_ | refine WC.cond rfl (fun hc => ?_) (fun hc => ?_) | refine WC.cond_b rfl (fun hc => ?_) (fun hc => ?_))
  have x02 := x1.trans x2
  refine WL.load rfl ((k1.ext x2).cell rfl) rfl ?_
  repeat' (first | apply WL.fold | apply WA.fold | apply WL.nil | apply WX.n_then | apply WC.seq | apply WC.region | refine WL.pa ?_ | refine WL.ga rfl ?_ | refine WL.na rfl ?_ | refine WL.nu rfl rfl ?_ | apply WC.block | apply WC.skip | apply WC.exit | apply WC.ret | apply WX.e_block | refine WX.e_other rfl ?_ | apply WX.e_then | apply WX.e_again | apply WX.n_block | apply WX.r_then | apply WX.r_block | apply WX.r_again | refine WC.cond_yes rfl ?_ | refine WC.cond_no rfl ?_ | refine WC.cond rfl (fun hc => ?_) (fun hc => ?_) | refine WC.cond_b rfl (fun hc => ?_) (fun hc => ?_))
  refine WL.load rfl ((hRn.ext x02).cell (hnum 0 hp0)) rfl ?_
  repeat' (first | apply WL.fold | apply WA.fold | apply WL.nil | apply WX.n_then | apply WC.seq | apply WC.region | refine WL.pa ?_ | refine WL.ga rfl ?_ | refine WL.na rfl ?_ | refine WL.nu rfl rfl ?_ | apply WC.block | apply WC.skip | apply WC.exit | apply WC.ret | apply WX.e_block | refine WX.e_other rfl ?_ | apply WX.e_then | apply WX.e_again | apply WX.n_block | apply WX.r_then | apply WX.r_block | apply WX.r_again | refine WC.cond_yes rfl ?_ | refine WC.cond_no rfl ?_ | refine WC.cond rfl (fun hc => ?_) (fun hc => ?_) | refine WC.cond_b rfl (fun hc => ?_) (fun hc => ?_))
  refine WL.load rfl ((hRf.ext x02).cell (strs_get hi0)) rfl ?_
  repeat' (first | apply WL.fold | apply WA.fold | apply WL.nil | apply WX.n_then | apply WC.seq | apply WC.region | refine WL.pa ?_ | refine WL.ga rfl ?_ | refine WL.na rfl ?_ | refine WL.nu rfl rfl ?_ | apply WC.block | apply WC.skip | apply WC.exit | apply WC.ret | apply WX.e_block | refine WX.e_other rfl ?_ | apply WX.e_then | apply WX.e_again | apply WX.n_block | apply WX.r_then | apply WX.r_block | apply WX.r_again | refine WC.cond_yes rfl ?_ | refine WC.cond_no rfl ?_ | refine WC.cond rfl (fun hc => ?_) (fun hc => ?_) | refine WC.cond_b rfl (fun hc => ?_) (fun hc => ?_))
  rw [hm0]
  refine WL.one (W1.make' rfl rfl rfl rfl rfl (Nat.le_refl _) (by omega) (by omega) rfl ?_)
  intro bo w3 e3 s3 x3 k3
  repeat' (first | apply WL.fold | apply WA.fold | apply WL.nil | apply WX.n_then | apply WC.seq | apply WC.region | refine WL.pa ?_ | refine WL.ga rfl ?_ | refine WL.na rfl ?_ | refine WL.nu rfl rfl ?_ | apply WC.block | apply WC.skip | apply WC.exit | apply WC.ret | apply WX.e_block | refine WX.e_other rfl ?_ | apply WX.e_then | apply WX.e_again | apply WX.n_block | apply WX.r_then | apply WX.r_block | apply WX.r_again | refine WC.cond_yes rfl ?_ | refine WC.cond_no rfl ?_ | refine WC.cond rfl (fun hc => ?_) (fun hc => ?_) | refine WC.cond_b rfl (fun hc => ?_) (fun hc => ?_))
  refine WL.one (W1.alloc' (cs := [.slice none 0 0]) rfl rfl ?_)
  intro bv w4 e4 s4 x4 k4
  repeat' (first | apply WL.fold | apply WA.fold | apply WL.nil | apply WX.n_then | apply WC.seq | apply WC.region | refine WL.pa ?_ | refine WL.ga rfl ?_ | refine WL.na rfl ?_ | refine WL.nu rfl rfl ?_ | apply WC.block | apply WC.skip | apply WC.exit | apply WC.ret | apply WX.e_block | refine WX.e_other rfl ?_ | apply WX.e_then | apply WX.e_again | apply WX.n_block | apply WX.r_then | apply WX.r_block | apply WX.r_again | refine WC.cond_yes rfl ?_ | refine WC.cond_no rfl ?_ | refine WC.cond rfl (fun hc => ?_) (fun hc => ?_) | refine WC.cond_b rfl (fun hc => ?_) (fun hc => ?_))
  refine WL.one (W1.store' rfl rfl (by intro _ h; cases h) (by intro _ h; cases h) k4 (by decide) fun w5 u5 k5 => ?_)
  simp only [List.set_cons_zero] at k5
  have x05 : Ext w w5 := u5.ext ((x02.trans x3).trans x4) (by omega)
  have x25 : Ext w2 w5 := u5.ext (x3.trans x4) (by omega)
  have k35 : Blk w5 bo _ _ := (k3.ext x4).keep1 u5 (by omega)
  repeat' (first | apply WL.fold | apply WA.fold | apply WL.nil | apply WX.n_then | apply WC.seq | apply WC.region | refine WL.pa ?_ | refine WL.ga rfl ?_ | refine WL.na rfl ?_ | refine WL.nu rfl rfl ?_ | apply WC.block | apply WC.skip | apply WC.exit | apply WC.ret | apply WX.e_block | refine WX.e_other rfl ?_ | apply WX.e_then | apply WX.e_again | apply WX.n_block | apply WX.r_then | apply WX.r_block | apply WX.r_again | refine WC.cond_yes rfl ?_ | refine WC.cond_no rfl ?_ | refine WC.cond rfl (fun hc => ?_) (fun hc => ?_) | refine WC.cond_b rfl (fun hc => ?_) (fun hc => ?_))
  refine WL.load rfl ((k1.ext (x2.trans x25)).cell rfl) rfl ?_
  repeat' (first | apply WL.fold | apply WA.fold | apply WL.nil | apply WX.n_then | apply WC.seq | apply WC.region | refine WL.pa ?_ | refine WL.ga rfl ?_ | refine WL.na rfl ?_ | refine WL.nu rfl rfl ?_ | apply WC.block | apply WC.skip | apply WC.exit | apply WC.ret | apply WX.e_block | refine WX.e_other rfl ?_ | apply WX.e_then | apply WX.e_again | apply WX.n_block | apply WX.r_then | apply WX.r_block | apply WX.r_again | refine WC.cond_yes rfl ?_ | refine WC.cond_no rfl ?_ | refine WC.cond rfl (fun hc => ?_) (fun hc => ?_) | refine WC.cond_b rfl (fun hc => ?_) (fun hc => ?_))
  refine WL.call rfl rfl (columns_fn _ _ rfl rfl _) ?_
  rintro _ w6 ⟨c3, c4, rfl, x6, hc3, hc4, k6, k7⟩
  repeat' (first | apply WL.fold | apply WA.fold | apply WL.nil | apply WX.n_then | apply WC.seq | apply WC.region | refine WL.pa ?_ | refine WL.ga rfl ?_ | refine WL.na rfl ?_ | refine WL.nu rfl rfl ?_ | apply WC.block | apply WC.skip | apply WC.exit | apply WC.ret | apply WX.e_block | refine WX.e_other rfl ?_ | apply WX.e_then | apply WX.e_again | apply WX.n_block | apply WX.r_then | apply WX.r_block | apply WX.r_again | refine WC.cond_yes rfl ?_ | refine WC.cond_no rfl ?_ | refine WC.cond rfl (fun hc => ?_) (fun hc => ?_) | refine WC.cond_b rfl (fun hc => ?_) (fun hc => ?_))
  refine WC.sub [(4, .pointer (some ⟨c1', 0, none⟩)), (5, .pointer (some ⟨c2, 0, none⟩)), (7, .pointer (some ⟨bv, 0, none⟩)), (23, .func (.func 175) #[] #[.pointer (some ⟨c3, 0, none⟩), .pointer (some ⟨c4, 0, none⟩)])] ?_ ⟨rfl, rfl, rfl, rfl, trivial⟩
  refine WC.rangeFunc' (lb := [_, _]) rfl ?_
  intro w7 D l L hL hD hl' s7 x7 hL7 hD7
  have x57 := x6.trans x7
  have x07 := x05.trans x57
  have hlt1 := k1.lt
  have hlt5 := k5.lt
  have sz5 : w5.heap.size = bv + 1 := by rw [u5.size]; exact s4
  have sz6 := x6.size
  have vlt := k6.lt; have vlt7 := k7.lt
  refine (columns1_fn l c3 c4 (.slice (some ⟨b1, off1, none⟩) frs.length c1) (.slice (some ⟨b0, off, none⟩) nums.length c) frs nums m hne hn hm hm4 hl
    (fun j V => L .ready none V ∧ V.heap[D]? = some (.deferred (some [])) ∧ Ext w V ∧ Blk V c1' [.slice (some ⟨b0, off, none⟩) nums.length c] 38 ∧ Blk V c2 (row 9 fun j => iv (wt j)) 155 ∧
      Blk V bv [.slice (some ⟨bo, 0, none⟩) m m] 55 ∧ Blk V bo (row m fun q => .int .u8 (if q < j then ((cmpS frs nums wt q : Nat) : Int) else 0)) 5 ∧ Blk V c3 [.slice (some ⟨b1, off1, none⟩) frs.length c1] 69 ∧ Blk V c4 [.slice (some ⟨b0, off, none⟩) nums.length c] 38)
    ?hII ?hEE ?hYY w7 ?hZZ).mono ?_
  case hII => exact fun j V h => ⟨h.2.2.2.2.2.2.2.1, h.2.2.2.2.2.2.2.2, hRf.ext h.2.2.1, hRn.ext h.2.2.1⟩
  case hEE =>
    rintro j V V' ⟨h1, h2, h3, h4, h5, h6, h7, h8, h9⟩ hx
    refine ⟨(hL _ _ _).2 (((hL _ _ _).1 h1).ext hx), (hx.block D (Array.getElem?_eq_some_iff.1 h2).1).trans h2, h3.trans hx, h4.ext hx, h5.ext hx, h6.ext hx, h7.ext hx, h8.ext hx, h9.ext hx⟩
  case hZZ =>
    refine ⟨hL7, hD7, x07, k1.ext (x2.trans (x25.trans x57)), k2.ext (x25.trans x57), k5.ext x57, ?_, k6.ext x7, k7.ext x7⟩
    exact (congrArg (fun l => Blk w7 bo l _) ((row_rep _ _).trans (row_congr fun q _ => by simp))).mp (k35.ext x57)
  case hYY =>
    rintro j V vb hj ⟨h1, h2, h3, h4, h5, h6, h7, h8, h9⟩ hvb
    obtain ⟨bb, offb, cb, rfl, hcb, hbb, -⟩ := hvb.at (by simpa using hne)
    simp only [List.length_map] at hcb hvb ⊢
    refine Yld.of ((hL _ _ _).1 h1) rfl rfl ?_
    repeat' (first | apply WL.fold | apply WA.fold | apply WL.nil | apply WX.n_then | apply WC.seq | apply WC.region | refine WL.pa ?_ | refine WL.ga rfl ?_ | refine WL.na rfl ?_ | refine WL.nu rfl rfl ?_ | apply WC.block | apply WC.skip | apply WC.exit | apply WC.ret | apply WX.e_block | refine WX.e_other rfl ?_ | apply WX.e_then | apply WX.e_again | apply WX.n_block | apply WX.r_then | apply WX.r_block | apply WX.r_again | refine WC.cond_yes rfl ?_ | refine WC.cond_no rfl ?_ | refine WC.cond rfl (fun hc => ?_) (fun hc => ?_) | refine WC.cond_b rfl (fun hc => ?_) (fun hc => ?_))
    refine WX.ra ((hL _ _ _).1 h1) (fun V1 u1 hL1 => ?_)
    have g3 : Ext w V1 := u1.ext h3 (by omega)
    have g4 := h4.loop1 ((hL _ _ _).1 h1) u1
    have g5 := h5.loop1 ((hL _ _ _).1 h1) u1
    have g6 := h6.loop1 ((hL _ _ _).1 h1) u1
    have g7 := h7.loop1 ((hL _ _ _).1 h1) u1
    have g8 := h8.loop1 ((hL _ _ _).1 h1) u1
    have g9 := h9.loop1 ((hL _ _ _).1 h1) u1
    have gvb := hvb.loop1 ((hL _ _ _).1 h1) u1
    have g2 : V1.heap[D]? = some (.deferred (some [])) := (u1.block D (by omega)).trans h2
    repeat' (first | apply WL.fold | apply WA.fold | apply WL.nil | apply WX.n_then | apply WC.seq | apply WC.region | refine WL.pa ?_ | refine WL.ga rfl ?_ | refine WL.na rfl ?_ | refine WL.nu rfl rfl ?_ | apply WC.block | apply WC.skip | apply WC.exit | apply WC.ret | apply WX.e_block | refine WX.e_other rfl ?_ | apply WX.e_then | apply WX.e_again | apply WX.n_block | apply WX.r_then | apply WX.r_block | apply WX.r_again | refine WC.cond_yes rfl ?_ | refine WC.cond_no rfl ?_ | refine WC.cond rfl (fun hc => ?_) (fun hc => ?_) | refine WC.cond_b rfl (fun hc => ?_) (fun hc => ?_))
    refine WL.load rfl (g4.cell rfl) rfl ?_
    repeat' (first | apply WL.fold | apply WA.fold | apply WL.nil | apply WX.n_then | apply WC.seq | apply WC.region | refine WL.pa ?_ | refine WL.ga rfl ?_ | refine WL.na rfl ?_ | refine WL.nu rfl rfl ?_ | apply WC.block | apply WC.skip | apply WC.exit | apply WC.ret | apply WX.e_block | refine WX.e_other rfl ?_ | apply WX.e_then | apply WX.e_again | apply WX.n_block | apply WX.r_then | apply WX.r_block | apply WX.r_again | refine WC.cond_yes rfl ?_ | refine WC.cond_no rfl ?_ | refine WC.cond rfl (fun hc => ?_) (fun hc => ?_) | refine WC.cond_b rfl (fun hc => ?_) (fun hc => ?_))
    refine WC.loop (α := Nat) (fun k => [(4, .pointer (some ⟨c1', 0, none⟩)), (5, .pointer (some ⟨c2, 0, none⟩)), (7, .pointer (some ⟨bv, 0, none⟩)), (8, iv j), (9, .slice (some ⟨bb, offb, none⟩) nums.length cb),
        (10, iv ((nums.take k).foldl (cmpF frs wt j) 0)), (26, .slice (some ⟨b0, off, none⟩) nums.length c), (27, iv nums.length), (28, iv k)])
      (fun k V2 => k ≤ nums.length ∧ Ext V1 V2) (fun k => nums.length - k) 0 ⟨rfl, rfl, rfl, rfl, rfl, rfl, rfl, rfl, rfl, trivial⟩ ⟨by omega, Ext.refl _⟩ ?_
    rintro k V2 ⟨hk, hx2⟩
    have hrV : Red V2 := hr.ext (g3.trans hx2)
    have hacc := cmpFold_lt frs wt j (nums.take k) 0 (by decide)
    by_cases hklt : k < nums.length
    · have hik := hn _ (nu_mem hklt)
      have hi9 := hn9 _ (nu_mem hklt)
      have hstep : (nums.take (k + 1)).foldl (cmpF frs wt j) 0 = cmpF frs wt j ((nums.take k).foldl (cmpF frs wt j) 0) (nu nums k) := by
        rw [take_succ_foldl _ _ _ _ hklt]; simp [nu, hklt]
      generalize hA : (nums.take k).foldl (cmpF frs wt j) 0 = A at *
      have hsb := sb_lt (fr frs (nu nums k)) j
      have hcb : V2.cell? ⟨bb, offb + k, none⟩ = some (iv (sb (fr frs (nu nums k)) j)) := by
        refine cell_ext hx2 (gvb.cell ?_)
        simp [nu_get hklt]
      repeat' (first | apply WL.fold | apply WA.fold | apply WL.nil | apply WX.n_then | apply WC.seq | apply WC.region | refine WL.pa ?_ | refine WL.ga rfl ?_ | refine WL.na rfl ?_ | refine WL.nu rfl rfl ?_ | apply WC.block | apply WC.skip | apply WC.exit | apply WC.ret | apply WX.e_block | refine WX.e_other rfl ?_ | apply WX.e_then | apply WX.e_again | apply WX.n_block | apply WX.r_then | apply WX.r_block | apply WX.r_again | refine WC.cond_yes rfl ?_ | refine WC.cond_no rfl ?_ | refine WC.cond rfl (fun hc => ?_) (fun hc => ?_) | refine WC.cond_b rfl (fun hc => ?_) (fun hc => ?_))
      refine WL.load rfl ((hRn.ext (g3.trans hx2)).cell (hnum k hklt)) rfl ?_
      repeat' (first | apply WL.fold | apply WA.fold | apply WL.nil | apply WX.n_then | apply WC.seq | apply WC.region | refine WL.pa ?_ | refine WL.ga rfl ?_ | refine WL.na rfl ?_ | refine WL.nu rfl rfl ?_ | apply WC.block | apply WC.skip | apply WC.exit | apply WC.ret | apply WX.e_block | refine WX.e_other rfl ?_ | apply WX.e_then | apply WX.e_again | apply WX.n_block | apply WX.r_then | apply WX.r_block | apply WX.r_again | refine WC.cond_yes rfl ?_ | refine WC.cond_no rfl ?_ | refine WC.cond rfl (fun hc => ?_) (fun hc => ?_) | refine WC.cond_b rfl (fun hc => ?_) (fun hc => ?_))
      apply WC.quiet (by kernel_rfl)
      refine QL.pa ?_
      refine QL.pa ?_
      refine QL.pa ?_
      refine QL.load rfl ((g5.ext hx2).cell (row_get _ hi9)) rfl ?_
      refine QL.pa ?_
      refine QL.pa ?_
      refine QL.pa ?_
      refine QL.load rfl hcb rfl ?_
      refine QL.call rfl rfl (fun w' hw' => (mul_yes _ _ (hW _) hsb w' (hrV.ext hw')).mono fun u w'' h => ⟨h.1, h.2 ▸ Ext.refl _⟩) ?_
      have hm8 : mulN (wt (nu nums k)) (sb (fr frs (nu nums k)) j) < 256 := mulN_lt
      refine QL.pa ?_
      refine QL.pa ?_
      refine QL.nil (fun V3 hx3 => ?_)
      repeat' (first | apply WL.fold | apply WA.fold | apply WL.nil | apply WX.n_then | apply WC.seq | apply WC.region | refine WL.pa ?_ | refine WL.ga rfl ?_ | refine WL.na rfl ?_ | refine WL.nu rfl rfl ?_ | apply WC.block | apply WC.skip | apply WC.exit | apply WC.ret | apply WX.e_block | refine WX.e_other rfl ?_ | apply WX.e_then | apply WX.e_again | apply WX.n_block | apply WX.r_then | apply WX.r_block | apply WX.r_again | refine WC.cond_yes rfl ?_ | refine WC.cond_no rfl ?_ | refine WC.cond rfl (fun hc => ?_) (fun hc => ?_) | refine WC.cond_b rfl (fun hc => ?_) (fun hc => ?_))
      refine WX.again (k + 1) ⟨by omega, hx2.trans hx3⟩ (by omega) ⟨rfl, rfl, rfl, rfl, rfl, ?_, rfl, rfl, rfl, trivial⟩
      rw [hstep]; rfl
    · obtain rfl : k = nums.length := by omega
      have hS : (nums.take nums.length).foldl (cmpF frs wt j) 0 = cmpS frs nums wt j := by rw [List.take_length]; rfl
      rw [hS] at hacc ⊢
      repeat' (first | apply WL.fold | apply WA.fold | apply WL.nil | apply WX.n_then | apply WC.seq | apply WC.region | refine WL.pa ?_ | refine WL.ga rfl ?_ | refine WL.na rfl ?_ | refine WL.nu rfl rfl ?_ | apply WC.block | apply WC.skip | apply WC.exit | apply WC.ret | apply WX.e_block | refine WX.e_other rfl ?_ | apply WX.e_then | apply WX.e_again | apply WX.n_block | apply WX.r_then | apply WX.r_block | apply WX.r_again | refine WC.cond_yes rfl ?_ | refine WC.cond_no rfl ?_ | refine WC.cond rfl (fun hc => ?_) (fun hc => ?_) | refine WC.cond_b rfl (fun hc => ?_) (fun hc => ?_))
      refine WL.load rfl ((g6.ext hx2).cell rfl) rfl ?_
      repeat' (first | apply WL.fold | apply WA.fold | apply WL.nil | apply WX.n_then | apply WC.seq | apply WC.region | refine WL.pa ?_ | refine WL.ga rfl ?_ | refine WL.na rfl ?_ | refine WL.nu rfl rfl ?_ | apply WC.block | apply WC.skip | apply WC.exit | apply WC.ret | apply WX.e_block | refine WX.e_other rfl ?_ | apply WX.e_then | apply WX.e_again | apply WX.n_block | apply WX.r_then | apply WX.r_block | apply WX.r_again | refine WC.cond_yes rfl ?_ | refine WC.cond_no rfl ?_ | refine WC.cond rfl (fun hc => ?_) (fun hc => ?_) | refine WC.cond_b rfl (fun hc => ?_) (fun hc => ?_))
      refine WL.one (W1.store' rfl rfl (by intro _ h; cases h) (by intro _ h; cases h) (g7.ext hx2) (by rw [row_len]; omega) fun V3 u3 hB => ?_)
      repeat' (first | apply WL.fold | apply WA.fold | apply WL.nil | apply WX.n_then | apply WC.seq | apply WC.region | refine WL.pa ?_ | refine WL.ga rfl ?_ | refine WL.na rfl ?_ | refine WL.nu rfl rfl ?_ | apply WC.block | apply WC.skip | apply WC.exit | apply WC.ret | apply WX.e_block | refine WX.e_other rfl ?_ | apply WX.e_then | apply WX.e_again | apply WX.n_block | apply WX.r_then | apply WX.r_block | apply WX.r_again | refine WC.cond_yes rfl ?_ | refine WC.cond_no rfl ?_ | refine WC.cond rfl (fun hc => ?_) (fun hc => ?_) | refine WC.cond_b rfl (fun hc => ?_) (fun hc => ?_))
      have hlbo : l ≠ bo := by omega
      have hDbo : D ≠ bo := by omega
      have hDl : D ≠ l := by omega
      have hL2 := hL1.ext hx2
      have hL3 := hL2.keep (u3.block l hlbo)
      refine WX.rp_n hL3 (fun V4 u4 hL4 => ?_)
      have g24 : V4.heap[D]? = some (.deferred (some [])) :=
        (u4.block D hDl).trans ((u3.block D hDbo).trans ((hx2.block D (Array.getElem?_eq_some_iff.1 g2).1).trans g2))
      refine ⟨rfl, (hL _ _ _).2 hL4, g24, u4.ext (u3.ext (g3.trans hx2) (by omega)) (by omega), ((g4.ext hx2).keep1 u3 (by omega)).loop1 hL3 u4, ((g5.ext hx2).keep1 u3 (by omega)).loop1 hL3 u4,
        ((g6.ext hx2).keep1 u3 (by omega)).loop1 hL3 u4, ?_, ((g8.ext hx2).keep1 u3 (by omega)).loop1 hL3 u4, ((g9.ext hx2).keep1 u3 (by omega)).loop1 hL3 u4⟩
      rw [row_set] at hB
      refine ((congrArg (fun l => Blk V3 bo l _) (row_congr fun q hq => ?_)).mp hB).loop1 hL3 u4
      by_cases e : q = j
      · subst e; simp
      · have : (q < j + 1) = (q < j) := by simp only [eq_iff_iff]; omega
        simp only [e, if_false, this]
  · rintro v8 w8 ⟨h1, h2, h3, h4, h5, h6, h7, h8, h9⟩
    refine .inl ⟨h1, fun w9 u9 => ?_⟩
    have h1' := (hL _ _ _).1 h1
    have f6 := h6.loop1 h1' u9
    have f7 := h7.loop1 h1' u9
    have f2 : w9.heap[D]? = some (.deferred (some [])) := (u9.block D (by omega)).trans h2
    have f3 : Ext w w9 := u9.ext h3 (by omega)
    repeat' (first | apply WL.fold | apply WA.fold | apply WL.nil | apply WX.n_then | apply WC.seq | apply WC.region | refine WL.pa ?_ | refine WL.ga rfl ?_ | refine WL.na rfl ?_ | refine WL.nu rfl rfl ?_ | apply WC.block | apply WC.skip | apply WC.exit | apply WC.ret | apply WX.e_block | refine WX.e_other rfl ?_ | apply WX.e_then | apply WX.e_again | apply WX.n_block | apply WX.r_then | apply WX.r_block | apply WX.r_again | refine WC.cond_yes rfl ?_ | refine WC.cond_no rfl ?_ | refine WC.cond rfl (fun hc => ?_) (fun hc => ?_) | refine WC.cond_b rfl (fun hc => ?_) (fun hc => ?_))
    refine WL.load rfl (f6.cell rfl) rfl ?_
    repeat' (first | apply WL.fold | apply WA.fold | apply WL.nil | apply WX.n_then | apply WC.seq | apply WC.region | refine WL.pa ?_ | refine WL.ga rfl ?_ | refine WL.na rfl ?_ | refine WL.nu rfl rfl ?_ | apply WC.block | apply WC.skip | apply WC.exit | apply WC.ret | apply WX.e_block | refine WX.e_other rfl ?_ | apply WX.e_then | apply WX.e_again | apply WX.n_block | apply WX.r_then | apply WX.r_block | apply WX.r_again | refine WC.cond_yes rfl ?_ | refine WC.cond_no rfl ?_ | refine WC.cond rfl (fun hc => ?_) (fun hc => ?_) | refine WC.cond_b rfl (fun hc => ?_) (fun hc => ?_))
    refine WL.one (W1.bytes_string (l := (List.range m).map fun q => UInt8.ofNat (cmpS frs nums wt q)) rfl (by simp) (fun q hq => ?_) rfl ?_)
    · have hq' : q < m := by simpa using hq
      have := cmpS_lt frs nums wt q
      rw [add_lit]
      refine f7.cell ?_
      rw [Nat.zero_add, row_get _ hq', if_pos hq']
      simp
      omega
    repeat' (first | apply WL.fold | apply WA.fold | apply WL.nil | apply WX.n_then | apply WC.seq | apply WC.region | refine WL.pa ?_ | refine WL.ga rfl ?_ | refine WL.na rfl ?_ | refine WL.nu rfl rfl ?_ | apply WC.block | apply WC.skip | apply WC.exit | apply WC.ret | apply WX.e_block | refine WX.e_other rfl ?_ | apply WX.e_then | apply WX.e_again | apply WX.n_block | apply WX.r_then | apply WX.r_block | apply WX.r_again | refine WC.cond_yes rfl ?_ | refine WC.cond_no rfl ?_ | refine WC.cond rfl (fun hc => ?_) (fun hc => ?_) | refine WC.cond_b rfl (fun hc => ?_) (fun hc => ?_))
    refine WX.retM1 rfl rfl f2 fun w10 u10 => ⟨rfl, u10.ext f3 (by omega)⟩
end Go.Sx
/- Chapter 17: isCode, strings.Repeat, Split. -/
namespace Go.Sx
open Go Go.Proofs
theorem rep0 : ∀ n, Lib.repeatL [0] n = List.replicate n 0
  | 0 => rfl
  | n + 1 => by rw [Lib.repeatL, rep0 n]; rfl
theorem repeat0_fn (c : Nat) (w : World) (hc : c ≤ 100000) : Fn Tryz.prog 82 #[.string (ByteArray.mk #[0]), .int .i64 (c : Int)] w fun v w' => v = .string (zeros c) ∧ Ext w w' := by
  have := Tryz.strings_Repeat (ByteArray.mk #[0]) c w (by omega) (by
    have : (ByteArray.mk #[0]).size = 1 := rfl
    rw [this]; omega)
  refine Calls.mono this ?_
  rintro e w' ⟨rfl, h2⟩
  have h3 : (ByteArray.mk #[0]).data.toList = [0] := rfl
  exact ⟨_, rfl, by rw [h3, rep0]; rfl, h2⟩
attribute [local irreducible] WC WL WX POp Then Again Fn NX W1 WA WO QL RP RA Yld LoopAt
theorem isCode_fn (k n : Int) (w : World) : Fn Tryz.prog 81 #[.int .i64 k, .int .i64 n] w fun v w' => v = .bool (decide (isC k n)) ∧ w = w' := by
  refine enter (l := [_, _]) rfl Tryz.ntmps81 rfl ?_
  by_cases h1 : 1 ≤ k
  · by_cases h2 : k ≤ n
    · by_cases h3 : n ≤ 9
      · repeat' (first | apply WL.fold | apply WA.fold | apply WL.nil | apply WX.n_then | apply WC.seq | apply WC.region | refine WL.pa ?_ | refine WL.ga rfl ?_ | refine WL.na rfl ?_ | refine WL.nu rfl rfl ?_ | apply WC.block | apply WC.skip | apply WC.exit | apply WC.ret | apply WX.e_block | refine WX.e_other rfl ?_ | apply WX.e_then | apply WX.e_again | apply WX.n_block | apply WX.r_then | apply WX.r_block | apply WX.r_again | refine WC.cond_yes rfl ?_ | refine WC.cond_no rfl ?_ | refine WC.cond rfl (fun hc => ?_) (fun hc => ?_) | refine WC.cond_b rfl (fun hc => ?_) (fun hc => ?_))
        exact WX.ret1 rfl rfl ⟨by simp [isC, h1, h2, h3], rfl⟩
      · repeat' (first | apply WL.fold | apply WA.fold | apply WL.nil | apply WX.n_then | apply WC.seq | apply WC.region | refine WL.pa ?_ | refine WL.ga rfl ?_ | refine WL.na rfl ?_ | refine WL.nu rfl rfl ?_ | apply WC.block | apply WC.skip | apply WC.exit | apply WC.ret | apply WX.e_block | refine WX.e_other rfl ?_ | apply WX.e_then | apply WX.e_again | apply WX.n_block | apply WX.r_then | apply WX.r_block | apply WX.r_again | refine WC.cond_yes rfl ?_ | refine WC.cond_no rfl ?_ | refine WC.cond rfl (fun hc => ?_) (fun hc => ?_) | refine WC.cond_b rfl (fun hc => ?_) (fun hc => ?_))
        exact WX.ret1 rfl rfl ⟨by simp [isC, h1, h2, h3], rfl⟩
    · repeat' (first | apply WL.fold | apply WA.fold | apply WL.nil | apply WX.n_then | apply WC.seq | apply WC.region | refine WL.pa ?_ | refine WL.ga rfl ?_ | refine WL.na rfl ?_ | refine WL.nu rfl rfl ?_ | apply WC.block | apply WC.skip | apply WC.exit | apply WC.ret | apply WX.e_block | refine WX.e_other rfl ?_ | apply WX.e_then | apply WX.e_again | apply WX.n_block | apply WX.r_then | apply WX.r_block | apply WX.r_again | refine WC.cond_yes rfl ?_ | refine WC.cond_no rfl ?_ | refine WC.cond rfl (fun hc => ?_) (fun hc => ?_) | refine WC.cond_b rfl (fun hc => ?_) (fun hc => ?_))
      exact WX.ret1 rfl rfl ⟨by simp [isC, h1, h2], rfl⟩
  · repeat' (first | apply WL.fold | apply WA.fold | apply WL.nil | apply WX.n_then | apply WC.seq | apply WC.region | refine WL.pa ?_ | refine WL.ga rfl ?_ | refine WL.na rfl ?_ | refine WL.nu rfl rfl ?_ | apply WC.block | apply WC.skip | apply WC.exit | apply WC.ret | apply WX.e_block | refine WX.e_other rfl ?_ | apply WX.e_then | apply WX.e_again | apply WX.n_block | apply WX.r_then | apply WX.r_block | apply WX.r_again | refine WC.cond_yes rfl ?_ | refine WC.cond_no rfl ?_ | refine WC.cond rfl (fun hc => ?_) (fun hc => ?_) | refine WC.cond_b rfl (fun hc => ?_) (fun hc => ?_))
    exact WX.ret1 rfl rfl ⟨by simp [isC, h1], rfl⟩
theorem split_new (s : ByteArray) (k n : Nat) (hk : 1 ≤ k) (hkn : k ≤ n) (hn : n ≤ 9) (hs : s.size ≤ 4096 * k) (w : World) (hr : Red w) :
    Fn Tryz.prog 40 #[.string s, .int .i64 (k : Int), .int .i64 (n : Int)] w fun v w' => ∃ b, w.heap.size ≤ b ∧ v = .tuple #[.slice (some ⟨b, 0, none⟩) n n, .int .i64 0] ∧ Rd w' (.slice (some ⟨b, 0, none⟩) n n) (strs (codeL s k n)) ∧ Ext w w' := by
  have hisC : isC k n := ⟨by omega, by omega, by omega⟩
  refine enter (l := [_, _, _]) rfl Tryz.ntmps40 rfl ?_
  repeat' (first | apply WL.fold | apply WA.fold | apply WL.nil | apply WX.n_then | apply WC.seq | apply WC.region | refine WL.pa ?_ | refine WL.ga rfl ?_ | refine WL.na rfl ?_ | refine WL.nu rfl rfl ?_ | apply WC.block | apply WC.skip | apply WC.exit | apply WC.ret | apply WX.e_block | refine WX.e_other rfl ?_ | apply WX.e_then | apply WX.e_again | apply WX.n_block | apply WX.r_then | apply WX.r_block | apply WX.r_again | refine WC.cond_yes rfl ?_ | refine WC.cond_no rfl ?_ | refine WC.cond rfl (fun hc => ?_) (fun hc => ?_) | refine WC.cond_b rfl (fun hc => ?_) (fun hc => ?_))
  refine WL.call rfl rfl (isCode_fn _ _ _) ?_
  rintro _ w1 ⟨rfl, rfl⟩
  simp only [hisC, decide_true]
  repeat' (first | apply WL.fold | apply WA.fold | apply WL.nil | apply WX.n_then | apply WC.seq | apply WC.region | refine WL.pa ?_ | refine WL.ga rfl ?_ | refine WL.na rfl ?_ | refine WL.nu rfl rfl ?_ | apply WC.block | apply WC.skip | apply WC.exit | apply WC.ret | apply WX.e_block | refine WX.e_other rfl ?_ | apply WX.e_then | apply WX.e_again | apply WX.n_block | apply WX.r_then | apply WX.r_block | apply WX.r_again | refine WC.cond_yes rfl ?_ | refine WC.cond_no rfl ?_ | refine WC.cond rfl (fun hc => ?_) (fun hc => ?_) | refine WC.cond_b rfl (fun hc => ?_) (fun hc => ?_))
  have hquo : ((s.size : Int) + k - 1) / k = ((mOf s.size k : Nat) : Int) := by
    unfold mOf
    rw [Int.natCast_ediv]
    congr 1
    omega
  have hm1 := mOf_ge s.size (show 0 < k by omega)
  have hm2 := mOf_le (show 0 < k by omega) hs
  have hm3 : k * mOf s.size k ≤ 36864 := Nat.le_trans (Nat.mul_le_mul (show k ≤ 9 by omega) hm2) (by decide)
  have hpad := padS_size s (show 0 < k by omega)
  have hparts : ∀ i, i < k → codeA s k i = (padS s k).extract (i * mOf s.size k) ((i + 1) * mOf s.size k) := fun i h => by simp [codeA, h, partOf]
  rw [hquo]
  have hzs : padS s k = s ++ zeros (k * mOf s.size k - s.size) := rfl
  have hcs := codeA_size s k
  generalize hM : mOf s.size k = M at *
  have hkm : (k : Int) * (M : Int) = ((k * M : Nat) : Int) := by rw [Int.natCast_mul]
  have hkm2 : (k : Int) * (M : Int) - (s.size : Int) = ((k * M - s.size : Nat) : Int) := by omega
  repeat' (first | apply WL.fold | apply WA.fold | apply WL.nil | apply WX.n_then | apply WC.seq | apply WC.region | refine WL.pa ?_ | refine WL.ga rfl ?_ | refine WL.na rfl ?_ | refine WL.nu rfl rfl ?_ | apply WC.block | apply WC.skip | apply WC.exit | apply WC.ret | apply WX.e_block | refine WX.e_other rfl ?_ | apply WX.e_then | apply WX.e_again | apply WX.n_block | apply WX.r_then | apply WX.r_block | apply WX.r_again | refine WC.cond_yes rfl ?_ | refine WC.cond_no rfl ?_ | refine WC.cond rfl (fun hc => ?_) (fun hc => ?_) | refine WC.cond_b rfl (fun hc => ?_) (fun hc => ?_))
  rw [hkm2]
  refine WL.call rfl rfl (repeat0_fn _ _ (by omega)) ?_
  rintro _ w1 ⟨rfl, x1⟩
  have hzz := zeros_size (k * M - s.size)
  repeat' (first | apply WL.fold | apply WA.fold | apply WL.nil | apply WX.n_then | apply WC.seq | apply WC.region | refine WL.pa ?_ | refine WL.ga rfl ?_ | refine WL.na rfl ?_ | refine WL.nu rfl rfl ?_ | apply WC.block | apply WC.skip | apply WC.exit | apply WC.ret | apply WX.e_block | refine WX.e_other rfl ?_ | apply WX.e_then | apply WX.e_again | apply WX.n_block | apply WX.r_then | apply WX.r_block | apply WX.r_again | refine WC.cond_yes rfl ?_ | refine WC.cond_no rfl ?_ | refine WC.cond rfl (fun hc => ?_) (fun hc => ?_) | refine WC.cond_b rfl (fun hc => ?_) (fun hc => ?_))
  rw [← hzs]
  generalize padS s k = S at *
  refine WC.cutT (α := Nat × Nat) (fun z => [(0, .string S), (1, iv k), (2, iv n), (8, iv M), (9, .slice (some ⟨z.1, 0, none⟩) k n), (10, .slice (some ⟨z.2, 0, none⟩) k k)])
    (fun z w' => z.1 ≠ z.2 ∧ Ext w1 w' ∧ w1.heap.size ≤ z.1 ∧ w1.heap.size ≤ z.2 ∧ Blk w' z.1 (row n fun _ => .string (ByteArray.mk #[])) 9 ∧ Blk w' z.2 (row k fun _ => iv 0) 3) ?_ ?_
  · refine WC.any rfl (fun w2 x2 _ => ?_)
    refine WA.pa 0 rfl ?_
    refine WA.pa 1 rfl ?_
    refine WA.pa 3 rfl ?_
    refine WA.all [2, 4] (by kernel_rfl) rfl ⟨⟨_, rfl, ?_⟩, ⟨_, rfl, ?_⟩, trivial⟩
    · refine WO.one (W1.make' rfl rfl rfl rfl rfl (by omega) (by omega) (by omega) rfl ?_)
      intro b3 w3 e3 s3 x3 k3
      apply WA.fold
      refine WA.pa 5 rfl ?_
      refine WA.all [4] (by kernel_rfl) rfl ⟨⟨_, rfl, ?_⟩, trivial⟩
      refine WO.one (W1.make' rfl rfl rfl rfl rfl (by omega) (by omega) (by omega) rfl ?_)
      intro b4 w4 e4 s4 x4 k4
      apply WA.fold
      refine WA.pa 6 rfl ?_
      apply WA.done (by kernel_rfl)
      refine WX.cut (b3, b4) ⟨by show b3 ≠ b4; omega, x2.trans (x3.trans x4), by show _ ≤ b3; have := x2.size; omega, by show _ ≤ b4; have := x2.size; omega, ?_, ?_⟩ ⟨rfl, rfl, rfl, rfl, rfl, rfl, trivial⟩
      · rw [← row_rep]; exact k3.ext x4
      · rw [← row_rep]; exact k4
    · refine WO.one (W1.make' rfl rfl rfl rfl rfl (by omega) (by omega) (by omega) rfl ?_)
      intro b4 w4 e4 s4 x4 k4
      apply WA.fold
      refine WA.all [2] (by kernel_rfl) rfl ⟨⟨_, rfl, ?_⟩, trivial⟩
      refine WO.one (W1.make' rfl rfl rfl rfl rfl (by omega) (by omega) (by omega) rfl ?_)
      intro b3 w3 e3 s3 x3 k3
      apply WA.fold
      refine WA.pa 5 rfl ?_
      refine WA.pa 6 rfl ?_
      apply WA.done (by kernel_rfl)
      refine WX.cut (b3, b4) ⟨by show b3 ≠ b4; omega, x2.trans (x4.trans x3), by show _ ≤ b3; have := x2.size; omega, by show _ ≤ b4; have := x2.size; omega, ?_, ?_⟩ ⟨rfl, rfl, rfl, rfl, rfl, rfl, trivial⟩
      · rw [← row_rep]; exact k3
      · rw [← row_rep]; exact k4.ext x3
  · rintro ⟨bo, bn⟩ w2 ⟨hne, x2, hbo, hbn, k3, k4⟩
    dsimp only at hne hbo hbn k3 k4 ⊢
    repeat' (first | apply WL.fold | apply WA.fold | apply WL.nil | apply WX.n_then | apply WC.seq | apply WC.region | refine WL.pa ?_ | refine WL.ga rfl ?_ | refine WL.na rfl ?_ | refine WL.nu rfl rfl ?_ | apply WC.block | apply WC.skip | apply WC.exit | apply WC.ret | apply WX.e_block | refine WX.e_other rfl ?_ | apply WX.e_then | apply WX.e_again | apply WX.n_block | apply WX.r_then | apply WX.r_block | apply WX.r_again | refine WC.cond_yes rfl ?_ | refine WC.cond_no rfl ?_ | refine WC.cond rfl (fun hc => ?_) (fun hc => ?_) | refine WC.cond_b rfl (fun hc => ?_) (fun hc => ?_))
    refine WC.loop (α := Nat) (fun i => [(46, iv k), (0, .string S), (1, iv k), (2, iv n), (8, iv M), (9, .slice (some ⟨bo, 0, none⟩) k n), (10, .slice (some ⟨bn, 0, none⟩) k k), (47, iv i)])
      (fun i w' => i ≤ k ∧ Ext w1 w' ∧ Blk w' bo (row n fun q => .string (if q < i then codeA s k q else ByteArray.mk #[])) 9 ∧ Blk w' bn (row k fun q => iv (if q < i then q else 0)) 3) (fun i => k - i) 0
      ⟨rfl, rfl, rfl, rfl, rfl, rfl, rfl, rfl, trivial⟩ ⟨by omega, x2, by simpa using k3, by simpa using k4⟩ ?_
    rintro i w3 ⟨hi, x3, k3, k4⟩
    by_cases hlt : i < k
    · have e1 : (i : Int) * (M : Int) = ((i * M : Nat) : Int) := by rw [Int.natCast_mul]
      have e2 : ((i : Int) + 1) * (M : Int) = (((i + 1) * M : Nat) : Int) := by rw [Int.natCast_mul]; rfl
      have e3 : (i + 1) * M = i * M + M := Nat.succ_mul _ _
      have e4 : (i + 1) * M ≤ k * M := Nat.mul_le_mul_right _ hlt
      repeat' (first | apply WL.fold | apply WA.fold | apply WL.nil | apply WX.n_then | apply WC.seq | apply WC.region | refine WL.pa ?_ | refine WL.ga rfl ?_ | refine WL.na rfl ?_ | refine WL.nu rfl rfl ?_ | apply WC.block | apply WC.skip | apply WC.exit | apply WC.ret | apply WX.e_block | refine WX.e_other rfl ?_ | apply WX.e_then | apply WX.e_again | apply WX.n_block | apply WX.r_then | apply WX.r_block | apply WX.r_again | refine WC.cond_yes rfl ?_ | refine WC.cond_no rfl ?_ | refine WC.cond rfl (fun hc => ?_) (fun hc => ?_) | refine WC.cond_b rfl (fun hc => ?_) (fun hc => ?_))
      rw [e1, e2]
      simp only [Int.toNat_natCast]
      rw [← hparts i hlt]
      refine WL.one (W1.store' rfl rfl (by intro _ h; cases h) (by intro _ h; cases h) k3 (by rw [row_len]; omega) fun w4 u4 g3 => ?_)
      repeat' (first | apply WL.fold | apply WA.fold | apply WL.nil | apply WX.n_then | apply WC.seq | apply WC.region | refine WL.pa ?_ | refine WL.ga rfl ?_ | refine WL.na rfl ?_ | refine WL.nu rfl rfl ?_ | apply WC.block | apply WC.skip | apply WC.exit | apply WC.ret | apply WX.e_block | refine WX.e_other rfl ?_ | apply WX.e_then | apply WX.e_again | apply WX.n_block | apply WX.r_then | apply WX.r_block | apply WX.r_again | refine WC.cond_yes rfl ?_ | refine WC.cond_no rfl ?_ | refine WC.cond rfl (fun hc => ?_) (fun hc => ?_) | refine WC.cond_b rfl (fun hc => ?_) (fun hc => ?_))
      refine WL.one (W1.store' rfl rfl (by intro _ h; cases h) (by intro _ h; cases h) (k4.keep1 u4 (fun e => hne e.symm)) (by rw [row_len]; omega) fun w5 u5 g4 => ?_)
      repeat' (first | apply WL.fold | apply WA.fold | apply WL.nil | apply WX.n_then | apply WC.seq | apply WC.region | refine WL.pa ?_ | refine WL.ga rfl ?_ | refine WL.na rfl ?_ | refine WL.nu rfl rfl ?_ | apply WC.block | apply WC.skip | apply WC.exit | apply WC.ret | apply WX.e_block | refine WX.e_other rfl ?_ | apply WX.e_then | apply WX.e_again | apply WX.n_block | apply WX.r_then | apply WX.r_block | apply WX.r_again | refine WC.cond_yes rfl ?_ | refine WC.cond_no rfl ?_ | refine WC.cond rfl (fun hc => ?_) (fun hc => ?_) | refine WC.cond_b rfl (fun hc => ?_) (fun hc => ?_))
      rw [row_set] at g3 g4
      refine WX.again (i + 1) ⟨by omega, u5.ext (u4.ext x3 hbo) hbn, (congrArg (fun l => Blk w5 bo l _) (row_congr fun q hq => ?_)).mp (g3.keep1 u5 hne), (congrArg (fun l => Blk w5 bn l _) (row_congr fun q hq => ?_)).mp g4⟩ (by omega) ⟨rfl, rfl, rfl, rfl, rfl, rfl, rfl, rfl, trivial⟩
      · by_cases e : q = i
        · subst e; simp
        · have : (q < i + 1) = (q < i) := by simp only [eq_iff_iff]; omega
          simp only [e, if_false, this]
      · by_cases e : q = i
        · subst e; simp
        · have : (q < i + 1) = (q < i) := by simp only [eq_iff_iff]; omega
          simp only [e, if_false, this]
    · obtain rfl : i = k := by omega
      have hnums : Rd w3 (.slice (some ⟨bn, 0, none⟩) i i) ((List.range i).map iv) := by
        have := Rd.of_blk k4 (l := i) (c := i) (by rw [row_len]; exact Nat.le_refl _) (Nat.le_refl _)
        rw [List.take_of_length_le (by rw [row_len]; exact Nat.le_refl _)] at this
        refine (congrArg (Rd w3 _) ?_).mp this
        apply List.map_congr_left
        intro q hq
        simp [List.mem_range.1 hq]
      repeat' (first | apply WL.fold | apply WA.fold | apply WL.nil | apply WX.n_then | apply WC.seq | apply WC.region | refine WL.pa ?_ | refine WL.ga rfl ?_ | refine WL.na rfl ?_ | refine WL.nu rfl rfl ?_ | apply WC.block | apply WC.skip | apply WC.exit | apply WC.ret | apply WX.e_block | refine WX.e_other rfl ?_ | apply WX.e_then | apply WX.e_again | apply WX.n_block | apply WX.r_then | apply WX.r_block | apply WX.r_again | refine WC.cond_yes rfl ?_ | refine WC.cond_no rfl ?_ | refine WC.cond rfl (fun hc => ?_) (fun hc => ?_) | refine WC.cond_b rfl (fun hc => ?_) (fun hc => ?_))
      have hwx := x1.trans x3
      refine WL.call rfl rfl (weights_fn _ (List.range i) (by simp; omega) (fun j hj => by have := List.mem_range.1 hj; omega) _ (hr.ext hwx) (by simp; omega) hnums) ?_
      rintro _ w4 ⟨b1, b2, rfl, x4, k5, k6⟩
      repeat' (first | apply WL.fold | apply WA.fold | apply WL.nil | apply WX.n_then | apply WC.seq | apply WC.region | refine WL.pa ?_ | refine WL.ga rfl ?_ | refine WL.na rfl ?_ | refine WL.nu rfl rfl ?_ | apply WC.block | apply WC.skip | apply WC.exit | apply WC.ret | apply WX.e_block | refine WX.e_other rfl ?_ | apply WX.e_then | apply WX.e_again | apply WX.n_block | apply WX.r_then | apply WX.r_block | apply WX.r_again | refine WC.cond_yes rfl ?_ | refine WC.cond_no rfl ?_ | refine WC.cond rfl (fun hc => ?_) (fun hc => ?_) | refine WC.cond_b rfl (fun hc => ?_) (fun hc => ?_))
      have g3 := k3.ext x4
      have n1 : b1 ≠ bo := k5.ne g3 (by decide)
      have n2 : b2 ≠ bo := k6.ne g3 (by decide)
      have hlenL : ∀ j, (codeL s i j).length = j := codeL_len s i
      refine WC.loop (α := Nat) (fun j => [(0, .string S), (1, iv i), (2, iv n), (8, iv M), (9, .slice (some ⟨bo, 0, none⟩) j n), (10, .slice (some ⟨bn, 0, none⟩) i i), (12, .func (.func 137) #[] #[.pointer (some ⟨b1, 0, none⟩), .pointer (some ⟨b2, 0, none⟩)]), (13, iv j)])
        (fun j w' => i ≤ j ∧ j ≤ n ∧ Ext w w' ∧ Blk w' bo (row n fun q => .string (if q < j then codeA s i q else ByteArray.mk #[])) 9 ∧ Rd w' (.slice (some ⟨bn, 0, none⟩) i i) ((List.range i).map iv) ∧
          Blk w' b1 [.slice (some ⟨bn, 0, none⟩) i i] 38 ∧ Blk w' b2 (row 9 fun j => iv (belA (List.range i) j)) 155 ∧ Blk w' bn (row i fun q => iv (if q < i then q else 0)) 3) (fun j => n - j) i
        ⟨rfl, rfl, rfl, rfl, rfl, rfl, rfl, rfl, trivial⟩ ⟨by omega, hkn, hwx.trans x4, g3, hnums.ext x4, k5, k6, k4.ext x4⟩ ?_
      clear k3 k4 k5 k6 g3 x4 hnums
      rintro j w5 ⟨hij, hj, hw5, k3, hnums, k5, k6, k4⟩
      have hfrs : Rd w5 (.slice (some ⟨bo, 0, none⟩) j n) (strs (codeL s i j)) := by
        have := Rd.of_row k3 hj hj
        refine (congrArg (Rd w5 _) ?_).mp this
        simp only [strs, codeL, List.map_map]
        apply List.map_congr_left
        intro q hq
        simp [List.mem_range.1 hq]
      by_cases hlt : j < n
      · repeat' (first | apply WL.fold | apply WA.fold | apply WL.nil | apply WX.n_then | apply WC.seq | apply WC.region | refine WL.pa ?_ | refine WL.ga rfl ?_ | refine WL.na rfl ?_ | refine WL.nu rfl rfl ?_ | apply WC.block | apply WC.skip | apply WC.exit | apply WC.ret | apply WX.e_block | refine WX.e_other rfl ?_ | apply WX.e_then | apply WX.e_again | apply WX.n_block | apply WX.r_then | apply WX.r_block | apply WX.r_again | refine WC.cond_yes rfl ?_ | refine WC.cond_no rfl ?_ | refine WC.cond rfl (fun hc => ?_) (fun hc => ?_) | refine WC.cond_b rfl (fun hc => ?_) (fun hc => ?_))
        refine WL.one (W1.callv rfl rfl rfl (weightsAt_fn j (by omega) _ (List.range i) (by simp; omega) (fun q hq => by have := List.mem_range.1 hq; omega) _ (hr.ext hw5) (by simp; omega) hnums b1 b2 k5 k6) ?_)
        rintro _ w6 ⟨rfl, x6⟩
        repeat' (first | apply WL.fold | apply WA.fold | apply WL.nil | apply WX.n_then | apply WC.seq | apply WC.region | refine WL.pa ?_ | refine WL.ga rfl ?_ | refine WL.na rfl ?_ | refine WL.nu rfl rfl ?_ | apply WC.block | apply WC.skip | apply WC.exit | apply WC.ret | apply WX.e_block | refine WX.e_other rfl ?_ | apply WX.e_then | apply WX.e_again | apply WX.n_block | apply WX.r_then | apply WX.r_block | apply WX.r_again | refine WC.cond_yes rfl ?_ | refine WC.cond_no rfl ?_ | refine WC.cond rfl (fun hc => ?_) (fun hc => ?_) | refine WC.cond_b rfl (fun hc => ?_) (fun hc => ?_))
        refine WL.call rfl rfl (computed_fn _ _ (codeL s i j) (List.range i) (wgtA (List.range i) j) M (by simp; omega) (fun q hq => by rw [hlenL]; have := List.mem_range.1 hq; omega) (fun q hq => by have := List.mem_range.1 hq; omega)
          (fun q hq => by rw [codeL_fr s i (by have := List.mem_range.1 hq; omega)]; exact hcs q) hm2 (by simp; omega) ?_ w6 (hr.ext (hw5.trans x6)) (hfrs.ext x6) (hnums.ext x6)) ?_
        · intro q; unfold wgtA; split
          · exact wgt_lt _ _ _
          · decide
        rintro _ w7 ⟨rfl, x7⟩
        have hval : cmpStr (codeL s i j) (List.range i) (wgtA (List.range i) j) M = codeA s i j := by
          have h1 : ¬ j < i := by omega
          simp only [codeA, h1, if_false, hM]
          refine cmpStr_congr _ _ fun q hq => ⟨?_, rfl⟩
          have h2 := List.mem_range.1 hq
          rw [codeL_fr s i (by omega), parts_fr s h2]
        rw [hval]
        repeat' (first | apply WL.fold | apply WA.fold | apply WL.nil | apply WX.n_then | apply WC.seq | apply WC.region | refine WL.pa ?_ | refine WL.ga rfl ?_ | refine WL.na rfl ?_ | refine WL.nu rfl rfl ?_ | apply WC.block | apply WC.skip | apply WC.exit | apply WC.ret | apply WX.e_block | refine WX.e_other rfl ?_ | apply WX.e_then | apply WX.e_again | apply WX.n_block | apply WX.r_then | apply WX.r_block | apply WX.r_again | refine WC.cond_yes rfl ?_ | refine WC.cond_no rfl ?_ | refine WC.cond rfl (fun hc => ?_) (fun hc => ?_) | refine WC.cond_b rfl (fun hc => ?_) (fun hc => ?_))
        refine WL.one (W1.lit1' rfl rfl rfl rfl ?_)
        intro b8 w8 e8 s8 x8 k8
        repeat' (first | apply WL.fold | apply WA.fold | apply WL.nil | apply WX.n_then | apply WC.seq | apply WC.region | refine WL.pa ?_ | refine WL.ga rfl ?_ | refine WL.na rfl ?_ | refine WL.nu rfl rfl ?_ | apply WC.block | apply WC.skip | apply WC.exit | apply WC.ret | apply WX.e_block | refine WX.e_other rfl ?_ | apply WX.e_then | apply WX.e_again | apply WX.n_block | apply WX.r_then | apply WX.r_block | apply WX.r_again | refine WC.cond_yes rfl ?_ | refine WC.cond_no rfl ?_ | refine WC.cond rfl (fun hc => ?_) (fun hc => ?_) | refine WC.cond_b rfl (fun hc => ?_) (fun hc => ?_))
        have x58 := x6.trans (x7.trans x8)
        refine WL.one (W1.append1r rfl rfl (k3.ext x58) (k8.cell (i := 0) rfl) rfl (by omega) (by rw [row_len]; omega) rfl ?_)
        intro w9 u9 g3
        repeat' (first | apply WL.fold | apply WA.fold | apply WL.nil | apply WX.n_then | apply WC.seq | apply WC.region | refine WL.pa ?_ | refine WL.ga rfl ?_ | refine WL.na rfl ?_ | refine WL.nu rfl rfl ?_ | apply WC.block | apply WC.skip | apply WC.exit | apply WC.ret | apply WX.e_block | refine WX.e_other rfl ?_ | apply WX.e_then | apply WX.e_again | apply WX.n_block | apply WX.r_then | apply WX.r_block | apply WX.r_again | refine WC.cond_yes rfl ?_ | refine WC.cond_no rfl ?_ | refine WC.cond rfl (fun hc => ?_) (fun hc => ?_) | refine WC.cond_b rfl (fun hc => ?_) (fun hc => ?_))
        rw [row_set] at g3
        have nbn : bn ≠ bo := fun e => hne e.symm
        have hx9 : Ext w w9 := u9.ext (hw5.trans x58) (by have := x1.size; omega)
        have g4 := (k4.ext x58).keep1 u9 nbn
        refine WX.again (j + 1) ⟨by omega, by omega, hx9, (congrArg (fun l => Blk w9 bo l _) (row_congr fun q hq => ?_)).mp g3, ?_, (k5.ext x58).keep1 u9 n1, (k6.ext x58).keep1 u9 n2, g4⟩ (by omega) ⟨rfl, rfl, rfl, rfl, rfl, rfl, rfl, rfl, trivial⟩
        · by_cases e : q = j
          · subst e; simp
          · have : (q < j + 1) = (q < j) := by simp only [eq_iff_iff]; omega
            simp only [e, if_false, this]
        · have := Rd.of_row g4 (Nat.le_refl _) (Nat.le_refl _)
          refine (congrArg (Rd w9 _) ?_).mp this
          apply List.map_congr_left
          intro q hq
          simp [List.mem_range.1 hq]
      · obtain rfl : j = n := by omega
        repeat' (first | apply WL.fold | apply WA.fold | apply WL.nil | apply WX.n_then | apply WC.seq | apply WC.region | refine WL.pa ?_ | refine WL.ga rfl ?_ | refine WL.na rfl ?_ | refine WL.nu rfl rfl ?_ | apply WC.block | apply WC.skip | apply WC.exit | apply WC.ret | apply WX.e_block | refine WX.e_other rfl ?_ | apply WX.e_then | apply WX.e_again | apply WX.n_block | apply WX.r_then | apply WX.r_block | apply WX.r_again | refine WC.cond_yes rfl ?_ | refine WC.cond_no rfl ?_ | refine WC.cond rfl (fun hc => ?_) (fun hc => ?_) | refine WC.cond_b rfl (fun hc => ?_) (fun hc => ?_))
        exact WX.ret2 rfl rfl rfl ⟨bo, Nat.le_trans x1.size hbo, rfl, hfrs, hw5⟩
end Go.Sx
