/- Chapter 17: the law CodeField. -/
import Derived.Test.YtacamanakmeebaaDoorC8
import Derived.Test.YtacamanakmeebaaDoorGFA
namespace Go.Sx
open Go Go.Proofs
attribute [local irreducible] WC WL WX POp Then Again Fn NX W1 WA WO QL RP RA Yld LoopAt
set_option maxHeartbeats 2000000 in
theorem codeField_fn (a b c : Nat) (ha : a < 256) (hb : b < 256) (hlc : c < 256) (w : World) (hr : Red w) :
    Fn Tryd.prog 5 #[.int .u8 (a : Int), .int .u8 (b : Int), .int .u8 (c : Int)] w fun v w' => v = .bool true ∧ Ext w w' := by
  refine enter (l := [_, _, _]) rfl Tryd.ntmps5 rfl ?_
  repeat' (first
    | apply WL.fold
    | apply WA.fold
    | apply WL.nil
    | apply WX.n_then
    | apply WC.seq
    | apply WC.region
    | refine WL.pa ?_
    | refine WL.ga rfl ?_
    | refine WL.na rfl ?_
    | refine WL.nu rfl rfl ?_
    | apply WC.block
    | apply WC.skip
    | apply WC.exit
    | apply WC.ret
    | apply WX.e_block
    | refine WX.e_other rfl ?_
    | apply WX.e_then
    | apply WX.e_again
    | apply WX.n_block
    | apply WX.r_then
    | apply WX.r_block
    | apply WX.r_again
    | refine WC.cond_yes rfl ?_
    | refine WC.cond_no rfl ?_
    | refine WC.cond rfl (fun hc => ?_) (fun hc => ?_)
    | refine WC.cond_b rfl (fun hc => ?_) (fun hc => ?_))
  refine WL.call rfl rfl (sane_fn w hr) ?_
  rintro _ w1 ⟨rfl, x1⟩
  have hr1 := hr.ext x1
  have M : ∀ x y : Nat, x < 256 → y < 256 → Fn Tryd.prog 21 #[.int .i64 (x : Int), .int .i64 (y : Int)] w1 fun v w' => v = .int .i64 ((mulN x y : Nat) : Int) ∧ w1 = w' := fun x y hx hy => mul_yes x y hx hy w1 hr1
  have e1 := mul_comm ha hb
  have e2 := mul_assoc ha hb hlc
  have e3 := mul_add (b := b) (c := c) ha
  have e4 := mul_one ha
  have e5 := mul_zero ha
  have hbc : b ^^^ c < 256 := Nat.xor_lt_two_pow (n := 8) hb hlc
  have lab : mulN a b < 256 := mulN_lt
  have lac : mulN a c < 256 := mulN_lt
  have lbc : mulN b c < 256 := mulN_lt
  repeat' (first
    | apply WL.fold
    | apply WA.fold
    | apply WL.nil
    | apply WX.n_then
    | apply WC.seq
    | apply WC.region
    | refine WL.pa ?_
    | refine WL.ga rfl ?_
    | refine WL.na rfl ?_
    | refine WL.nu rfl rfl ?_
    | apply WC.block
    | apply WC.skip
    | apply WC.exit
    | apply WC.ret
    | apply WX.e_block
    | refine WX.e_other rfl ?_
    | apply WX.e_then
    | apply WX.e_again
    | apply WX.n_block
    | apply WX.r_then
    | apply WX.r_block
    | apply WX.r_again
    | refine WC.cond_yes rfl ?_
    | refine WC.cond_no rfl ?_
    | refine WC.cond rfl (fun hc => ?_) (fun hc => ?_)
    | refine WC.cond_b rfl (fun hc => ?_) (fun hc => ?_))
  refine WL.call rfl rfl (M a b ha hb) ?_
  rintro _ _ ⟨rfl, rfl⟩
  repeat' (first
    | apply WL.fold
    | apply WA.fold
    | apply WL.nil
    | apply WX.n_then
    | apply WC.seq
    | apply WC.region
    | refine WL.pa ?_
    | refine WL.ga rfl ?_
    | refine WL.na rfl ?_
    | refine WL.nu rfl rfl ?_
    | apply WC.block
    | apply WC.skip
    | apply WC.exit
    | apply WC.ret
    | apply WX.e_block
    | refine WX.e_other rfl ?_
    | apply WX.e_then
    | apply WX.e_again
    | apply WX.n_block
    | apply WX.r_then
    | apply WX.r_block
    | apply WX.r_again
    | refine WC.cond_yes rfl ?_
    | refine WC.cond_no rfl ?_
    | refine WC.cond rfl (fun hc => ?_) (fun hc => ?_)
    | refine WC.cond_b rfl (fun hc => ?_) (fun hc => ?_))
  refine WL.call rfl rfl (M b a hb ha) ?_
  rintro _ _ ⟨rfl, rfl⟩
  rw [← e1]
  repeat' (first
    | apply WL.fold
    | apply WA.fold
    | apply WL.nil
    | apply WX.n_then
    | apply WC.seq
    | apply WC.region
    | refine WL.pa ?_
    | refine WL.ga rfl ?_
    | refine WL.na rfl ?_
    | refine WL.nu rfl rfl ?_
    | apply WC.block
    | apply WC.skip
    | apply WC.exit
    | apply WC.ret
    | apply WX.e_block
    | refine WX.e_other rfl ?_
    | apply WX.e_then
    | apply WX.e_again
    | apply WX.n_block
    | apply WX.r_then
    | apply WX.r_block
    | apply WX.r_again
    | refine WC.cond_yes rfl ?_
    | refine WC.cond_no rfl ?_
    | refine WC.cond rfl (fun hc => ?_) (fun hc => ?_)
    | refine WC.cond_b rfl (fun hc => ?_) (fun hc => ?_))
  refine WL.call rfl rfl (M a b ha hb) ?_
  rintro _ _ ⟨rfl, rfl⟩
  repeat' (first
    | apply WL.fold
    | apply WA.fold
    | apply WL.nil
    | apply WX.n_then
    | apply WC.seq
    | apply WC.region
    | refine WL.pa ?_
    | refine WL.ga rfl ?_
    | refine WL.na rfl ?_
    | refine WL.nu rfl rfl ?_
    | apply WC.block
    | apply WC.skip
    | apply WC.exit
    | apply WC.ret
    | apply WX.e_block
    | refine WX.e_other rfl ?_
    | apply WX.e_then
    | apply WX.e_again
    | apply WX.n_block
    | apply WX.r_then
    | apply WX.r_block
    | apply WX.r_again
    | refine WC.cond_yes rfl ?_
    | refine WC.cond_no rfl ?_
    | refine WC.cond rfl (fun hc => ?_) (fun hc => ?_)
    | refine WC.cond_b rfl (fun hc => ?_) (fun hc => ?_))
  refine WL.call rfl rfl (M _ c lab hlc) ?_
  rintro _ _ ⟨rfl, rfl⟩
  repeat' (first
    | apply WL.fold
    | apply WA.fold
    | apply WL.nil
    | apply WX.n_then
    | apply WC.seq
    | apply WC.region
    | refine WL.pa ?_
    | refine WL.ga rfl ?_
    | refine WL.na rfl ?_
    | refine WL.nu rfl rfl ?_
    | apply WC.block
    | apply WC.skip
    | apply WC.exit
    | apply WC.ret
    | apply WX.e_block
    | refine WX.e_other rfl ?_
    | apply WX.e_then
    | apply WX.e_again
    | apply WX.n_block
    | apply WX.r_then
    | apply WX.r_block
    | apply WX.r_again
    | refine WC.cond_yes rfl ?_
    | refine WC.cond_no rfl ?_
    | refine WC.cond rfl (fun hc => ?_) (fun hc => ?_)
    | refine WC.cond_b rfl (fun hc => ?_) (fun hc => ?_))
  refine WL.call rfl rfl (M b c hb hlc) ?_
  rintro _ _ ⟨rfl, rfl⟩
  repeat' (first
    | apply WL.fold
    | apply WA.fold
    | apply WL.nil
    | apply WX.n_then
    | apply WC.seq
    | apply WC.region
    | refine WL.pa ?_
    | refine WL.ga rfl ?_
    | refine WL.na rfl ?_
    | refine WL.nu rfl rfl ?_
    | apply WC.block
    | apply WC.skip
    | apply WC.exit
    | apply WC.ret
    | apply WX.e_block
    | refine WX.e_other rfl ?_
    | apply WX.e_then
    | apply WX.e_again
    | apply WX.n_block
    | apply WX.r_then
    | apply WX.r_block
    | apply WX.r_again
    | refine WC.cond_yes rfl ?_
    | refine WC.cond_no rfl ?_
    | refine WC.cond rfl (fun hc => ?_) (fun hc => ?_)
    | refine WC.cond_b rfl (fun hc => ?_) (fun hc => ?_))
  refine WL.call rfl rfl (M a _ ha lbc) ?_
  rintro _ _ ⟨rfl, rfl⟩
  rw [e2]
  repeat' (first
    | apply WL.fold
    | apply WA.fold
    | apply WL.nil
    | apply WX.n_then
    | apply WC.seq
    | apply WC.region
    | refine WL.pa ?_
    | refine WL.ga rfl ?_
    | refine WL.na rfl ?_
    | refine WL.nu rfl rfl ?_
    | apply WC.block
    | apply WC.skip
    | apply WC.exit
    | apply WC.ret
    | apply WX.e_block
    | refine WX.e_other rfl ?_
    | apply WX.e_then
    | apply WX.e_again
    | apply WX.n_block
    | apply WX.r_then
    | apply WX.r_block
    | apply WX.r_again
    | refine WC.cond_yes rfl ?_
    | refine WC.cond_no rfl ?_
    | refine WC.cond rfl (fun hc => ?_) (fun hc => ?_)
    | refine WC.cond_b rfl (fun hc => ?_) (fun hc => ?_))
  refine WL.call rfl rfl (M a _ ha hbc) ?_
  rintro _ _ ⟨rfl, rfl⟩
  rw [e3]
  repeat' (first
    | apply WL.fold
    | apply WA.fold
    | apply WL.nil
    | apply WX.n_then
    | apply WC.seq
    | apply WC.region
    | refine WL.pa ?_
    | refine WL.ga rfl ?_
    | refine WL.na rfl ?_
    | refine WL.nu rfl rfl ?_
    | apply WC.block
    | apply WC.skip
    | apply WC.exit
    | apply WC.ret
    | apply WX.e_block
    | refine WX.e_other rfl ?_
    | apply WX.e_then
    | apply WX.e_again
    | apply WX.n_block
    | apply WX.r_then
    | apply WX.r_block
    | apply WX.r_again
    | refine WC.cond_yes rfl ?_
    | refine WC.cond_no rfl ?_
    | refine WC.cond rfl (fun hc => ?_) (fun hc => ?_)
    | refine WC.cond_b rfl (fun hc => ?_) (fun hc => ?_))
  refine WL.call rfl rfl (M a b ha hb) ?_
  rintro _ _ ⟨rfl, rfl⟩
  repeat' (first
    | apply WL.fold
    | apply WA.fold
    | apply WL.nil
    | apply WX.n_then
    | apply WC.seq
    | apply WC.region
    | refine WL.pa ?_
    | refine WL.ga rfl ?_
    | refine WL.na rfl ?_
    | refine WL.nu rfl rfl ?_
    | apply WC.block
    | apply WC.skip
    | apply WC.exit
    | apply WC.ret
    | apply WX.e_block
    | refine WX.e_other rfl ?_
    | apply WX.e_then
    | apply WX.e_again
    | apply WX.n_block
    | apply WX.r_then
    | apply WX.r_block
    | apply WX.r_again
    | refine WC.cond_yes rfl ?_
    | refine WC.cond_no rfl ?_
    | refine WC.cond rfl (fun hc => ?_) (fun hc => ?_)
    | refine WC.cond_b rfl (fun hc => ?_) (fun hc => ?_))
  refine WL.call rfl rfl (M a c ha hlc) ?_
  rintro _ _ ⟨rfl, rfl⟩
  repeat' (first
    | apply WL.fold
    | apply WA.fold
    | apply WL.nil
    | apply WX.n_then
    | apply WC.seq
    | apply WC.region
    | refine WL.pa ?_
    | refine WL.ga rfl ?_
    | refine WL.na rfl ?_
    | refine WL.nu rfl rfl ?_
    | apply WC.block
    | apply WC.skip
    | apply WC.exit
    | apply WC.ret
    | apply WX.e_block
    | refine WX.e_other rfl ?_
    | apply WX.e_then
    | apply WX.e_again
    | apply WX.n_block
    | apply WX.r_then
    | apply WX.r_block
    | apply WX.r_again
    | refine WC.cond_yes rfl ?_
    | refine WC.cond_no rfl ?_
    | refine WC.cond rfl (fun hc => ?_) (fun hc => ?_)
    | refine WC.cond_b rfl (fun hc => ?_) (fun hc => ?_))
  refine WL.call (vs := [iv a, iv 1]) rfl rfl (M a 1 ha (by decide)) ?_
  rintro _ _ ⟨rfl, rfl⟩
  rw [e4]
  repeat' (first
    | apply WL.fold
    | apply WA.fold
    | apply WL.nil
    | apply WX.n_then
    | apply WC.seq
    | apply WC.region
    | refine WL.pa ?_
    | refine WL.ga rfl ?_
    | refine WL.na rfl ?_
    | refine WL.nu rfl rfl ?_
    | apply WC.block
    | apply WC.skip
    | apply WC.exit
    | apply WC.ret
    | apply WX.e_block
    | refine WX.e_other rfl ?_
    | apply WX.e_then
    | apply WX.e_again
    | apply WX.n_block
    | apply WX.r_then
    | apply WX.r_block
    | apply WX.r_again
    | refine WC.cond_yes rfl ?_
    | refine WC.cond_no rfl ?_
    | refine WC.cond rfl (fun hc => ?_) (fun hc => ?_)
    | refine WC.cond_b rfl (fun hc => ?_) (fun hc => ?_))
  refine WL.call (vs := [iv a, iv 0]) rfl rfl (M a 0 ha (by decide)) ?_
  rintro _ _ ⟨rfl, rfl⟩
  rw [e5]
  by_cases h0 : a = 0
  · subst h0
    repeat' (first
      | apply WL.fold
      | apply WA.fold
      | apply WL.nil
      | apply WX.n_then
      | apply WC.seq
      | apply WC.region
      | refine WL.pa ?_
      | refine WL.ga rfl ?_
      | refine WL.na rfl ?_
      | refine WL.nu rfl rfl ?_
      | apply WC.block
      | apply WC.skip
      | apply WC.exit
      | apply WC.ret
      | apply WX.e_block
      | refine WX.e_other rfl ?_
      | apply WX.e_then
      | apply WX.e_again
      | apply WX.n_block
      | apply WX.r_then
      | apply WX.r_block
      | apply WX.r_again
      | refine WC.cond_yes rfl ?_
      | refine WC.cond_no rfl ?_
      | refine WC.cond rfl (fun hc => ?_) (fun hc => ?_)
      | refine WC.cond_b rfl (fun hc => ?_) (fun hc => ?_))
    refine WL.call (vs := [iv 0]) rfl rfl (inverse_yes 0 (by decide) w1 hr1) ?_
    rintro _ _ ⟨rfl, rfl⟩
    rw [exInv2]
    repeat' (first
      | apply WL.fold
      | apply WA.fold
      | apply WL.nil
      | apply WX.n_then
      | apply WC.seq
      | apply WC.region
      | refine WL.pa ?_
      | refine WL.ga rfl ?_
      | refine WL.na rfl ?_
      | refine WL.nu rfl rfl ?_
      | apply WC.block
      | apply WC.skip
      | apply WC.exit
      | apply WC.ret
      | apply WX.e_block
      | refine WX.e_other rfl ?_
      | apply WX.e_then
      | apply WX.e_again
      | apply WX.n_block
      | apply WX.r_then
      | apply WX.r_block
      | apply WX.r_again
      | refine WC.cond_yes rfl ?_
      | refine WC.cond_no rfl ?_
      | refine WC.cond rfl (fun hc => ?_) (fun hc => ?_)
      | refine WC.cond_b rfl (fun hc => ?_) (fun hc => ?_))
    exact WX.ret1 rfl rfl ⟨by simp, x1⟩
  · have hpos : 0 < a := by omega
    have e6 := mul_inv a ha hpos
    have hi := invN_lt ha
    have I : Fn Tryd.prog 23 #[.int .i64 (a : Int)] w1 fun v w' => v = .int .i64 ((invN a : Nat) : Int) ∧ w1 = w' := inverse_yes a ha w1 hr1
    have h90 : (decide (((mulN a b : Nat) : Int) = 1) == decide ((b : Int) = ((invN a : Nat) : Int))) = true := by
      rw [beq_iff_eq, decide_eq_decide]
      constructor
      · intro h
        have := mul_eq_one ha hb (by omega)
        omega
      · intro h
        have : b = invN a := by omega
        rw [this, e6]; rfl
    have h102 : (decide (((mulN a b : Nat) : Int) = ((mulN a c : Nat) : Int)) == decide ((b : Int) = (c : Int))) = true := by
      rw [beq_iff_eq, decide_eq_decide]
      constructor
      · intro h
        have := mul_left_cancel ha hpos hb hlc (by omega)
        omega
      · intro h
        have : b = c := by omega
        rw [this]
    repeat' (first
      | apply WL.fold
      | apply WA.fold
      | apply WL.nil
      | apply WX.n_then
      | apply WC.seq
      | apply WC.region
      | refine WL.pa ?_
      | refine WL.ga rfl ?_
      | refine WL.na rfl ?_
      | refine WL.nu rfl rfl ?_
      | apply WC.block
      | apply WC.skip
      | apply WC.exit
      | apply WC.ret
      | apply WX.e_block
      | refine WX.e_other rfl ?_
      | apply WX.e_then
      | apply WX.e_again
      | apply WX.n_block
      | apply WX.r_then
      | apply WX.r_block
      | apply WX.r_again
      | refine WC.cond_yes rfl ?_
      | refine WC.cond_no rfl ?_
      | refine WC.cond rfl (fun hc => ?_) (fun hc => ?_)
      | refine WC.cond_b rfl (fun hc => ?_) (fun hc => ?_))
    refine WL.call rfl rfl I ?_
    rintro _ _ ⟨rfl, rfl⟩
    repeat' (first
      | apply WL.fold
      | apply WA.fold
      | apply WL.nil
      | apply WX.n_then
      | apply WC.seq
      | apply WC.region
      | refine WL.pa ?_
      | refine WL.ga rfl ?_
      | refine WL.na rfl ?_
      | refine WL.nu rfl rfl ?_
      | apply WC.block
      | apply WC.skip
      | apply WC.exit
      | apply WC.ret
      | apply WX.e_block
      | refine WX.e_other rfl ?_
      | apply WX.e_then
      | apply WX.e_again
      | apply WX.n_block
      | apply WX.r_then
      | apply WX.r_block
      | apply WX.r_again
      | refine WC.cond_yes rfl ?_
      | refine WC.cond_no rfl ?_
      | refine WC.cond rfl (fun hc => ?_) (fun hc => ?_)
      | refine WC.cond_b rfl (fun hc => ?_) (fun hc => ?_))
    refine WL.call rfl rfl (M a _ ha hi) ?_
    rintro _ _ ⟨rfl, rfl⟩
    rw [e6]
    repeat' (first
      | apply WL.fold
      | apply WA.fold
      | apply WL.nil
      | apply WX.n_then
      | apply WC.seq
      | apply WC.region
      | refine WL.pa ?_
      | refine WL.ga rfl ?_
      | refine WL.na rfl ?_
      | refine WL.nu rfl rfl ?_
      | apply WC.block
      | apply WC.skip
      | apply WC.exit
      | apply WC.ret
      | apply WX.e_block
      | refine WX.e_other rfl ?_
      | apply WX.e_then
      | apply WX.e_again
      | apply WX.n_block
      | apply WX.r_then
      | apply WX.r_block
      | apply WX.r_again
      | refine WC.cond_yes rfl ?_
      | refine WC.cond_no rfl ?_
      | refine WC.cond rfl (fun hc => ?_) (fun hc => ?_)
      | refine WC.cond_b rfl (fun hc => ?_) (fun hc => ?_))
    refine WL.call rfl rfl (M a b ha hb) ?_
    rintro _ _ ⟨rfl, rfl⟩
    repeat' (first
      | apply WL.fold
      | apply WA.fold
      | apply WL.nil
      | apply WX.n_then
      | apply WC.seq
      | apply WC.region
      | refine WL.pa ?_
      | refine WL.ga rfl ?_
      | refine WL.na rfl ?_
      | refine WL.nu rfl rfl ?_
      | apply WC.block
      | apply WC.skip
      | apply WC.exit
      | apply WC.ret
      | apply WX.e_block
      | refine WX.e_other rfl ?_
      | apply WX.e_then
      | apply WX.e_again
      | apply WX.n_block
      | apply WX.r_then
      | apply WX.r_block
      | apply WX.r_again
      | refine WC.cond_yes rfl ?_
      | refine WC.cond_no rfl ?_
      | refine WC.cond rfl (fun hc => ?_) (fun hc => ?_)
      | refine WC.cond_b rfl (fun hc => ?_) (fun hc => ?_))
    refine WL.call rfl rfl I ?_
    rintro _ _ ⟨rfl, rfl⟩
    repeat' (first
      | apply WL.fold
      | apply WA.fold
      | apply WL.nil
      | apply WX.n_then
      | apply WC.seq
      | apply WC.region
      | refine WL.pa ?_
      | refine WL.ga rfl ?_
      | refine WL.na rfl ?_
      | refine WL.nu rfl rfl ?_
      | apply WC.block
      | apply WC.skip
      | apply WC.exit
      | apply WC.ret
      | apply WX.e_block
      | refine WX.e_other rfl ?_
      | apply WX.e_then
      | apply WX.e_again
      | apply WX.n_block
      | apply WX.r_then
      | apply WX.r_block
      | apply WX.r_again
      | refine WC.cond_yes rfl ?_
      | refine WC.cond_no rfl ?_
      | refine WC.cond rfl (fun hc => ?_) (fun hc => ?_)
      | refine WC.cond_b rfl (fun hc => ?_) (fun hc => ?_))
    refine WL.call rfl rfl (M a b ha hb) ?_
    rintro _ _ ⟨rfl, rfl⟩
    repeat' (first
      | apply WL.fold
      | apply WA.fold
      | apply WL.nil
      | apply WX.n_then
      | apply WC.seq
      | apply WC.region
      | refine WL.pa ?_
      | refine WL.ga rfl ?_
      | refine WL.na rfl ?_
      | refine WL.nu rfl rfl ?_
      | apply WC.block
      | apply WC.skip
      | apply WC.exit
      | apply WC.ret
      | apply WX.e_block
      | refine WX.e_other rfl ?_
      | apply WX.e_then
      | apply WX.e_again
      | apply WX.n_block
      | apply WX.r_then
      | apply WX.r_block
      | apply WX.r_again
      | refine WC.cond_yes rfl ?_
      | refine WC.cond_no rfl ?_
      | refine WC.cond rfl (fun hc => ?_) (fun hc => ?_)
      | refine WC.cond_b rfl (fun hc => ?_) (fun hc => ?_))
    refine WL.call rfl rfl (M a c ha hlc) ?_
    rintro _ _ ⟨rfl, rfl⟩
    repeat' (first
      | apply WL.fold
      | apply WA.fold
      | apply WL.nil
      | apply WX.n_then
      | apply WC.seq
      | apply WC.region
      | refine WL.pa ?_
      | refine WL.ga rfl ?_
      | refine WL.na rfl ?_
      | refine WL.nu rfl rfl ?_
      | apply WC.block
      | apply WC.skip
      | apply WC.exit
      | apply WC.ret
      | apply WX.e_block
      | refine WX.e_other rfl ?_
      | apply WX.e_then
      | apply WX.e_again
      | apply WX.n_block
      | apply WX.r_then
      | apply WX.r_block
      | apply WX.r_again
      | refine WC.cond_yes rfl ?_
      | refine WC.cond_no rfl ?_
      | refine WC.cond rfl (fun hc => ?_) (fun hc => ?_)
      | refine WC.cond_b rfl (fun hc => ?_) (fun hc => ?_))
    exact WX.ret1 rfl rfl ⟨congrArg Value.bool h102, x1⟩
end Go.Sx

