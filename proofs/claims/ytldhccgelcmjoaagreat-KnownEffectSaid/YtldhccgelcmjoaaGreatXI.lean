/- Chapters 1 and 20: the encoding of a string; flag; strings compared. -/
import Derived.Test.YtldhccgelcmjoaaGreatXH
namespace Go.Sx
open Go Go.Proofs Go.RowKit
theorem less_asym {x y : List UInt8} (h : Op.bytesLess x y = true) : Op.bytesLess y x = false := by
  cases e : Op.bytesLess y x with
  | false => rfl
  | true =>
    have := less_trans x y x h e
    rw [less_irr] at this; cases this
theorem POp.sgtr {P : Program} {N : Nat} {ds : List Deferred} {E : Env} {t t' ty : TypeId} {x y : Operand} {s u : ByteArray} (hx : Env.ev E x = some (.string s)) (hy : Env.ev E y = some (.string u)) :
    POp P N ds E (.binOp .gtr t x y t') ty (.bool (Op.bytesLess u.data.toList s.data.toList)) := POp.bin hx hy guard_str fun w => by
  have e : (!(Op.bytesLess s.toList u.toList || s.toList == u.toList)) = Op.bytesLess u.data.toList s.data.toList := by
    rw [str_eq, ba_toList, ba_toList]
    by_cases h : s = u
    · subst h; rw [less_irr, decide_eq_true rfl]; rfl
    · rw [decide_eq_false h, Bool.or_false]
      have hne : s.data.toList ≠ u.data.toList := fun e => h (ByteArray_ext' e)
      rcases less_tri _ _ hne with h1 | h1
      · rw [h1, less_asym h1]; rfl
      · rw [h1, less_asym h1]; rfl
  rw [← e]
  simp only [Go.binOp, Op.stringOp]; rfl
theorem strN_size {n : Nat} (h : n ≤ 1099511627776) : (strN n).size ≤ 9 := by
  show (putN n).length ≤ 9
  exact vint_len 8 (2 * n) (by omega)
attribute [local irreducible] WC WL WX POp Then Again Fn NX W1 WA WO QL RP RA Yld LoopAt HC HL HX HN H1 HA HO HQ HB HP A.blk A.grow A.rd A.obj A.mp AgainH CutH
theorem flag_fn (b : Bool) (w : World) : Fn Tryz.prog 68 #[.bool b] w fun v w' => v = zv (b01 b) ∧ w = w' := by
  refine enter (l := [_]) rfl Tryz.ntmps68 rfl ?_
  cases b <;> (repeat' (first | apply WL.fold | apply WA.fold | apply WL.nil | apply WX.n_then | apply WC.seq | apply WC.region | refine WL.pa ?_ | refine WL.ga rfl ?_ | refine WL.na rfl ?_ | refine WL.nu rfl rfl ?_ | apply WC.block | apply WC.skip | apply WC.exit | apply WC.ret | apply WX.e_block | refine WX.e_other rfl ?_ | apply WX.e_then | apply WX.e_again | apply WX.n_block | apply WX.r_then | apply WX.r_block | apply WX.r_again | refine WC.cond_yes rfl ?_ | refine WC.cond_no rfl ?_ | refine WC.cond rfl (fun hc => ?_) (fun hc => ?_) | refine WC.cond_b rfl (fun hc => ?_) (fun hc => ?_)))
  all_goals exact WX.ret1 rfl rfl ⟨rfl, rfl⟩
theorem putString_fn (s : ByteArray) (hs : s.size ≤ 65536) (w : World) : Fn Tryz.prog 69 #[.string s] w fun v w' => v = .tuple #[.string (strN s.size ++ s), .int .i64 0] ∧ Ext w w' := by
  have hz := strN_size (n := s.size) (by omega)
  refine enterH (l := [_]) rfl Tryz.ntmps69 rfl ?_
  repeat' (first | apply HL.fold | apply HA.fold | apply HL.nil | apply HX.n_then | apply HC.seq | apply HC.region | refine HL.pa ?_ | refine HL.ga rfl ?_ | refine HL.na rfl ?_ | refine HL.nu rfl rfl ?_ | apply HC.block | apply HC.skip | apply HC.exit | apply HC.ret | apply HX.e_block | refine HX.e_other rfl ?_ | apply HX.e_then | apply HX.e_again | apply HX.n_block | apply HX.r_then | apply HX.r_block | apply HX.r_again | refine HC.cond_yes rfl ?_ | refine HC.cond_no rfl ?_ | refine HL.one (H1.ldb rfl memA rfl rfl ?_) | refine HC.cond rfl (fun hc => ?_) (fun hc => ?_) | refine HC.cond_b rfl (fun hc => ?_) (fun hc => ?_))
  refine HL.one (H1.callx (vs := [zv (s.size : Int)]) rfl rfl (fun w' _ => putInt_fn s.size (by omega) w') ?_)
  repeat' (first | apply HL.fold | apply HA.fold | apply HL.nil | apply HX.n_then | apply HC.seq | apply HC.region | refine HL.pa ?_ | refine HL.ga rfl ?_ | refine HL.na rfl ?_ | refine HL.nu rfl rfl ?_ | apply HC.block | apply HC.skip | apply HC.exit | apply HC.ret | apply HX.e_block | refine HX.e_other rfl ?_ | apply HX.e_then | apply HX.e_again | apply HX.n_block | apply HX.r_then | apply HX.r_block | apply HX.r_again | refine HC.cond_yes rfl ?_ | refine HC.cond_no rfl ?_ | refine HL.one (H1.ldb rfl memA rfl rfl ?_) | refine HC.cond rfl (fun hc => ?_) (fun hc => ?_) | refine HC.cond_b rfl (fun hc => ?_) (fun hc => ?_))
  exact HX.ret2 rfl rfl rfl fun w' hM => ⟨rfl, hM.ext⟩
end Go.Sx

