/- Chapter 1: the encoding of a string: the walk. -/
import Derived.Test.YtionfblneloaiaaGreatDoorXH
namespace Go.Sx
open Go Go.Proofs Go.RowKit
theorem hwDW {G G2 : Prop} (x : G2) (hwq : Hold G2 → G := by
    intro hQq
    repeat' (first | apply HL.fold | apply HA.fold | apply HL.nil | apply HX.n_then | apply HC.seq | apply HC.region | refine HL.pa ?_ | refine HL.ga rfl ?_ | refine HL.na rfl ?_ | refine HL.nu rfl rfl ?_ | apply HC.block | apply HC.skip | apply HC.exit | apply HC.ret | apply HX.e_block | refine HX.e_other rfl ?_ | apply HX.e_then | apply HX.e_again | apply HX.n_block | apply HX.r_then | apply HX.r_block | apply HX.r_again | refine HC.cond_yes rfl ?_ | refine HC.cond_no rfl ?_ | refine HL.one (H1.ldb rfl memA rfl rfl ?_) | refine HC.cond rfl (fun hc => ?_) (fun hc => ?_) | refine HC.cond_b rfl (fun hc => ?_) (fun hc => ?_))
    exact hQq.get) : G := hwq ⟨x⟩
theorem strN_size {n : Nat} (h : n ≤ 1099511627776) : (strN n).size ≤ 9 := by
  show (putN n).length ≤ 9
  exact vint_len 8 (2 * n) (by omega)
attribute [local irreducible] WC WL WX POp Then Again Fn NX W1 WA WO QL RP RA Yld LoopAt HC HL HX HN H1 HA HO HQ HB HP A.blk A.grow A.rd A.obj A.mp AgainH CutH
theorem putString_fn (s : ByteArray) (hs : s.size ≤ 65536) (w : World) : Fn Tryz.prog 43 #[.string s] w fun v w' => v = .tuple #[.string (strN s.size ++ s), .int .i64 0] ∧ Ext w w' := by
  have hz := strN_size (n := s.size) (by omega)
  refine enterH (l := [_]) rfl Tryz.ntmps43 rfl ?_
  refine hwDW ?_
  refine HL.one (H1.callx (vs := [zv (s.size : Int)]) rfl rfl (fun w' _ => putInt_fn s.size (by omega) w') ?_)
  refine hwDW ?_
  exact HX.ret2 rfl rfl rfl fun w' hM => ⟨rfl, hM.ext⟩
end Go.Sx

