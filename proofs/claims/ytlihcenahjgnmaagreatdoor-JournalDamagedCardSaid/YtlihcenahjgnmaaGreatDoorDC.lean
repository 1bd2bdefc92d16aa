/- Chapter 2, the reference: a block: the walk. -/
import Derived.Test.YtlihcenahjgnmaaGreatDoorDE
import Derived.Test.YtlihcenahjgnmaaGreatDoorHl
import Derived.Test.YtlihcenahjgnmaaGreatDoorKL
namespace Go.Sx
open Go Go.Proofs Go.RowKit
theorem blkGr {w0 w : World} {b n sz : Nat} {cs : List Value} {e : TypeId} {H : List Atom} (h : Mm w0 (A.blk b cs e :: H) w) (hl : cs.length = n * sz) (hn : n ≤ 1000000) : Mm w0 (A.grow e sz (some ⟨b, 0, none⟩) n n cs :: H) w := by
  refine ⟨h.ext, fun x hx => ?_, h.nd, h.rng⟩
  rcases List.mem_cons.1 hx with rfl | hx
  · refine ⟨hl, .inr ⟨b, n, cs.toArray, rfl, Nat.zero_le _, h.blk (List.Mem.head _), Nat.le_refl _, by simp only [maxLen]; omega, by simpa using hl, ?_⟩⟩
    rw [← hl, List.take_of_length_le (by simp)]
  · exact h.all x (List.mem_cons_of_mem _ hx)
/-- The words of a block, as far as they are there. -/
def wsr (l : List UInt8) (i : Nat) : List Value := ws ((List.range i).map (wW l))
theorem wsr_snoc (l : List UInt8) (i : Nat) : wsr l i ++ [w32 (wW l i)] = wsr l (i + 1) := by unfold wsr ws; rw [List.range_succ]; simp
theorem wsr_get {l : List UInt8} {i j : Nat} (h : j < i) : (wsr l i)[j]? = some (w32 (wW l j)) := by unfold wsr ws; simp [h]
theorem wsr_len (l : List UInt8) (i : Nat) : (wsr l i).length = i := by unfold wsr ws; simp
theorem ws_len (l : List UInt32) : (ws l).length = l.length := by unfold ws; rw [List.length_map]
theorem ws_snoc (l : List UInt32) (x : UInt32) : ws l ++ [w32 x] = ws (l ++ [x]) := by simp [ws]
def sumsL (s v : S8) (i : Nat) : List UInt32 := (List.range i).map fun j => s.l.getD j 0 + v.l.getD j 0
theorem sumsL_snoc (s v : S8) (i : Nat) : sumsL s v i ++ [s.l.getD i 0 + v.l.getD i 0] = sumsL s v (i + 1) := by unfold sumsL; rw [List.range_succ]; simp
theorem sumsL_8 (s v : S8) : sumsL s v 8 = (s.add v).l := rfl
theorem sumsL_len (s v : S8) (i : Nat) : (sumsL s v i).length = i := by unfold sumsL; simp
theorem rot_or (x : UInt32) (n : Nat) : x >>> UInt32.ofNat n ||| x <<< UInt32.ofNat (32 - n) = rot x n := by unfold rot; rw [UInt32.or_comm]
theorem mix2 (x : UInt32) (a b : Nat) : mixW x [a, b] = rot x a ^^^ rot x b := by
  show (0 ^^^ rot x a) ^^^ rot x b = _
  rw [UInt32.zero_xor]
theorem mix3 (x : UInt32) (a b c : Nat) : mixW x [a, b, c] = rot x a ^^^ rot x b ^^^ rot x c := by
  show ((0 ^^^ rot x a) ^^^ rot x b) ^^^ rot x c = _
  rw [UInt32.zero_xor]
attribute [local irreducible] WC WL WX POp Then Again Fn NX W1 WA WO QL RP RA Yld LoopAt HC HL HX HN H1 HA HO HQ HB HP A.blk A.grow A.rd A.obj A.mp AgainH CutH
theorem rotated_fn (x : UInt32) (n : Nat) (h0 : 0 < n) (h : n < 32) (w : World) : Fn Tryz.prog 87 #[w32 x, zv (n : Int)] w fun v w' => v = w32 (rot x n) ∧ Ext w w' := by
  have e : (32 : Int) - (n : Int) = ((32 - n : Nat) : Int) := by omega
  refine enterH (l := [_, _]) rfl Tryz.ntmps87 rfl ?_
  repeat' (first | apply HL.fold | apply HA.fold | apply HL.nil | apply HX.n_then | apply HC.seq | apply HC.region | refine HL.pa ?_ | refine HL.ga rfl ?_ | refine HL.na rfl ?_ | refine HL.nu rfl rfl ?_ | apply HC.block | apply HC.skip | apply HC.exit | apply HC.ret | apply HX.e_block | refine HX.e_other rfl ?_ | apply HX.e_then | apply HX.e_again | apply HX.n_block | apply HX.r_then | apply HX.r_block | apply HX.r_again | refine HC.cond_yes rfl ?_ | refine HC.cond_no rfl ?_ | refine HL.one (H1.ldb rfl memA rfl rfl ?_) | refine HC.cond rfl (fun hc => ?_) (fun hc => ?_) | refine HC.cond_b rfl (fun hc => ?_) (fun hc => ?_))
  refine HC.quietS [(some 5, [0], []), (some 6, [1], []), (some 7, [5, 6], [0, 1]), (some 8, [0], []), (some 9, [1], []), (some 10, [9], [4]), (some 11, [8, 10], [3, 5]), (some 12, [7, 11], [2, 6]), (some 4, [12], [7, 0, 1, 2, 3, 4, 5, 6, 7])] (by kernel_rfl) (by kernel_rfl) (by kernel_rfl) ?_
  refine HQ.pa ?_ (POp.move rfl)
  refine HQ.pa ?_ (POp.move rfl)
  refine HQ.pa ?_ (POp.shr32 (s := n) rfl rfl rfl h)
  refine HQ.pa ?_ (POp.move rfl)
  refine HQ.pa ?_ (POp.move rfl)
  refine HQ.pa ?_ (POp.sub rfl rfl (by omega) (by omega))
  rw [e]
  refine HQ.pa ?_ (POp.shl32 (s := 32 - n) rfl rfl rfl (by omega))
  repeat' (first | refine HQ.pa ?_ | refine HQ.ga rfl ?_ | refine HQ.na rfl ?_ | refine HQ.nu rfl ?_ | refine HQ.ldb rfl memA rfl rfl ?_)
  rw [rot_or]
  refine HQ.nil ?_
  repeat' (first | apply HL.fold | apply HA.fold | apply HL.nil | apply HX.n_then | apply HC.seq | apply HC.region | refine HL.pa ?_ | refine HL.ga rfl ?_ | refine HL.na rfl ?_ | refine HL.nu rfl rfl ?_ | apply HC.block | apply HC.skip | apply HC.exit | apply HC.ret | apply HX.e_block | refine HX.e_other rfl ?_ | apply HX.e_then | apply HX.e_again | apply HX.n_block | apply HX.r_then | apply HX.r_block | apply HX.r_again | refine HC.cond_yes rfl ?_ | refine HC.cond_no rfl ?_ | refine HL.one (H1.ldb rfl memA rfl rfl ?_) | refine HC.cond rfl (fun hc => ?_) (fun hc => ?_) | refine HC.cond_b rfl (fun hc => ?_) (fun hc => ?_))
  exact HX.ret1 rfl rfl fun w' hM => ⟨rfl, hM.ext⟩
attribute [local irreducible] kL
set_option maxRecDepth 100000 in
theorem constants_fn (w : World) : Fn Tryz.prog 88 #[] w fun v w' => ∃ b : Nat, True ∧ v = .slice (some ⟨b, 0, none⟩) 64 64 ∧ Mm w [A.blk b (ws kL) 109] w' := by
  refine enterH (l := []) rfl Tryz.ntmps88 rfl ?_
  repeat' (first | apply HL.fold | apply HA.fold | apply HL.nil | apply HX.n_then | apply HC.seq | apply HC.region | refine HL.pa ?_ | refine HL.ga rfl ?_ | refine HL.na rfl ?_ | refine HL.nu rfl rfl ?_ | apply HC.block | apply HC.skip | apply HC.exit | apply HC.ret | apply HX.e_block | refine HX.e_other rfl ?_ | apply HX.e_then | apply HX.e_again | apply HX.n_block | apply HX.r_then | apply HX.r_block | apply HX.r_again | refine HC.cond_yes rfl ?_ | refine HC.cond_no rfl ?_ | refine HL.one (H1.ldb rfl memA rfl rfl ?_) | refine HC.cond rfl (fun hc => ?_) (fun hc => ?_) | refine HC.cond_b rfl (fun hc => ?_) (fun hc => ?_))
  refine HL.one (H1.lit (cs := ws kL) rfl rfl (by kernel_rfl) rfl rfl rfl (fun b => ?_))
  repeat' (first | apply HL.fold | apply HA.fold | apply HL.nil | apply HX.n_then | apply HC.seq | apply HC.region | refine HL.pa ?_ | refine HL.ga rfl ?_ | refine HL.na rfl ?_ | refine HL.nu rfl rfl ?_ | apply HC.block | apply HC.skip | apply HC.exit | apply HC.ret | apply HX.e_block | refine HX.e_other rfl ?_ | apply HX.e_then | apply HX.e_again | apply HX.n_block | apply HX.r_then | apply HX.r_block | apply HX.r_again | refine HC.cond_yes rfl ?_ | refine HC.cond_no rfl ?_ | refine HL.one (H1.ldb rfl memA rfl rfl ?_) | refine HC.cond rfl (fun hc => ?_) (fun hc => ?_) | refine HC.cond_b rfl (fun hc => ?_) (fun hc => ?_))
  exact HX.ret1 rfl rfl fun w' hM => ⟨b, trivial, rfl, hM⟩
end Go.Sx

