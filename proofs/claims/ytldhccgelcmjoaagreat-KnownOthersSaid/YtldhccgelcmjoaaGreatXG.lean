/- Chapter 20: Valid is ValidR. -/
import Derived.Test.YtldhccgelcmjoaaGreatXF
namespace Go.Sx
open Go Go.Proofs Go.RowKit
instance mixedI : Mixed Tryz.prog := ⟨by kernel_rfl⟩
instance utyFn : UTy Tryz.prog 62 (.func #[70] #[69] false) := ⟨by kernel_rfl⟩
theorem call1 {P : Program} {f : FuncId} {v u : Value} {w : World} (h : Fn P f #[v] w fun x w' => x = u ∧ Ext w w') : Fn P f ([v] ++ ([] : List Value)).toArray w fun x w' => x = u ∧ Ext w w' := h
theorem call1w {P : Program} {f : FuncId} {v u : Value} {w : World} (h : Fn P f #[v] w fun x w' => x = u ∧ w = w') : Fn P f ([v] ++ ([] : List Value)).toArray w fun x w' => x = u ∧ Ext w w' := h.mono fun _ _ ⟨h1, h2⟩ => ⟨h1, h2 ▸ Ext.refl _⟩
attribute [local irreducible] WC WL WX POp Then Again Fn NX W1 WA WO QL RP RA Yld LoopAt HC HL HX HN H1 HA HO HQ HB HP A.blk A.grow A.rd A.obj A.mp AgainH CutH
attribute [local irreducible] specF zr
set_option maxHeartbeats 4000000 in
theorem valid_fn (r : Rc) (hr : RcOk r) (w : World) : Fn Tryz.prog 12 #[recV r] w fun v w' => v = .bool (validB r) ∧ Ext w w' := by
  refine enterH (l := [_]) rfl Tryz.ntmps12 rfl ?_
  repeat' (first | refine HL.pa ?_ (POp.fnil0 rfl rfl) | refine HL.pa ?_ (POp.fnil1 rfl rfl) | refine HL.pa ?_ (POp.nilCheck rfl) | apply HL.fold | apply HA.fold | apply HL.nil | apply HX.n_then | apply HC.seq | apply HC.region | refine HL.pa ?_ | refine HL.ga rfl ?_ | refine HL.na rfl ?_ | refine HL.nu rfl rfl ?_ | apply HC.block | apply HC.skip | apply HC.exit | apply HC.ret | apply HX.e_block | refine HX.e_other rfl ?_ | apply HX.e_then | apply HX.e_again | apply HX.n_block | apply HX.r_then | apply HX.r_block | apply HX.r_again | refine HC.cond_yes rfl ?_ | refine HC.cond_no rfl ?_ | refine HL.one (H1.ldb rfl memA rfl rfl ?_) | refine HC.cond rfl (fun hc => ?_) (fun hc => ?_) | refine HC.cond_b rfl (fun hc => ?_) (fun hc => ?_))
  refine HL.one (H1.boxAgg (cs := rcells r) rfl rfl (fun b1 => ?_))
  repeat' (first | refine HL.pa ?_ (POp.fnil0 rfl rfl) | refine HL.pa ?_ (POp.fnil1 rfl rfl) | refine HL.pa ?_ (POp.nilCheck rfl) | apply HL.fold | apply HA.fold | apply HL.nil | apply HX.n_then | apply HC.seq | apply HC.region | refine HL.pa ?_ | refine HL.ga rfl ?_ | refine HL.na rfl ?_ | refine HL.nu rfl rfl ?_ | apply HC.block | apply HC.skip | apply HC.exit | apply HC.ret | apply HX.e_block | refine HX.e_other rfl ?_ | apply HX.e_then | apply HX.e_again | apply HX.n_block | apply HX.r_then | apply HX.r_block | apply HX.r_again | refine HC.cond_yes rfl ?_ | refine HC.cond_no rfl ?_ | refine HL.one (H1.ldb rfl memA rfl rfl ?_) | refine HC.cond rfl (fun hc => ?_) (fun hc => ?_) | refine HC.cond_b rfl (fun hc => ?_) (fun hc => ?_))
  by_cases hk : 1 ≤ r.kind ∧ r.kind ≤ 8
  rotate_left
  · refine HL.one (H1.callx (vs := [zv r.kind]) rfl rfl (fun w' _ => shapeOf_no r.kind hk w') ?_)
    repeat' (first | refine HL.pa ?_ (POp.fnil0 rfl rfl) | refine HL.pa ?_ (POp.fnil1 rfl rfl) | refine HL.pa ?_ (POp.nilCheck rfl) | apply HL.fold | apply HA.fold | apply HL.nil | apply HX.n_then | apply HC.seq | apply HC.region | refine HL.pa ?_ | refine HL.ga rfl ?_ | refine HL.na rfl ?_ | refine HL.nu rfl rfl ?_ | apply HC.block | apply HC.skip | apply HC.exit | apply HC.ret | apply HX.e_block | refine HX.e_other rfl ?_ | apply HX.e_then | apply HX.e_again | apply HX.n_block | apply HX.r_then | apply HX.r_block | apply HX.r_again | refine HC.cond_yes rfl ?_ | refine HC.cond_no rfl ?_ | refine HL.one (H1.ldb rfl memA rfl rfl ?_) | refine HC.cond rfl (fun hc => ?_) (fun hc => ?_) | refine HC.cond_b rfl (fun hc => ?_) (fun hc => ?_))
    refine HL.one (H1.alloc (cs := [.slice none 0 0, .nilFunc, zv 0, zv 0, .nilFunc]) rfl rfl (fun b3 => ?_))
    repeat' (first | refine HL.pa ?_ (POp.fnil0 rfl rfl) | refine HL.pa ?_ (POp.fnil1 rfl rfl) | refine HL.pa ?_ (POp.nilCheck rfl) | apply HL.fold | apply HA.fold | apply HL.nil | apply HX.n_then | apply HC.seq | apply HC.region | refine HL.pa ?_ | refine HL.ga rfl ?_ | refine HL.na rfl ?_ | refine HL.nu rfl rfl ?_ | apply HC.block | apply HC.skip | apply HC.exit | apply HC.ret | apply HX.e_block | refine HX.e_other rfl ?_ | apply HX.e_then | apply HX.e_again | apply HX.n_block | apply HX.r_then | apply HX.r_block | apply HX.r_again | refine HC.cond_yes rfl ?_ | refine HC.cond_no rfl ?_ | refine HL.one (H1.ldb rfl memA rfl rfl ?_) | refine HC.cond rfl (fun hc => ?_) (fun hc => ?_) | refine HC.cond_b rfl (fun hc => ?_) (fun hc => ?_))
    refine HL.one (H1.stAgg (cs := [.slice none 0 0, .nilFunc, zv 0, zv 0, .nilFunc]) (vs := [.slice none 0 0, .nilFunc, zv 0, zv 0, .nilFunc]) rfl rfl rfl (by intro v hv; simp only [List.mem_cons, List.not_mem_nil, or_false] at hv; rcases hv with rfl | rfl | rfl | rfl | rfl <;> rfl) rplA rfl ?_)
    repeat' (first | refine HL.pa ?_ (POp.fnil0 rfl rfl) | refine HL.pa ?_ (POp.fnil1 rfl rfl) | refine HL.pa ?_ (POp.nilCheck rfl) | apply HL.fold | apply HA.fold | apply HL.nil | apply HX.n_then | apply HC.seq | apply HC.region | refine HL.pa ?_ | refine HL.ga rfl ?_ | refine HL.na rfl ?_ | refine HL.nu rfl rfl ?_ | apply HC.block | apply HC.skip | apply HC.exit | apply HC.ret | apply HX.e_block | refine HX.e_other rfl ?_ | apply HX.e_then | apply HX.e_again | apply HX.n_block | apply HX.r_then | apply HX.r_block | apply HX.r_again | refine HC.cond_yes rfl ?_ | refine HC.cond_no rfl ?_ | refine HL.one (H1.ldb rfl memA rfl rfl ?_) | refine HC.cond rfl (fun hc => ?_) (fun hc => ?_) | refine HC.cond_b rfl (fun hc => ?_) (fun hc => ?_))
    exact HX.ret1 rfl rfl fun w' hM => ⟨by rw [validB_no fun h => hk h.kind], hM.ext⟩
  refine HL.one (H1.callz1 (vs := [zv r.kind]) rfl rfl (fun w' _ => shapeOf_fn r.kind hk w') ?_)
  rintro ⟨a, c⟩ -
  have hlen := spec_len r.kind
  have hpos := spec_pos hk
  repeat' (first | refine HL.pa ?_ (POp.fnil0 rfl rfl) | refine HL.pa ?_ (POp.fnil1 rfl rfl) | refine HL.pa ?_ (POp.nilCheck rfl) | apply HL.fold | apply HA.fold | apply HL.nil | apply HX.n_then | apply HC.seq | apply HC.region | refine HL.pa ?_ | refine HL.ga rfl ?_ | refine HL.na rfl ?_ | refine HL.nu rfl rfl ?_ | apply HC.block | apply HC.skip | apply HC.exit | apply HC.ret | apply HX.e_block | refine HX.e_other rfl ?_ | apply HX.e_then | apply HX.e_again | apply HX.n_block | apply HX.r_then | apply HX.r_block | apply HX.r_again | refine HC.cond_yes rfl ?_ | refine HC.cond_no rfl ?_ | refine HL.one (H1.ldb rfl memA rfl rfl ?_) | refine HC.cond rfl (fun hc => ?_) (fun hc => ?_) | refine HC.cond_b rfl (fun hc => ?_) (fun hc => ?_))
  refine HL.openg (e := 64) (a := a) (xs := fcl (specF r.kind)) memA (by omega) ?_
  rintro bz rfl
  refine HL.one (H1.alloc (cs := [.slice none 0 0, .nilFunc, zv 0, zv 0, .nilFunc]) rfl rfl (fun b3 => ?_))
  repeat' (first | refine HL.pa ?_ (POp.fnil0 rfl rfl) | refine HL.pa ?_ (POp.fnil1 rfl rfl) | refine HL.pa ?_ (POp.nilCheck rfl) | apply HL.fold | apply HA.fold | apply HL.nil | apply HX.n_then | apply HC.seq | apply HC.region | refine HL.pa ?_ | refine HL.ga rfl ?_ | refine HL.na rfl ?_ | refine HL.nu rfl rfl ?_ | apply HC.block | apply HC.skip | apply HC.exit | apply HC.ret | apply HX.e_block | refine HX.e_other rfl ?_ | apply HX.e_then | apply HX.e_again | apply HX.n_block | apply HX.r_then | apply HX.r_block | apply HX.r_again | refine HC.cond_yes rfl ?_ | refine HC.cond_no rfl ?_ | refine HL.one (H1.ldb rfl memA rfl rfl ?_) | refine HC.cond rfl (fun hc => ?_) (fun hc => ?_) | refine HC.cond_b rfl (fun hc => ?_) (fun hc => ?_))
  refine HL.one (H1.stAgg (cs := [.slice none 0 0, .nilFunc, zv 0, zv 0, .nilFunc]) (vs := shapeC (some ⟨bz, 0, none⟩, c) r.kind) rfl rfl rfl (by unfold shapeC; intro v hv; simp only [List.mem_cons, List.not_mem_nil, or_false] at hv; rcases hv with rfl | rfl | rfl | rfl | rfl <;> rfl) rplA rfl ?_)
  simp only [shapeC]
  by_cases c1 : r.version < 1
  · repeat' (first | refine HL.pa ?_ (POp.fnil0 rfl rfl) | refine HL.pa ?_ (POp.fnil1 rfl rfl) | refine HL.pa ?_ (POp.nilCheck rfl) | apply HL.fold | apply HA.fold | apply HL.nil | apply HX.n_then | apply HC.seq | apply HC.region | refine HL.pa ?_ | refine HL.ga rfl ?_ | refine HL.na rfl ?_ | refine HL.nu rfl rfl ?_ | apply HC.block | apply HC.skip | apply HC.exit | apply HC.ret | apply HX.e_block | refine HX.e_other rfl ?_ | apply HX.e_then | apply HX.e_again | apply HX.n_block | apply HX.r_then | apply HX.r_block | apply HX.r_again | refine HC.cond_yes rfl ?_ | refine HC.cond_no rfl ?_ | refine HL.one (H1.ldb rfl memA rfl rfl ?_) | refine HC.cond rfl (fun hc => ?_) (fun hc => ?_) | refine HC.cond_b rfl (fun hc => ?_) (fun hc => ?_))
    exact HX.ret1 rfl rfl fun w' hM => ⟨by rw [validB_no fun h => by have := h.ver; omega], hM.ext⟩
  by_cases c2 : 1000000 < r.version
  · repeat' (first | refine HL.pa ?_ (POp.fnil0 rfl rfl) | refine HL.pa ?_ (POp.fnil1 rfl rfl) | refine HL.pa ?_ (POp.nilCheck rfl) | apply HL.fold | apply HA.fold | apply HL.nil | apply HX.n_then | apply HC.seq | apply HC.region | refine HL.pa ?_ | refine HL.ga rfl ?_ | refine HL.na rfl ?_ | refine HL.nu rfl rfl ?_ | apply HC.block | apply HC.skip | apply HC.exit | apply HC.ret | apply HX.e_block | refine HX.e_other rfl ?_ | apply HX.e_then | apply HX.e_again | apply HX.n_block | apply HX.r_then | apply HX.r_block | apply HX.r_again | refine HC.cond_yes rfl ?_ | refine HC.cond_no rfl ?_ | refine HL.one (H1.ldb rfl memA rfl rfl ?_) | refine HC.cond rfl (fun hc => ?_) (fun hc => ?_) | refine HC.cond_b rfl (fun hc => ?_) (fun hc => ?_))
    exact HX.ret1 rfl rfl fun w' hM => ⟨by rw [validB_no fun h => by have := h.ver; omega], hM.ext⟩
  by_cases c3 : r.day < 0
  · repeat' (first | refine HL.pa ?_ (POp.fnil0 rfl rfl) | refine HL.pa ?_ (POp.fnil1 rfl rfl) | refine HL.pa ?_ (POp.nilCheck rfl) | apply HL.fold | apply HA.fold | apply HL.nil | apply HX.n_then | apply HC.seq | apply HC.region | refine HL.pa ?_ | refine HL.ga rfl ?_ | refine HL.na rfl ?_ | refine HL.nu rfl rfl ?_ | apply HC.block | apply HC.skip | apply HC.exit | apply HC.ret | apply HX.e_block | refine HX.e_other rfl ?_ | apply HX.e_then | apply HX.e_again | apply HX.n_block | apply HX.r_then | apply HX.r_block | apply HX.r_again | refine HC.cond_yes rfl ?_ | refine HC.cond_no rfl ?_ | refine HL.one (H1.ldb rfl memA rfl rfl ?_) | refine HC.cond rfl (fun hc => ?_) (fun hc => ?_) | refine HC.cond_b rfl (fun hc => ?_) (fun hc => ?_))
    exact HX.ret1 rfl rfl fun w' hM => ⟨by rw [validB_no fun h => by have := h.day; omega], hM.ext⟩
  by_cases c4 : 100000 < r.day
  · repeat' (first | refine HL.pa ?_ (POp.fnil0 rfl rfl) | refine HL.pa ?_ (POp.fnil1 rfl rfl) | refine HL.pa ?_ (POp.nilCheck rfl) | apply HL.fold | apply HA.fold | apply HL.nil | apply HX.n_then | apply HC.seq | apply HC.region | refine HL.pa ?_ | refine HL.ga rfl ?_ | refine HL.na rfl ?_ | refine HL.nu rfl rfl ?_ | apply HC.block | apply HC.skip | apply HC.exit | apply HC.ret | apply HX.e_block | refine HX.e_other rfl ?_ | apply HX.e_then | apply HX.e_again | apply HX.n_block | apply HX.r_then | apply HX.r_block | apply HX.r_again | refine HC.cond_yes rfl ?_ | refine HC.cond_no rfl ?_ | refine HL.one (H1.ldb rfl memA rfl rfl ?_) | refine HC.cond rfl (fun hc => ?_) (fun hc => ?_) | refine HC.cond_b rfl (fun hc => ?_) (fun hc => ?_))
    exact HX.ret1 rfl rfl fun w' hM => ⟨by rw [validB_no fun h => by have := h.day; omega], hM.ext⟩
  by_cases c5 : (200 : Int) < r.text.size
  · repeat' (first | refine HL.pa ?_ (POp.fnil0 rfl rfl) | refine HL.pa ?_ (POp.fnil1 rfl rfl) | refine HL.pa ?_ (POp.nilCheck rfl) | apply HL.fold | apply HA.fold | apply HL.nil | apply HX.n_then | apply HC.seq | apply HC.region | refine HL.pa ?_ | refine HL.ga rfl ?_ | refine HL.na rfl ?_ | refine HL.nu rfl rfl ?_ | apply HC.block | apply HC.skip | apply HC.exit | apply HC.ret | apply HX.e_block | refine HX.e_other rfl ?_ | apply HX.e_then | apply HX.e_again | apply HX.n_block | apply HX.r_then | apply HX.r_block | apply HX.r_again | refine HC.cond_yes rfl ?_ | refine HC.cond_no rfl ?_ | refine HL.one (H1.ldb rfl memA rfl rfl ?_) | refine HC.cond rfl (fun hc => ?_) (fun hc => ?_) | refine HC.cond_b rfl (fun hc => ?_) (fun hc => ?_))
    exact HX.ret1 rfl rfl fun w' hM => ⟨by rw [validB_no fun h => by have := h.text; omega], hM.ext⟩
  have hro := rest_ok r
  obtain ⟨ho, hrest⟩ := hro
  repeat' (first | refine HL.pa ?_ (POp.fnil0 rfl rfl) | refine HL.pa ?_ (POp.fnil1 rfl rfl) | refine HL.pa ?_ (POp.nilCheck rfl) | apply HL.fold | apply HA.fold | apply HL.nil | apply HX.n_then | apply HC.seq | apply HC.region | refine HL.pa ?_ | refine HL.ga rfl ?_ | refine HL.na rfl ?_ | refine HL.nu rfl rfl ?_ | apply HC.block | apply HC.skip | apply HC.exit | apply HC.ret | apply HX.e_block | refine HX.e_other rfl ?_ | apply HX.e_then | apply HX.e_again | apply HX.n_block | apply HX.r_then | apply HX.r_block | apply HX.r_again | refine HC.cond_yes rfl ?_ | refine HC.cond_no rfl ?_ | refine HL.one (H1.ldb rfl memA rfl rfl ?_) | refine HC.cond rfl (fun hc => ?_) (fun hc => ?_) | refine HC.cond_b rfl (fun hc => ?_) (fun hc => ?_))
  refine HL.one (H1.ldAgg (vs := rcells r) rfl memA rfl (fun i v hv => by rw [Nat.zero_add]; exact hv) rfl ?_)
  repeat' (first | refine HL.pa ?_ (POp.fnil0 rfl rfl) | refine HL.pa ?_ (POp.fnil1 rfl rfl) | refine HL.pa ?_ (POp.nilCheck rfl) | apply HL.fold | apply HA.fold | apply HL.nil | apply HX.n_then | apply HC.seq | apply HC.region | refine HL.pa ?_ | refine HL.ga rfl ?_ | refine HL.na rfl ?_ | refine HL.nu rfl rfl ?_ | apply HC.block | apply HC.skip | apply HC.exit | apply HC.ret | apply HX.e_block | refine HX.e_other rfl ?_ | apply HX.e_then | apply HX.e_again | apply HX.n_block | apply HX.r_then | apply HX.r_block | apply HX.r_again | refine HC.cond_yes rfl ?_ | refine HC.cond_no rfl ?_ | refine HL.one (H1.ldb rfl memA rfl rfl ?_) | refine HC.cond rfl (fun hc => ?_) (fun hc => ?_) | refine HC.cond_b rfl (fun hc => ?_) (fun hc => ?_))
  refine HL.one (H1.callv0 (hf := ho) (f := rid r.kind) (cap := []) (vs := [recV r]) rfl rfl rfl (fun w' _ => call1 (hrest w')) ?_)
  by_cases c6 : restP r
  rotate_left
  · rw [decide_eq_false c6]
    repeat' (first | refine HL.pa ?_ (POp.fnil0 rfl rfl) | refine HL.pa ?_ (POp.fnil1 rfl rfl) | refine HL.pa ?_ (POp.nilCheck rfl) | apply HL.fold | apply HA.fold | apply HL.nil | apply HX.n_then | apply HC.seq | apply HC.region | refine HL.pa ?_ | refine HL.ga rfl ?_ | refine HL.na rfl ?_ | refine HL.nu rfl rfl ?_ | apply HC.block | apply HC.skip | apply HC.exit | apply HC.ret | apply HX.e_block | refine HX.e_other rfl ?_ | apply HX.e_then | apply HX.e_again | apply HX.n_block | apply HX.r_then | apply HX.r_block | apply HX.r_again | refine HC.cond_yes rfl ?_ | refine HC.cond_no rfl ?_ | refine HL.one (H1.ldb rfl memA rfl rfl ?_) | refine HC.cond rfl (fun hc => ?_) (fun hc => ?_) | refine HC.cond_b rfl (fun hc => ?_) (fun hc => ?_))
    exact HX.ret1 rfl rfl fun w' hM => ⟨by rw [validB_no fun h => c6 h.rest], hM.ext⟩
  rw [decide_eq_true c6]
  repeat' (first | refine HL.pa ?_ (POp.fnil0 rfl rfl) | refine HL.pa ?_ (POp.fnil1 rfl rfl) | refine HL.pa ?_ (POp.nilCheck rfl) | apply HL.fold | apply HA.fold | apply HL.nil | apply HX.n_then | apply HC.seq | apply HC.region | refine HL.pa ?_ | refine HL.ga rfl ?_ | refine HL.na rfl ?_ | refine HL.nu rfl rfl ?_ | apply HC.block | apply HC.skip | apply HC.exit | apply HC.ret | apply HX.e_block | refine HX.e_other rfl ?_ | apply HX.e_then | apply HX.e_again | apply HX.n_block | apply HX.r_then | apply HX.r_block | apply HX.r_again | refine HC.cond_yes rfl ?_ | refine HC.cond_no rfl ?_ | refine HL.one (H1.ldb rfl memA rfl rfl ?_) | refine HC.cond rfl (fun hc => ?_) (fun hc => ?_) | refine HC.cond_b rfl (fun hc => ?_) (fun hc => ?_))
  refine HL.one (H1.ldAgg (vs := rcells r) rfl memA rfl (fun i v hv => by rw [Nat.zero_add]; exact hv) rfl ?_)
  repeat' (first | refine HL.pa ?_ (POp.fnil0 rfl rfl) | refine HL.pa ?_ (POp.fnil1 rfl rfl) | refine HL.pa ?_ (POp.nilCheck rfl) | apply HL.fold | apply HA.fold | apply HL.nil | apply HX.n_then | apply HC.seq | apply HC.region | refine HL.pa ?_ | refine HL.ga rfl ?_ | refine HL.na rfl ?_ | refine HL.nu rfl rfl ?_ | apply HC.block | apply HC.skip | apply HC.exit | apply HC.ret | apply HX.e_block | refine HX.e_other rfl ?_ | apply HX.e_then | apply HX.e_again | apply HX.n_block | apply HX.r_then | apply HX.r_block | apply HX.r_again | refine HC.cond_yes rfl ?_ | refine HC.cond_no rfl ?_ | refine HL.one (H1.ldb rfl memA rfl rfl ?_) | refine HC.cond rfl (fun hc => ?_) (fun hc => ?_) | refine HC.cond_b rfl (fun hc => ?_) (fun hc => ?_))
  refine HL.one (H1.alloc (cs := rcells rcZ) rfl rfl (fun b5 => ?_))
  repeat' (first | refine HL.pa ?_ (POp.fnil0 rfl rfl) | refine HL.pa ?_ (POp.fnil1 rfl rfl) | refine HL.pa ?_ (POp.nilCheck rfl) | apply HL.fold | apply HA.fold | apply HL.nil | apply HX.n_then | apply HC.seq | apply HC.region | refine HL.pa ?_ | refine HL.ga rfl ?_ | refine HL.na rfl ?_ | refine HL.nu rfl rfl ?_ | apply HC.block | apply HC.skip | apply HC.exit | apply HC.ret | apply HX.e_block | refine HX.e_other rfl ?_ | apply HX.e_then | apply HX.e_again | apply HX.n_block | apply HX.r_then | apply HX.r_block | apply HX.r_again | refine HC.cond_yes rfl ?_ | refine HC.cond_no rfl ?_ | refine HL.one (H1.ldb rfl memA rfl rfl ?_) | refine HC.cond rfl (fun hc => ?_) (fun hc => ?_) | refine HC.cond_b rfl (fun hc => ?_) (fun hc => ?_))
  refine HL.one (H1.stAgg (cs := rcells rcZ) (vs := rcells r) rfl rfl rfl (rcells_one r) rplA rfl ?_)
  repeat' (first | refine HL.pa ?_ (POp.fnil0 rfl rfl) | refine HL.pa ?_ (POp.fnil1 rfl rfl) | refine HL.pa ?_ (POp.nilCheck rfl) | apply HL.fold | apply HA.fold | apply HL.nil | apply HX.n_then | apply HC.seq | apply HC.region | refine HL.pa ?_ | refine HL.ga rfl ?_ | refine HL.na rfl ?_ | refine HL.nu rfl rfl ?_ | apply HC.block | apply HC.skip | apply HC.exit | apply HC.ret | apply HX.e_block | refine HX.e_other rfl ?_ | apply HX.e_then | apply HX.e_again | apply HX.n_block | apply HX.r_then | apply HX.r_block | apply HX.r_again | refine HC.cond_yes rfl ?_ | refine HC.cond_no rfl ?_ | refine HL.one (H1.ldb rfl memA rfl rfl ?_) | refine HC.cond rfl (fun hc => ?_) (fun hc => ?_) | refine HC.cond_b rfl (fun hc => ?_) (fun hc => ?_))
  obtain ⟨L, hL⟩ : ∃ L, L = specF r.kind := ⟨_, rfl⟩
  have hl10 : ∀ p ∈ L, p.1 < 10 := fun p hp => (spec_lo (hL ▸ hp)).2
  have hnd : (L.map Prod.fst).Nodup := by rw [hL]; exact spec_nodup r.kind
  have hl8 : ∀ p ∈ L, p.1 = 8 → p.2.1 = 0 ∧ p.2.2 = 1 := fun p hp => spec8 (hL ▸ hp)
  have hhi : ∀ p ∈ L, p.2.2 ≤ 1000000 ∧ 0 ≤ p.2.1 := fun p hp => ⟨spec_hi (hL ▸ hp), (spec_lo (hL ▸ hp)).1⟩
  rw [← hL] at hlen hpos ⊢
  refine HC.loop (α := Nat) (fun j => [(1, .pointer (some ⟨b1, 0, none⟩)), (5, .pointer (some ⟨b5, 0, none⟩)), (52, .slice (some ⟨bz, 0, none⟩) L.length c), (53, zv (L.length : Int)), (54, zv (j : Int))])
    (fun j => [A.blk b5 (rcells (zr r (L.take j))) 24, A.grow 64 3 (some ⟨bz, 0, none⟩) c L.length (fcl L), A.blk b1 (rcells r) 24]) (fun j => j ≤ L.length ∧ ∀ p ∈ L.take j, p.2.1 ≤ r.get p.1 ∧ r.get p.1 ≤ p.2.2) (fun j => L.length - j) 0 ⟨Nat.zero_le _, fun p hp => by rw [List.take_zero] at hp; cases hp⟩ esA (Hs.blk (by rw [List.take_zero, zr]; rfl) (by repeat (first | exact Hs.nil _ | (refine Hs.cons pickA ?_)))) ?_
  rintro j ⟨hj, hI⟩
  by_cases hlt : j < L.length
  · obtain ⟨p, hp⟩ : ∃ p, L[j]? = some p := ⟨_, List.getElem?_eq_getElem hlt⟩
    have hpm := List.mem_of_getElem? hp
    have htk : L.take (j + 1) = L.take j ++ [p] := by rw [List.take_add_one, hp]; rfl
    have hp10 := hl10 p hpm
    have hz := zr_snoc r (L.take j) p
    rw [← htk] at hz
    have hnot : p.1 ∉ (L.take j).map Prod.fst := by
      have h1 : (L.map Prod.fst)[j]? = some p.1 := by rw [List.getElem?_map, hp]; rfl
      intro hm
      rw [List.map_take] at hm
      obtain ⟨i, hi, e⟩ := List.getElem_of_mem hm
      rw [List.length_take] at hi
      have h2 : (L.map Prod.fst)[i]? = some p.1 := by
        rw [List.getElem?_eq_getElem (by omega)]
        rw [List.getElem_take] at e
        rw [e]
      have := (List.getElem?_inj (by omega) hnd).1 (h2.trans h1.symm)
      omega
    have hget : (zr r (L.take j)).get p.1 = r.get p.1 := by
      rw [zr_get (L.take j) r (fun q hq => hl10 q (List.mem_of_mem_take hq)) p.1 hp10, if_neg hnot]
    have hI2 : p.2.1 ≤ r.get p.1 ∧ r.get p.1 ≤ p.2.2 → ∀ q ∈ L.take (j + 1), q.2.1 ≤ r.get q.1 ∧ r.get q.1 ≤ q.2.2 := fun h q hq => by
      rw [htk] at hq
      rcases List.mem_append.1 hq with hq | hq
      · exact hI q hq
      · obtain rfl := List.mem_singleton.1 hq; exact h
    have hno : ¬ (p.2.1 ≤ r.get p.1 ∧ r.get p.1 ≤ p.2.2) → validB r = false := fun h => validB_no fun hv => h (hv.lim p (hL ▸ hpm))
    have hfg := fcl_get hp
    have h8 := hl8 p hpm
    have hb := hhi p hpm
    obtain ⟨i, lo, hi⟩ := p
    dsimp only at hp10 hz hnot hget hI2 hno h8 hb
    repeat' (first | refine HL.pa ?_ (POp.fnil0 rfl rfl) | refine HL.pa ?_ (POp.fnil1 rfl rfl) | refine HL.pa ?_ (POp.nilCheck rfl) | apply HL.fold | apply HA.fold | apply HL.nil | apply HX.n_then | apply HC.seq | apply HC.region | refine HL.pa ?_ | refine HL.ga rfl ?_ | refine HL.na rfl ?_ | refine HL.nu rfl rfl ?_ | apply HC.block | apply HC.skip | apply HC.exit | apply HC.ret | apply HX.e_block | refine HX.e_other rfl ?_ | apply HX.e_then | apply HX.e_again | apply HX.n_block | apply HX.r_then | apply HX.r_block | apply HX.r_again | refine HC.cond_yes rfl ?_ | refine HC.cond_no rfl ?_ | refine HL.one (H1.ldb rfl memA rfl rfl ?_) | refine HC.cond rfl (fun hc => ?_) (fun hc => ?_) | refine HC.cond_b rfl (fun hc => ?_) (fun hc => ?_))
    by_cases e8 : i = 8
    · subst e8
      obtain ⟨rfl, rfl⟩ := h8 rfl
      refine HL.one (H1.ldAggw (vs := [.nilFunc, zv 0, zv 0]) rfl rfl (fun w' hM i v hv => ownsRow_cell (hM.own memA) (hfg i v hv)) rfl ?_)
      repeat' (first | refine HL.pa ?_ (POp.fnil0 rfl rfl) | refine HL.pa ?_ (POp.fnil1 rfl rfl) | refine HL.pa ?_ (POp.nilCheck rfl) | apply HL.fold | apply HA.fold | apply HL.nil | apply HX.n_then | apply HC.seq | apply HC.region | refine HL.pa ?_ | refine HL.ga rfl ?_ | refine HL.na rfl ?_ | refine HL.nu rfl rfl ?_ | apply HC.block | apply HC.skip | apply HC.exit | apply HC.ret | apply HX.e_block | refine HX.e_other rfl ?_ | apply HX.e_then | apply HX.e_again | apply HX.n_block | apply HX.r_then | apply HX.r_block | apply HX.r_again | refine HC.cond_yes rfl ?_ | refine HC.cond_no rfl ?_ | refine HL.one (H1.ldb rfl memA rfl rfl ?_) | refine HC.cond rfl (fun hc => ?_) (fun hc => ?_) | refine HC.cond_b rfl (fun hc => ?_) (fun hc => ?_))
      refine HL.one (H1.alloc (cs := [.nilFunc, zv 0, zv 0]) rfl rfl (fun b7 => ?_))
      repeat' (first | refine HL.pa ?_ (POp.fnil0 rfl rfl) | refine HL.pa ?_ (POp.fnil1 rfl rfl) | refine HL.pa ?_ (POp.nilCheck rfl) | apply HL.fold | apply HA.fold | apply HL.nil | apply HX.n_then | apply HC.seq | apply HC.region | refine HL.pa ?_ | refine HL.ga rfl ?_ | refine HL.na rfl ?_ | refine HL.nu rfl rfl ?_ | apply HC.block | apply HC.skip | apply HC.exit | apply HC.ret | apply HX.e_block | refine HX.e_other rfl ?_ | apply HX.e_then | apply HX.e_again | apply HX.n_block | apply HX.r_then | apply HX.r_block | apply HX.r_again | refine HC.cond_yes rfl ?_ | refine HC.cond_no rfl ?_ | refine HL.one (H1.ldb rfl memA rfl rfl ?_) | refine HC.cond rfl (fun hc => ?_) (fun hc => ?_) | refine HC.cond_b rfl (fun hc => ?_) (fun hc => ?_))
      refine HL.one (H1.stAgg (cs := [.nilFunc, zv 0, zv 0]) (vs := [.nilFunc, zv 0, zv 0]) rfl rfl rfl (by intro v hv; simp only [List.mem_cons, List.not_mem_nil, or_false] at hv; rcases hv with rfl | rfl | rfl <;> rfl) rplA rfl ?_)
      repeat' (first | refine HL.pa ?_ (POp.fnil0 rfl rfl) | refine HL.pa ?_ (POp.fnil1 rfl rfl) | refine HL.pa ?_ (POp.nilCheck rfl) | apply HL.fold | apply HA.fold | apply HL.nil | apply HX.n_then | apply HC.seq | apply HC.region | refine HL.pa ?_ | refine HL.ga rfl ?_ | refine HL.na rfl ?_ | refine HL.nu rfl rfl ?_ | apply HC.block | apply HC.skip | apply HC.exit | apply HC.ret | apply HX.e_block | refine HX.e_other rfl ?_ | apply HX.e_then | apply HX.e_again | apply HX.n_block | apply HX.r_then | apply HX.r_block | apply HX.r_again | refine HC.cond_yes rfl ?_ | refine HC.cond_no rfl ?_ | refine HL.one (H1.ldb rfl memA rfl rfl ?_) | refine HC.cond rfl (fun hc => ?_) (fun hc => ?_) | refine HC.cond_b rfl (fun hc => ?_) (fun hc => ?_))
      refine HL.one (H1.st rfl rfl (by intro _ h; cases h) (by intro _ h; cases h) rplA (by show 12 < 15; decide) ?_)
      repeat' (first | refine HL.pa ?_ (POp.fnil0 rfl rfl) | refine HL.pa ?_ (POp.fnil1 rfl rfl) | refine HL.pa ?_ (POp.nilCheck rfl) | apply HL.fold | apply HA.fold | apply HL.nil | apply HX.n_then | apply HC.seq | apply HC.region | refine HL.pa ?_ | refine HL.ga rfl ?_ | refine HL.na rfl ?_ | refine HL.nu rfl rfl ?_ | apply HC.block | apply HC.skip | apply HC.exit | apply HC.ret | apply HX.e_block | refine HX.e_other rfl ?_ | apply HX.e_then | apply HX.e_again | apply HX.n_block | apply HX.r_then | apply HX.r_block | apply HX.r_again | refine HC.cond_yes rfl ?_ | refine HC.cond_no rfl ?_ | refine HL.one (H1.ldb rfl memA rfl rfl ?_) | refine HC.cond rfl (fun hc => ?_) (fun hc => ?_) | refine HC.cond_b rfl (fun hc => ?_) (fun hc => ?_))
      have h12 : (rcells (zr r (L.take j))).set (0 + 12) (.bool false) = rcells (zr r (L.take (j + 1))) := by rw [hz]; exact cells_clr8 _
      rw [h12]
      repeat' (first | refine HL.pa ?_ (POp.fnil0 rfl rfl) | refine HL.pa ?_ (POp.fnil1 rfl rfl) | refine HL.pa ?_ (POp.nilCheck rfl) | apply HL.fold | apply HA.fold | apply HL.nil | apply HX.n_then | apply HC.seq | apply HC.region | refine HL.pa ?_ | refine HL.ga rfl ?_ | refine HL.na rfl ?_ | refine HL.nu rfl rfl ?_ | apply HC.block | apply HC.skip | apply HC.exit | apply HC.ret | apply HX.e_block | refine HX.e_other rfl ?_ | apply HX.e_then | apply HX.e_again | apply HX.n_block | apply HX.r_then | apply HX.r_block | apply HX.r_again | refine HC.cond_yes rfl ?_ | refine HC.cond_no rfl ?_ | refine HL.one (H1.ldb rfl memA rfl rfl ?_) | refine HC.cond rfl (fun hc => ?_) (fun hc => ?_) | refine HC.cond_b rfl (fun hc => ?_) (fun hc => ?_))
      exact HX.again (j + 1) ⟨hlt, hI2 (by show (0 : Int) ≤ b01 r.adm ∧ b01 r.adm ≤ 1; cases r.adm <;> decide)⟩ (by omega) esA (by repeat (first | exact Hs.nil _ | (refine Hs.cons pickA ?_)))
    · have hfc : fcells (i, lo, hi) = [fnV (fid i), zv lo, zv hi] := if_neg e8
      rw [hfc] at hfg
      obtain ⟨go, hgf⟩ := getter_ok hp10 e8
      have hcell := cells_get (zr r (L.take j)) hp10 e8
      rw [hget] at hcell
      have hset := cells_clr (zr r (L.take j)) hp10 e8
      rw [← hz] at hset
      refine HL.one (H1.ldAggw (vs := [fnV (fid i), zv lo, zv hi]) rfl rfl (fun w' hM i v hv => ownsRow_cell (hM.own memA) (hfg i v hv)) rfl ?_)
      repeat' (first | refine HL.pa ?_ (POp.fnil0 rfl rfl) | refine HL.pa ?_ (POp.fnil1 rfl rfl) | refine HL.pa ?_ (POp.nilCheck rfl) | apply HL.fold | apply HA.fold | apply HL.nil | apply HX.n_then | apply HC.seq | apply HC.region | refine HL.pa ?_ | refine HL.ga rfl ?_ | refine HL.na rfl ?_ | refine HL.nu rfl rfl ?_ | apply HC.block | apply HC.skip | apply HC.exit | apply HC.ret | apply HX.e_block | refine HX.e_other rfl ?_ | apply HX.e_then | apply HX.e_again | apply HX.n_block | apply HX.r_then | apply HX.r_block | apply HX.r_again | refine HC.cond_yes rfl ?_ | refine HC.cond_no rfl ?_ | refine HL.one (H1.ldb rfl memA rfl rfl ?_) | refine HC.cond rfl (fun hc => ?_) (fun hc => ?_) | refine HC.cond_b rfl (fun hc => ?_) (fun hc => ?_))
      refine HL.one (H1.alloc (cs := [.nilFunc, zv 0, zv 0]) rfl rfl (fun b7 => ?_))
      repeat' (first | refine HL.pa ?_ (POp.fnil0 rfl rfl) | refine HL.pa ?_ (POp.fnil1 rfl rfl) | refine HL.pa ?_ (POp.nilCheck rfl) | apply HL.fold | apply HA.fold | apply HL.nil | apply HX.n_then | apply HC.seq | apply HC.region | refine HL.pa ?_ | refine HL.ga rfl ?_ | refine HL.na rfl ?_ | refine HL.nu rfl rfl ?_ | apply HC.block | apply HC.skip | apply HC.exit | apply HC.ret | apply HX.e_block | refine HX.e_other rfl ?_ | apply HX.e_then | apply HX.e_again | apply HX.n_block | apply HX.r_then | apply HX.r_block | apply HX.r_again | refine HC.cond_yes rfl ?_ | refine HC.cond_no rfl ?_ | refine HL.one (H1.ldb rfl memA rfl rfl ?_) | refine HC.cond rfl (fun hc => ?_) (fun hc => ?_) | refine HC.cond_b rfl (fun hc => ?_) (fun hc => ?_))
      refine HL.one (H1.stAgg (cs := [.nilFunc, zv 0, zv 0]) (vs := [fnV (fid i), zv lo, zv hi]) rfl rfl rfl (by intro v hv; simp only [List.mem_cons, List.not_mem_nil, or_false] at hv; rcases hv with rfl | rfl | rfl <;> rfl) rplA rfl ?_)
      repeat' (first | refine HL.pa ?_ (POp.fnil0 rfl rfl) | refine HL.pa ?_ (POp.fnil1 rfl rfl) | refine HL.pa ?_ (POp.nilCheck rfl) | apply HL.fold | apply HA.fold | apply HL.nil | apply HX.n_then | apply HC.seq | apply HC.region | refine HL.pa ?_ | refine HL.ga rfl ?_ | refine HL.na rfl ?_ | refine HL.nu rfl rfl ?_ | apply HC.block | apply HC.skip | apply HC.exit | apply HC.ret | apply HX.e_block | refine HX.e_other rfl ?_ | apply HX.e_then | apply HX.e_again | apply HX.n_block | apply HX.r_then | apply HX.r_block | apply HX.r_again | refine HC.cond_yes rfl ?_ | refine HC.cond_no rfl ?_ | refine HL.one (H1.ldb rfl memA rfl rfl ?_) | refine HC.cond rfl (fun hc => ?_) (fun hc => ?_) | refine HC.cond_b rfl (fun hc => ?_) (fun hc => ?_))
      refine HL.one (H1.callv0 (hf := go) (f := fid i) (cap := []) (vs := [.pointer (some ⟨b5, 0, none⟩)]) rfl rfl rfl (fun w' _ => call1w (hgf b5 w')) ?_)
      generalize r.get i = x at *
      repeat' (first | refine HL.pa ?_ (POp.fnil0 rfl rfl) | refine HL.pa ?_ (POp.fnil1 rfl rfl) | refine HL.pa ?_ (POp.nilCheck rfl) | apply HL.fold | apply HA.fold | apply HL.nil | apply HX.n_then | apply HC.seq | apply HC.region | refine HL.pa ?_ | refine HL.ga rfl ?_ | refine HL.na rfl ?_ | refine HL.nu rfl rfl ?_ | apply HC.block | apply HC.skip | apply HC.exit | apply HC.ret | apply HX.e_block | refine HX.e_other rfl ?_ | apply HX.e_then | apply HX.e_again | apply HX.n_block | apply HX.r_then | apply HX.r_block | apply HX.r_again | refine HC.cond_yes rfl ?_ | refine HC.cond_no rfl ?_ | refine HL.one (H1.ldb rfl memA rfl rfl ?_) | refine HC.cond rfl (fun hc => ?_) (fun hc => ?_) | refine HC.cond_b rfl (fun hc => ?_) (fun hc => ?_))
      by_cases d1 : x < lo
      · refine HC.any rfl ?_
        refine HA.pa 0 rfl ?_
        refine HA.pa 1 rfl ?_ (POp.nilCheck rfl)
        refine HA.pa 3 rfl ?_
        refine HA.all [2, 4] (by kernel_rfl) rfl ⟨⟨_, rfl, ?_⟩, ⟨_, rfl, ?_⟩, trivial⟩
        · refine HO.one ?_
          refine H1.ldb (v := zv x) rfl memA hcell rfl ?_
          apply HA.fold
          refine HA.all [4] (by kernel_rfl) rfl ⟨⟨_, rfl, ?_⟩, trivial⟩
          refine HO.one ?_
          refine H1.ldb (v := zv lo) rfl memA rfl rfl ?_
          apply HA.fold
          refine HA.pa 5 rfl ?_
          refine HA.pa 6 rfl ?_
          first | refine HA.ga 7 rfl rfl ?_ | refine HA.na 7 rfl rfl ?_ | refine HA.nu 7 rfl rfl ?_
          first | refine HA.ga 8 rfl rfl ?_ | refine HA.na 8 rfl rfl ?_ | refine HA.nu 8 rfl rfl ?_
          first | refine HA.ga 9 rfl rfl ?_ | refine HA.na 9 rfl rfl ?_ | refine HA.nu 9 rfl rfl ?_
          first | refine HA.ga 10 rfl rfl ?_ | refine HA.na 10 rfl rfl ?_ | refine HA.nu 10 rfl rfl ?_
          first | refine HA.ga 11 rfl rfl ?_ | refine HA.na 11 rfl rfl ?_ | refine HA.nu 11 rfl rfl ?_
          first | refine HA.ga 12 rfl rfl ?_ | refine HA.na 12 rfl rfl ?_ | refine HA.nu 12 rfl rfl ?_
          refine HA.pa 13 rfl ?_
          refine HA.done (by kernel_rfl) ?_
          repeat' (first | refine HL.pa ?_ (POp.fnil0 rfl rfl) | refine HL.pa ?_ (POp.fnil1 rfl rfl) | refine HL.pa ?_ (POp.nilCheck rfl) | apply HL.fold | apply HA.fold | apply HL.nil | apply HX.n_then | apply HC.seq | apply HC.region | refine HL.pa ?_ | refine HL.ga rfl ?_ | refine HL.na rfl ?_ | refine HL.nu rfl rfl ?_ | apply HC.block | apply HC.skip | apply HC.exit | apply HC.ret | apply HX.e_block | refine HX.e_other rfl ?_ | apply HX.e_then | apply HX.e_again | apply HX.n_block | apply HX.r_then | apply HX.r_block | apply HX.r_again | refine HC.cond_yes rfl ?_ | refine HC.cond_no rfl ?_ | refine HL.one (H1.ldb rfl memA rfl rfl ?_) | refine HC.cond rfl (fun hc => ?_) (fun hc => ?_) | refine HC.cond_b rfl (fun hc => ?_) (fun hc => ?_))
          exact HX.ret1 rfl rfl fun w' hM => ⟨by rw [hno (by omega)], hM.ext⟩
        · refine HO.one ?_
          refine H1.ldb (v := zv lo) rfl memA rfl rfl ?_
          apply HA.fold
          refine HA.all [2] (by kernel_rfl) rfl ⟨⟨_, rfl, ?_⟩, trivial⟩
          refine HO.one ?_
          refine H1.ldb (v := zv x) rfl memA hcell rfl ?_
          apply HA.fold
          refine HA.pa 5 rfl ?_
          refine HA.pa 6 rfl ?_
          first | refine HA.ga 7 rfl rfl ?_ | refine HA.na 7 rfl rfl ?_ | refine HA.nu 7 rfl rfl ?_
          first | refine HA.ga 8 rfl rfl ?_ | refine HA.na 8 rfl rfl ?_ | refine HA.nu 8 rfl rfl ?_
          first | refine HA.ga 9 rfl rfl ?_ | refine HA.na 9 rfl rfl ?_ | refine HA.nu 9 rfl rfl ?_
          first | refine HA.ga 10 rfl rfl ?_ | refine HA.na 10 rfl rfl ?_ | refine HA.nu 10 rfl rfl ?_
          first | refine HA.ga 11 rfl rfl ?_ | refine HA.na 11 rfl rfl ?_ | refine HA.nu 11 rfl rfl ?_
          first | refine HA.ga 12 rfl rfl ?_ | refine HA.na 12 rfl rfl ?_ | refine HA.nu 12 rfl rfl ?_
          refine HA.pa 13 rfl ?_
          refine HA.done (by kernel_rfl) ?_
          repeat' (first | refine HL.pa ?_ (POp.fnil0 rfl rfl) | refine HL.pa ?_ (POp.fnil1 rfl rfl) | refine HL.pa ?_ (POp.nilCheck rfl) | apply HL.fold | apply HA.fold | apply HL.nil | apply HX.n_then | apply HC.seq | apply HC.region | refine HL.pa ?_ | refine HL.ga rfl ?_ | refine HL.na rfl ?_ | refine HL.nu rfl rfl ?_ | apply HC.block | apply HC.skip | apply HC.exit | apply HC.ret | apply HX.e_block | refine HX.e_other rfl ?_ | apply HX.e_then | apply HX.e_again | apply HX.n_block | apply HX.r_then | apply HX.r_block | apply HX.r_again | refine HC.cond_yes rfl ?_ | refine HC.cond_no rfl ?_ | refine HL.one (H1.ldb rfl memA rfl rfl ?_) | refine HC.cond rfl (fun hc => ?_) (fun hc => ?_) | refine HC.cond_b rfl (fun hc => ?_) (fun hc => ?_))
          exact HX.ret1 rfl rfl fun w' hM => ⟨by rw [hno (by omega)], hM.ext⟩
      by_cases d2 : hi < x
      · refine HC.any rfl ?_
        refine HA.pa 0 rfl ?_
        refine HA.pa 1 rfl ?_ (POp.nilCheck rfl)
        refine HA.pa 3 rfl ?_
        refine HA.all [2, 4] (by kernel_rfl) rfl ⟨⟨_, rfl, ?_⟩, ⟨_, rfl, ?_⟩, trivial⟩
        · refine HO.one ?_
          refine H1.ldb (v := zv x) rfl memA hcell rfl ?_
          apply HA.fold
          refine HA.all [4] (by kernel_rfl) rfl ⟨⟨_, rfl, ?_⟩, trivial⟩
          refine HO.one ?_
          refine H1.ldb (v := zv lo) rfl memA rfl rfl ?_
          apply HA.fold
          refine HA.pa 5 rfl ?_
          refine HA.pa 6 rfl ?_
          first | refine HA.ga 7 rfl rfl ?_ | refine HA.na 7 rfl rfl ?_ | refine HA.nu 7 rfl rfl ?_
          refine HA.ga (hp := POp.nilCheck rfl) 8 rfl rfl ?_
          first | refine HA.ga 10 rfl rfl ?_ | refine HA.na 10 rfl rfl ?_ | refine HA.nu 10 rfl rfl ?_
          refine HA.all [9, 11] (by kernel_rfl) rfl ⟨⟨_, rfl, ?_⟩, ⟨_, rfl, ?_⟩, trivial⟩
          · refine HO.one_a rfl ?_
            refine H1.ldb (v := zv x) rfl memA hcell rfl ?_
            apply HA.fold
            refine HA.all [11] (by kernel_rfl) rfl ⟨⟨_, rfl, ?_⟩, trivial⟩
            refine HO.one_a rfl ?_
            refine H1.ldb (v := zv hi) rfl memA rfl rfl ?_
            apply HA.fold
            first | refine HA.ga 12 rfl rfl ?_ | refine HA.na 12 rfl rfl ?_ | refine HA.nu 12 rfl rfl ?_
            refine HA.pa 13 rfl ?_
            refine HA.done (by kernel_rfl) ?_
            repeat' (first | refine HL.pa ?_ (POp.fnil0 rfl rfl) | refine HL.pa ?_ (POp.fnil1 rfl rfl) | refine HL.pa ?_ (POp.nilCheck rfl) | apply HL.fold | apply HA.fold | apply HL.nil | apply HX.n_then | apply HC.seq | apply HC.region | refine HL.pa ?_ | refine HL.ga rfl ?_ | refine HL.na rfl ?_ | refine HL.nu rfl rfl ?_ | apply HC.block | apply HC.skip | apply HC.exit | apply HC.ret | apply HX.e_block | refine HX.e_other rfl ?_ | apply HX.e_then | apply HX.e_again | apply HX.n_block | apply HX.r_then | apply HX.r_block | apply HX.r_again | refine HC.cond_yes rfl ?_ | refine HC.cond_no rfl ?_ | refine HL.one (H1.ldb rfl memA rfl rfl ?_) | refine HC.cond rfl (fun hc => ?_) (fun hc => ?_) | refine HC.cond_b rfl (fun hc => ?_) (fun hc => ?_))
            exact HX.ret1 rfl rfl fun w' hM => ⟨by rw [hno (by omega)], hM.ext⟩
          · refine HO.one_a rfl ?_
            refine H1.ldb (v := zv hi) rfl memA rfl rfl ?_
            apply HA.fold
            refine HA.all [9] (by kernel_rfl) rfl ⟨⟨_, rfl, ?_⟩, trivial⟩
            refine HO.one_a rfl ?_
            refine H1.ldb (v := zv x) rfl memA hcell rfl ?_
            apply HA.fold
            first | refine HA.ga 12 rfl rfl ?_ | refine HA.na 12 rfl rfl ?_ | refine HA.nu 12 rfl rfl ?_
            refine HA.pa 13 rfl ?_
            refine HA.done (by kernel_rfl) ?_
            repeat' (first | refine HL.pa ?_ (POp.fnil0 rfl rfl) | refine HL.pa ?_ (POp.fnil1 rfl rfl) | refine HL.pa ?_ (POp.nilCheck rfl) | apply HL.fold | apply HA.fold | apply HL.nil | apply HX.n_then | apply HC.seq | apply HC.region | refine HL.pa ?_ | refine HL.ga rfl ?_ | refine HL.na rfl ?_ | refine HL.nu rfl rfl ?_ | apply HC.block | apply HC.skip | apply HC.exit | apply HC.ret | apply HX.e_block | refine HX.e_other rfl ?_ | apply HX.e_then | apply HX.e_again | apply HX.n_block | apply HX.r_then | apply HX.r_block | apply HX.r_again | refine HC.cond_yes rfl ?_ | refine HC.cond_no rfl ?_ | refine HL.one (H1.ldb rfl memA rfl rfl ?_) | refine HC.cond rfl (fun hc => ?_) (fun hc => ?_) | refine HC.cond_b rfl (fun hc => ?_) (fun hc => ?_))
            exact HX.ret1 rfl rfl fun w' hM => ⟨by rw [hno (by omega)], hM.ext⟩
        · refine HO.one ?_
          refine H1.ldb (v := zv lo) rfl memA rfl rfl ?_
          apply HA.fold
          refine HA.all [2] (by kernel_rfl) rfl ⟨⟨_, rfl, ?_⟩, trivial⟩
          refine HO.one ?_
          refine H1.ldb (v := zv x) rfl memA hcell rfl ?_
          apply HA.fold
          refine HA.pa 5 rfl ?_
          refine HA.pa 6 rfl ?_
          first | refine HA.ga 7 rfl rfl ?_ | refine HA.na 7 rfl rfl ?_ | refine HA.nu 7 rfl rfl ?_
          refine HA.ga (hp := POp.nilCheck rfl) 8 rfl rfl ?_
          first | refine HA.ga 10 rfl rfl ?_ | refine HA.na 10 rfl rfl ?_ | refine HA.nu 10 rfl rfl ?_
          refine HA.all [9, 11] (by kernel_rfl) rfl ⟨⟨_, rfl, ?_⟩, ⟨_, rfl, ?_⟩, trivial⟩
          · refine HO.one_a rfl ?_
            refine H1.ldb (v := zv x) rfl memA hcell rfl ?_
            apply HA.fold
            refine HA.all [11] (by kernel_rfl) rfl ⟨⟨_, rfl, ?_⟩, trivial⟩
            refine HO.one_a rfl ?_
            refine H1.ldb (v := zv hi) rfl memA rfl rfl ?_
            apply HA.fold
            first | refine HA.ga 12 rfl rfl ?_ | refine HA.na 12 rfl rfl ?_ | refine HA.nu 12 rfl rfl ?_
            refine HA.pa 13 rfl ?_
            refine HA.done (by kernel_rfl) ?_
            repeat' (first | refine HL.pa ?_ (POp.fnil0 rfl rfl) | refine HL.pa ?_ (POp.fnil1 rfl rfl) | refine HL.pa ?_ (POp.nilCheck rfl) | apply HL.fold | apply HA.fold | apply HL.nil | apply HX.n_then | apply HC.seq | apply HC.region | refine HL.pa ?_ | refine HL.ga rfl ?_ | refine HL.na rfl ?_ | refine HL.nu rfl rfl ?_ | apply HC.block | apply HC.skip | apply HC.exit | apply HC.ret | apply HX.e_block | refine HX.e_other rfl ?_ | apply HX.e_then | apply HX.e_again | apply HX.n_block | apply HX.r_then | apply HX.r_block | apply HX.r_again | refine HC.cond_yes rfl ?_ | refine HC.cond_no rfl ?_ | refine HL.one (H1.ldb rfl memA rfl rfl ?_) | refine HC.cond rfl (fun hc => ?_) (fun hc => ?_) | refine HC.cond_b rfl (fun hc => ?_) (fun hc => ?_))
            exact HX.ret1 rfl rfl fun w' hM => ⟨by rw [hno (by omega)], hM.ext⟩
          · refine HO.one_a rfl ?_
            refine H1.ldb (v := zv hi) rfl memA rfl rfl ?_
            apply HA.fold
            refine HA.all [9] (by kernel_rfl) rfl ⟨⟨_, rfl, ?_⟩, trivial⟩
            refine HO.one_a rfl ?_
            refine H1.ldb (v := zv x) rfl memA hcell rfl ?_
            apply HA.fold
            first | refine HA.ga 12 rfl rfl ?_ | refine HA.na 12 rfl rfl ?_ | refine HA.nu 12 rfl rfl ?_
            refine HA.pa 13 rfl ?_
            refine HA.done (by kernel_rfl) ?_
            repeat' (first | refine HL.pa ?_ (POp.fnil0 rfl rfl) | refine HL.pa ?_ (POp.fnil1 rfl rfl) | refine HL.pa ?_ (POp.nilCheck rfl) | apply HL.fold | apply HA.fold | apply HL.nil | apply HX.n_then | apply HC.seq | apply HC.region | refine HL.pa ?_ | refine HL.ga rfl ?_ | refine HL.na rfl ?_ | refine HL.nu rfl rfl ?_ | apply HC.block | apply HC.skip | apply HC.exit | apply HC.ret | apply HX.e_block | refine HX.e_other rfl ?_ | apply HX.e_then | apply HX.e_again | apply HX.n_block | apply HX.r_then | apply HX.r_block | apply HX.r_again | refine HC.cond_yes rfl ?_ | refine HC.cond_no rfl ?_ | refine HL.one (H1.ldb rfl memA rfl rfl ?_) | refine HC.cond rfl (fun hc => ?_) (fun hc => ?_) | refine HC.cond_b rfl (fun hc => ?_) (fun hc => ?_))
            exact HX.ret1 rfl rfl fun w' hM => ⟨by rw [hno (by omega)], hM.ext⟩
      refine HC.any rfl ?_
      refine HA.pa 0 rfl ?_
      refine HA.pa 1 rfl ?_ (POp.nilCheck rfl)
      refine HA.pa 3 rfl ?_
      refine HA.all [2, 4] (by kernel_rfl) rfl ⟨⟨_, rfl, ?_⟩, ⟨_, rfl, ?_⟩, trivial⟩
      · refine HO.one ?_
        refine H1.ldb (v := zv x) rfl memA hcell rfl ?_
        apply HA.fold
        refine HA.all [4] (by kernel_rfl) rfl ⟨⟨_, rfl, ?_⟩, trivial⟩
        refine HO.one ?_
        refine H1.ldb (v := zv lo) rfl memA rfl rfl ?_
        apply HA.fold
        refine HA.pa 5 rfl ?_
        refine HA.pa 6 rfl ?_
        first | refine HA.ga 7 rfl rfl ?_ | refine HA.na 7 rfl rfl ?_ | refine HA.nu 7 rfl rfl ?_
        refine HA.ga (hp := POp.nilCheck rfl) 8 rfl rfl ?_
        first | refine HA.ga 10 rfl rfl ?_ | refine HA.na 10 rfl rfl ?_ | refine HA.nu 10 rfl rfl ?_
        refine HA.all [9, 11] (by kernel_rfl) rfl ⟨⟨_, rfl, ?_⟩, ⟨_, rfl, ?_⟩, trivial⟩
        · refine HO.one_a rfl ?_
          refine H1.ldb (v := zv x) rfl memA hcell rfl ?_
          apply HA.fold
          refine HA.all [11] (by kernel_rfl) rfl ⟨⟨_, rfl, ?_⟩, trivial⟩
          refine HO.one_a rfl ?_
          refine H1.ldb (v := zv hi) rfl memA rfl rfl ?_
          apply HA.fold
          first | refine HA.ga 12 rfl rfl ?_ | refine HA.na 12 rfl rfl ?_ | refine HA.nu 12 rfl rfl ?_
          refine HA.pa 13 rfl ?_
          refine HA.done (by kernel_rfl) ?_
          repeat' (first | refine HL.pa ?_ (POp.fnil0 rfl rfl) | refine HL.pa ?_ (POp.fnil1 rfl rfl) | refine HL.pa ?_ (POp.nilCheck rfl) | apply HL.fold | apply HA.fold | apply HL.nil | apply HX.n_then | apply HC.seq | apply HC.region | refine HL.pa ?_ | refine HL.ga rfl ?_ | refine HL.na rfl ?_ | refine HL.nu rfl rfl ?_ | apply HC.block | apply HC.skip | apply HC.exit | apply HC.ret | apply HX.e_block | refine HX.e_other rfl ?_ | apply HX.e_then | apply HX.e_again | apply HX.n_block | apply HX.r_then | apply HX.r_block | apply HX.r_again | refine HC.cond_yes rfl ?_ | refine HC.cond_no rfl ?_ | refine HL.one (H1.ldb rfl memA rfl rfl ?_) | refine HC.cond rfl (fun hc => ?_) (fun hc => ?_) | refine HC.cond_b rfl (fun hc => ?_) (fun hc => ?_))
          refine HL.one (H1.st rfl rfl (by intro _ h; cases h) (by intro _ h; cases h) rplA (by exact fpos_lt i) ?_)
          rw [hset]
          repeat' (first | refine HL.pa ?_ (POp.fnil0 rfl rfl) | refine HL.pa ?_ (POp.fnil1 rfl rfl) | refine HL.pa ?_ (POp.nilCheck rfl) | apply HL.fold | apply HA.fold | apply HL.nil | apply HX.n_then | apply HC.seq | apply HC.region | refine HL.pa ?_ | refine HL.ga rfl ?_ | refine HL.na rfl ?_ | refine HL.nu rfl rfl ?_ | apply HC.block | apply HC.skip | apply HC.exit | apply HC.ret | apply HX.e_block | refine HX.e_other rfl ?_ | apply HX.e_then | apply HX.e_again | apply HX.n_block | apply HX.r_then | apply HX.r_block | apply HX.r_again | refine HC.cond_yes rfl ?_ | refine HC.cond_no rfl ?_ | refine HL.one (H1.ldb rfl memA rfl rfl ?_) | refine HC.cond rfl (fun hc => ?_) (fun hc => ?_) | refine HC.cond_b rfl (fun hc => ?_) (fun hc => ?_))
          exact HX.again (j + 1) ⟨hlt, hI2 (by omega)⟩ (by omega) esA (by repeat (first | exact Hs.nil _ | (refine Hs.cons pickA ?_)))
        · refine HO.one_a rfl ?_
          refine H1.ldb (v := zv hi) rfl memA rfl rfl ?_
          apply HA.fold
          refine HA.all [9] (by kernel_rfl) rfl ⟨⟨_, rfl, ?_⟩, trivial⟩
          refine HO.one_a rfl ?_
          refine H1.ldb (v := zv x) rfl memA hcell rfl ?_
          apply HA.fold
          first | refine HA.ga 12 rfl rfl ?_ | refine HA.na 12 rfl rfl ?_ | refine HA.nu 12 rfl rfl ?_
          refine HA.pa 13 rfl ?_
          refine HA.done (by kernel_rfl) ?_
          repeat' (first | refine HL.pa ?_ (POp.fnil0 rfl rfl) | refine HL.pa ?_ (POp.fnil1 rfl rfl) | refine HL.pa ?_ (POp.nilCheck rfl) | apply HL.fold | apply HA.fold | apply HL.nil | apply HX.n_then | apply HC.seq | apply HC.region | refine HL.pa ?_ | refine HL.ga rfl ?_ | refine HL.na rfl ?_ | refine HL.nu rfl rfl ?_ | apply HC.block | apply HC.skip | apply HC.exit | apply HC.ret | apply HX.e_block | refine HX.e_other rfl ?_ | apply HX.e_then | apply HX.e_again | apply HX.n_block | apply HX.r_then | apply HX.r_block | apply HX.r_again | refine HC.cond_yes rfl ?_ | refine HC.cond_no rfl ?_ | refine HL.one (H1.ldb rfl memA rfl rfl ?_) | refine HC.cond rfl (fun hc => ?_) (fun hc => ?_) | refine HC.cond_b rfl (fun hc => ?_) (fun hc => ?_))
          refine HL.one (H1.st rfl rfl (by intro _ h; cases h) (by intro _ h; cases h) rplA (by exact fpos_lt i) ?_)
          rw [hset]
          repeat' (first | refine HL.pa ?_ (POp.fnil0 rfl rfl) | refine HL.pa ?_ (POp.fnil1 rfl rfl) | refine HL.pa ?_ (POp.nilCheck rfl) | apply HL.fold | apply HA.fold | apply HL.nil | apply HX.n_then | apply HC.seq | apply HC.region | refine HL.pa ?_ | refine HL.ga rfl ?_ | refine HL.na rfl ?_ | refine HL.nu rfl rfl ?_ | apply HC.block | apply HC.skip | apply HC.exit | apply HC.ret | apply HX.e_block | refine HX.e_other rfl ?_ | apply HX.e_then | apply HX.e_again | apply HX.n_block | apply HX.r_then | apply HX.r_block | apply HX.r_again | refine HC.cond_yes rfl ?_ | refine HC.cond_no rfl ?_ | refine HL.one (H1.ldb rfl memA rfl rfl ?_) | refine HC.cond rfl (fun hc => ?_) (fun hc => ?_) | refine HC.cond_b rfl (fun hc => ?_) (fun hc => ?_))
          exact HX.again (j + 1) ⟨hlt, hI2 (by omega)⟩ (by omega) esA (by repeat (first | exact Hs.nil _ | (refine Hs.cons pickA ?_)))
      · refine HO.one ?_
        refine H1.ldb (v := zv lo) rfl memA rfl rfl ?_
        apply HA.fold
        refine HA.all [2] (by kernel_rfl) rfl ⟨⟨_, rfl, ?_⟩, trivial⟩
        refine HO.one ?_
        refine H1.ldb (v := zv x) rfl memA hcell rfl ?_
        apply HA.fold
        refine HA.pa 5 rfl ?_
        refine HA.pa 6 rfl ?_
        first | refine HA.ga 7 rfl rfl ?_ | refine HA.na 7 rfl rfl ?_ | refine HA.nu 7 rfl rfl ?_
        refine HA.ga (hp := POp.nilCheck rfl) 8 rfl rfl ?_
        first | refine HA.ga 10 rfl rfl ?_ | refine HA.na 10 rfl rfl ?_ | refine HA.nu 10 rfl rfl ?_
        refine HA.all [9, 11] (by kernel_rfl) rfl ⟨⟨_, rfl, ?_⟩, ⟨_, rfl, ?_⟩, trivial⟩
        · refine HO.one_a rfl ?_
          refine H1.ldb (v := zv x) rfl memA hcell rfl ?_
          apply HA.fold
          refine HA.all [11] (by kernel_rfl) rfl ⟨⟨_, rfl, ?_⟩, trivial⟩
          refine HO.one_a rfl ?_
          refine H1.ldb (v := zv hi) rfl memA rfl rfl ?_
          apply HA.fold
          first | refine HA.ga 12 rfl rfl ?_ | refine HA.na 12 rfl rfl ?_ | refine HA.nu 12 rfl rfl ?_
          refine HA.pa 13 rfl ?_
          refine HA.done (by kernel_rfl) ?_
          repeat' (first | refine HL.pa ?_ (POp.fnil0 rfl rfl) | refine HL.pa ?_ (POp.fnil1 rfl rfl) | refine HL.pa ?_ (POp.nilCheck rfl) | apply HL.fold | apply HA.fold | apply HL.nil | apply HX.n_then | apply HC.seq | apply HC.region | refine HL.pa ?_ | refine HL.ga rfl ?_ | refine HL.na rfl ?_ | refine HL.nu rfl rfl ?_ | apply HC.block | apply HC.skip | apply HC.exit | apply HC.ret | apply HX.e_block | refine HX.e_other rfl ?_ | apply HX.e_then | apply HX.e_again | apply HX.n_block | apply HX.r_then | apply HX.r_block | apply HX.r_again | refine HC.cond_yes rfl ?_ | refine HC.cond_no rfl ?_ | refine HL.one (H1.ldb rfl memA rfl rfl ?_) | refine HC.cond rfl (fun hc => ?_) (fun hc => ?_) | refine HC.cond_b rfl (fun hc => ?_) (fun hc => ?_))
          refine HL.one (H1.st rfl rfl (by intro _ h; cases h) (by intro _ h; cases h) rplA (by exact fpos_lt i) ?_)
          rw [hset]
          repeat' (first | refine HL.pa ?_ (POp.fnil0 rfl rfl) | refine HL.pa ?_ (POp.fnil1 rfl rfl) | refine HL.pa ?_ (POp.nilCheck rfl) | apply HL.fold | apply HA.fold | apply HL.nil | apply HX.n_then | apply HC.seq | apply HC.region | refine HL.pa ?_ | refine HL.ga rfl ?_ | refine HL.na rfl ?_ | refine HL.nu rfl rfl ?_ | apply HC.block | apply HC.skip | apply HC.exit | apply HC.ret | apply HX.e_block | refine HX.e_other rfl ?_ | apply HX.e_then | apply HX.e_again | apply HX.n_block | apply HX.r_then | apply HX.r_block | apply HX.r_again | refine HC.cond_yes rfl ?_ | refine HC.cond_no rfl ?_ | refine HL.one (H1.ldb rfl memA rfl rfl ?_) | refine HC.cond rfl (fun hc => ?_) (fun hc => ?_) | refine HC.cond_b rfl (fun hc => ?_) (fun hc => ?_))
          exact HX.again (j + 1) ⟨hlt, hI2 (by omega)⟩ (by omega) esA (by repeat (first | exact Hs.nil _ | (refine Hs.cons pickA ?_)))
        · refine HO.one_a rfl ?_
          refine H1.ldb (v := zv hi) rfl memA rfl rfl ?_
          apply HA.fold
          refine HA.all [9] (by kernel_rfl) rfl ⟨⟨_, rfl, ?_⟩, trivial⟩
          refine HO.one_a rfl ?_
          refine H1.ldb (v := zv x) rfl memA hcell rfl ?_
          apply HA.fold
          first | refine HA.ga 12 rfl rfl ?_ | refine HA.na 12 rfl rfl ?_ | refine HA.nu 12 rfl rfl ?_
          refine HA.pa 13 rfl ?_
          refine HA.done (by kernel_rfl) ?_
          repeat' (first | refine HL.pa ?_ (POp.fnil0 rfl rfl) | refine HL.pa ?_ (POp.fnil1 rfl rfl) | refine HL.pa ?_ (POp.nilCheck rfl) | apply HL.fold | apply HA.fold | apply HL.nil | apply HX.n_then | apply HC.seq | apply HC.region | refine HL.pa ?_ | refine HL.ga rfl ?_ | refine HL.na rfl ?_ | refine HL.nu rfl rfl ?_ | apply HC.block | apply HC.skip | apply HC.exit | apply HC.ret | apply HX.e_block | refine HX.e_other rfl ?_ | apply HX.e_then | apply HX.e_again | apply HX.n_block | apply HX.r_then | apply HX.r_block | apply HX.r_again | refine HC.cond_yes rfl ?_ | refine HC.cond_no rfl ?_ | refine HL.one (H1.ldb rfl memA rfl rfl ?_) | refine HC.cond rfl (fun hc => ?_) (fun hc => ?_) | refine HC.cond_b rfl (fun hc => ?_) (fun hc => ?_))
          refine HL.one (H1.st rfl rfl (by intro _ h; cases h) (by intro _ h; cases h) rplA (by exact fpos_lt i) ?_)
          rw [hset]
          repeat' (first | refine HL.pa ?_ (POp.fnil0 rfl rfl) | refine HL.pa ?_ (POp.fnil1 rfl rfl) | refine HL.pa ?_ (POp.nilCheck rfl) | apply HL.fold | apply HA.fold | apply HL.nil | apply HX.n_then | apply HC.seq | apply HC.region | refine HL.pa ?_ | refine HL.ga rfl ?_ | refine HL.na rfl ?_ | refine HL.nu rfl rfl ?_ | apply HC.block | apply HC.skip | apply HC.exit | apply HC.ret | apply HX.e_block | refine HX.e_other rfl ?_ | apply HX.e_then | apply HX.e_again | apply HX.n_block | apply HX.r_then | apply HX.r_block | apply HX.r_again | refine HC.cond_yes rfl ?_ | refine HC.cond_no rfl ?_ | refine HL.one (H1.ldb rfl memA rfl rfl ?_) | refine HC.cond rfl (fun hc => ?_) (fun hc => ?_) | refine HC.cond_b rfl (fun hc => ?_) (fun hc => ?_))
          exact HX.again (j + 1) ⟨hlt, hI2 (by omega)⟩ (by omega) esA (by repeat (first | exact Hs.nil _ | (refine Hs.cons pickA ?_)))
  obtain rfl : j = L.length := by omega
  rw [List.take_length] at hI ⊢
  have hzk := zr_ok L r hl10 hr
  have hhk := headR_ok hr
  have hzh := zr_eq_head r
  rw [← hL] at hzh
  repeat' (first | refine HL.pa ?_ (POp.fnil0 rfl rfl) | refine HL.pa ?_ (POp.fnil1 rfl rfl) | refine HL.pa ?_ (POp.nilCheck rfl) | apply HL.fold | apply HA.fold | apply HL.nil | apply HX.n_then | apply HC.seq | apply HC.region | refine HL.pa ?_ | refine HL.ga rfl ?_ | refine HL.na rfl ?_ | refine HL.nu rfl rfl ?_ | apply HC.block | apply HC.skip | apply HC.exit | apply HC.ret | apply HX.e_block | refine HX.e_other rfl ?_ | apply HX.e_then | apply HX.e_again | apply HX.n_block | apply HX.r_then | apply HX.r_block | apply HX.r_again | refine HC.cond_yes rfl ?_ | refine HC.cond_no rfl ?_ | refine HL.one (H1.ldb rfl memA rfl rfl ?_) | refine HC.cond rfl (fun hc => ?_) (fun hc => ?_) | refine HC.cond_b rfl (fun hc => ?_) (fun hc => ?_))
  refine HL.one (H1.ldAgg (vs := rcells (zr r L)) rfl memA rfl (fun i v hv => by rw [Nat.zero_add]; exact hv) rfl ?_)
  repeat' (first | refine HL.pa ?_ (POp.fnil0 rfl rfl) | refine HL.pa ?_ (POp.fnil1 rfl rfl) | refine HL.pa ?_ (POp.nilCheck rfl) | apply HL.fold | apply HA.fold | apply HL.nil | apply HX.n_then | apply HC.seq | apply HC.region | refine HL.pa ?_ | refine HL.ga rfl ?_ | refine HL.na rfl ?_ | refine HL.nu rfl rfl ?_ | apply HC.block | apply HC.skip | apply HC.exit | apply HC.ret | apply HX.e_block | refine HX.e_other rfl ?_ | apply HX.e_then | apply HX.e_again | apply HX.n_block | apply HX.r_then | apply HX.r_block | apply HX.r_again | refine HC.cond_yes rfl ?_ | refine HC.cond_no rfl ?_ | refine HL.one (H1.ldb rfl memA rfl rfl ?_) | refine HC.cond rfl (fun hc => ?_) (fun hc => ?_) | refine HC.cond_b rfl (fun hc => ?_) (fun hc => ?_))
  refine HL.build (cs := rcells (headR r)) rfl rfl rfl ?_
  refine HL.pa ?_ (POp.eqRec rfl rfl hzk hhk)
  repeat' (first | refine HL.pa ?_ (POp.fnil0 rfl rfl) | refine HL.pa ?_ (POp.fnil1 rfl rfl) | refine HL.pa ?_ (POp.nilCheck rfl) | apply HL.fold | apply HA.fold | apply HL.nil | apply HX.n_then | apply HC.seq | apply HC.region | refine HL.pa ?_ | refine HL.ga rfl ?_ | refine HL.na rfl ?_ | refine HL.nu rfl rfl ?_ | apply HC.block | apply HC.skip | apply HC.exit | apply HC.ret | apply HX.e_block | refine HX.e_other rfl ?_ | apply HX.e_then | apply HX.e_again | apply HX.n_block | apply HX.r_then | apply HX.r_block | apply HX.r_again | refine HC.cond_yes rfl ?_ | refine HC.cond_no rfl ?_ | refine HL.one (H1.ldb rfl memA rfl rfl ?_) | refine HC.cond rfl (fun hc => ?_) (fun hc => ?_) | refine HC.cond_b rfl (fun hc => ?_) (fun hc => ?_))
  exact HX.ret1 rfl rfl fun w' hM => ⟨congrArg Value.bool (by
    rw [Bool.eq_iff_iff, validB_iff, @decide_eq_true_iff, hzh]
    constructor
    · exact fun h => ⟨hk, ⟨by omega, by omega⟩, ⟨by omega, by omega⟩, by omega, c6, fun p hp => hI p (hL ▸ hp), fun i hi hm => h i hi (hL ▸ hm)⟩
    · exact fun h i hi hm => h.zero i hi (hL ▸ hm)), hM.ext⟩
end Go.Sx

