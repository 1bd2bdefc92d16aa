/- Chapter 20: Key, Encode. -/
import Derived.Test.YtldhccgelcmjoaaGreatXJ
import Derived.Test.YtldhccgelcmjoaaGreatHv
namespace Go.Sx
open Go Go.Proofs Go.RowKit
noncomputable def keyS (r : Rc) : ByteArray := if validB r = true then ⟨(keyR r).toArray⟩ else ⟨#[]⟩
noncomputable def encS (r : Rc) : ByteArray := if validB r = true then ⟨(encR r).toArray⟩ else ⟨#[]⟩
theorem keyF_ok (k : Int) : keyF k < 10 ∧ keyF k ≠ 8 := by
  unfold keyF
  repeat' split
  all_goals decide
theorem key_field {k : Int} (h : 1 ≤ k ∧ k ≤ 8) : (keyF k, 1, 1000000) ∈ specF k := by
  rcases (show k = 1 ∨ k = 2 ∨ k = 3 ∨ k = 4 ∨ k = 5 ∨ k = 6 ∨ k = 7 ∨ k = 8 by omega) with rfl | rfl | rfl | rfl | rfl | rfl | rfl | rfl <;> decide
theorem num_lim {r : Rc} (h : ValidR r) : 1 ≤ r.get (keyF r.kind) ∧ r.get (keyF r.kind) ≤ 1000000 := h.lim _ (key_field h.kind)
theorem keyR_put (r : Rc) : [] ++ putL [r.kind, r.get (keyF r.kind)] = keyR r := by
  unfold putL keyR
  simp
theorem putN_ne (n : Nat) : 0 < (putN n).length := vint_pos _
theorem keyR_ne (r : Rc) : keyR r ≠ [] := fun e => by
  have h1 := putN_ne r.kind.toNat
  have h2 := congrArg List.length e
  unfold keyR at h2
  rw [List.length_append, List.length_nil] at h2
  omega
theorem shapeC_one (z : Option Addr × Nat) (k : Int) : ∀ v ∈ shapeC z k, v.oneCell' = true := by
  unfold shapeC; intro v hv; simp only [List.mem_cons, List.not_mem_nil, or_false] at hv; rcases hv with rfl | rfl | rfl | rfl | rfl <;> rfl
attribute [local irreducible] WC WL WX POp Then Again Fn NX W1 WA WO QL RP RA Yld LoopAt HC HL HX HN H1 HA HO HQ HB HP A.blk A.grow A.rd A.obj A.mp AgainH CutH
attribute [local irreducible] specF keyF
set_option maxHeartbeats 2000000 in
theorem key_fn (r : Rc) (hr : RcOk r) (w : World) : Fn Tryz.prog 15 #[recV r] w fun v w' => v = .string (keyS r) ∧ Ext w w' := by
  refine enterH (l := [_]) rfl Tryz.ntmps15 rfl ?_
  repeat' (first | refine HL.pa ?_ (POp.fnil0 rfl rfl) | refine HL.pa ?_ (POp.fnil1 rfl rfl) | refine HL.pa ?_ (POp.nilCheck rfl) | apply HL.fold | apply HA.fold | apply HL.nil | apply HX.n_then | apply HC.seq | apply HC.region | refine HL.pa ?_ | refine HL.ga rfl ?_ | refine HL.na rfl ?_ | refine HL.nu rfl rfl ?_ | apply HC.block | apply HC.skip | apply HC.exit | apply HC.ret | apply HX.e_block | refine HX.e_other rfl ?_ | apply HX.e_then | apply HX.e_again | apply HX.n_block | apply HX.r_then | apply HX.r_block | apply HX.r_again | refine HC.cond_yes rfl ?_ | refine HC.cond_no rfl ?_ | refine HL.one (H1.ldb rfl memA rfl rfl ?_) | refine HC.cond rfl (fun hc => ?_) (fun hc => ?_) | refine HC.cond_b rfl (fun hc => ?_) (fun hc => ?_))
  refine HL.one (H1.boxAgg (cs := rcells r) rfl rfl (fun b1 => ?_))
  repeat' (first | refine HL.pa ?_ (POp.fnil0 rfl rfl) | refine HL.pa ?_ (POp.fnil1 rfl rfl) | refine HL.pa ?_ (POp.nilCheck rfl) | apply HL.fold | apply HA.fold | apply HL.nil | apply HX.n_then | apply HC.seq | apply HC.region | refine HL.pa ?_ | refine HL.ga rfl ?_ | refine HL.na rfl ?_ | refine HL.nu rfl rfl ?_ | apply HC.block | apply HC.skip | apply HC.exit | apply HC.ret | apply HX.e_block | refine HX.e_other rfl ?_ | apply HX.e_then | apply HX.e_again | apply HX.n_block | apply HX.r_then | apply HX.r_block | apply HX.r_again | refine HC.cond_yes rfl ?_ | refine HC.cond_no rfl ?_ | refine HL.one (H1.ldb rfl memA rfl rfl ?_) | refine HC.cond rfl (fun hc => ?_) (fun hc => ?_) | refine HC.cond_b rfl (fun hc => ?_) (fun hc => ?_))
  refine HL.one (H1.ldAgg (vs := rcells r) rfl memA rfl (fun i v hv => by rw [Nat.zero_add]; exact hv) rfl ?_)
  repeat' (first | refine HL.pa ?_ (POp.fnil0 rfl rfl) | refine HL.pa ?_ (POp.fnil1 rfl rfl) | refine HL.pa ?_ (POp.nilCheck rfl) | apply HL.fold | apply HA.fold | apply HL.nil | apply HX.n_then | apply HC.seq | apply HC.region | refine HL.pa ?_ | refine HL.ga rfl ?_ | refine HL.na rfl ?_ | refine HL.nu rfl rfl ?_ | apply HC.block | apply HC.skip | apply HC.exit | apply HC.ret | apply HX.e_block | refine HX.e_other rfl ?_ | apply HX.e_then | apply HX.e_again | apply HX.n_block | apply HX.r_then | apply HX.r_block | apply HX.r_again | refine HC.cond_yes rfl ?_ | refine HC.cond_no rfl ?_ | refine HL.one (H1.ldb rfl memA rfl rfl ?_) | refine HC.cond rfl (fun hc => ?_) (fun hc => ?_) | refine HC.cond_b rfl (fun hc => ?_) (fun hc => ?_))
  refine HL.one (H1.callx (vs := [recV r]) rfl rfl (fun w' _ => valid_fn r hr w') ?_)
  by_cases hv : ValidR r
  rotate_left
  · rw [validB_no hv]
    repeat' (first | refine HL.pa ?_ (POp.fnil0 rfl rfl) | refine HL.pa ?_ (POp.fnil1 rfl rfl) | refine HL.pa ?_ (POp.nilCheck rfl) | apply HL.fold | apply HA.fold | apply HL.nil | apply HX.n_then | apply HC.seq | apply HC.region | refine HL.pa ?_ | refine HL.ga rfl ?_ | refine HL.na rfl ?_ | refine HL.nu rfl rfl ?_ | apply HC.block | apply HC.skip | apply HC.exit | apply HC.ret | apply HX.e_block | refine HX.e_other rfl ?_ | apply HX.e_then | apply HX.e_again | apply HX.n_block | apply HX.r_then | apply HX.r_block | apply HX.r_again | refine HC.cond_yes rfl ?_ | refine HC.cond_no rfl ?_ | refine HL.one (H1.ldb rfl memA rfl rfl ?_) | refine HC.cond rfl (fun hc => ?_) (fun hc => ?_) | refine HC.cond_b rfl (fun hc => ?_) (fun hc => ?_))
    exact HX.ret1 rfl rfl fun w' hM => ⟨by unfold keyS; rw [validB_no hv]; rfl, hM.ext⟩
  rw [validB_yes hv]
  repeat' (first | refine HL.pa ?_ (POp.fnil0 rfl rfl) | refine HL.pa ?_ (POp.fnil1 rfl rfl) | refine HL.pa ?_ (POp.nilCheck rfl) | apply HL.fold | apply HA.fold | apply HL.nil | apply HX.n_then | apply HC.seq | apply HC.region | refine HL.pa ?_ | refine HL.ga rfl ?_ | refine HL.na rfl ?_ | refine HL.nu rfl rfl ?_ | apply HC.block | apply HC.skip | apply HC.exit | apply HC.ret | apply HX.e_block | refine HX.e_other rfl ?_ | apply HX.e_then | apply HX.e_again | apply HX.n_block | apply HX.r_then | apply HX.r_block | apply HX.r_again | refine HC.cond_yes rfl ?_ | refine HC.cond_no rfl ?_ | refine HL.one (H1.ldb rfl memA rfl rfl ?_) | refine HC.cond rfl (fun hc => ?_) (fun hc => ?_) | refine HC.cond_b rfl (fun hc => ?_) (fun hc => ?_))
  refine HL.one (H1.callz1 (vs := [zv r.kind]) rfl rfl (fun w' _ => shapeOf_fn r.kind hv.kind w') ?_)
  rintro ⟨a, c⟩ -
  repeat' (first | refine HL.pa ?_ (POp.fnil0 rfl rfl) | refine HL.pa ?_ (POp.fnil1 rfl rfl) | refine HL.pa ?_ (POp.nilCheck rfl) | apply HL.fold | apply HA.fold | apply HL.nil | apply HX.n_then | apply HC.seq | apply HC.region | refine HL.pa ?_ | refine HL.ga rfl ?_ | refine HL.na rfl ?_ | refine HL.nu rfl rfl ?_ | apply HC.block | apply HC.skip | apply HC.exit | apply HC.ret | apply HX.e_block | refine HX.e_other rfl ?_ | apply HX.e_then | apply HX.e_again | apply HX.n_block | apply HX.r_then | apply HX.r_block | apply HX.r_again | refine HC.cond_yes rfl ?_ | refine HC.cond_no rfl ?_ | refine HL.one (H1.ldb rfl memA rfl rfl ?_) | refine HC.cond rfl (fun hc => ?_) (fun hc => ?_) | refine HC.cond_b rfl (fun hc => ?_) (fun hc => ?_))
  refine HL.one (H1.alloc (cs := [.slice none 0 0, .nilFunc, zv 0, zv 0, .nilFunc]) rfl rfl (fun b3 => ?_))
  repeat' (first | refine HL.pa ?_ (POp.fnil0 rfl rfl) | refine HL.pa ?_ (POp.fnil1 rfl rfl) | refine HL.pa ?_ (POp.nilCheck rfl) | apply HL.fold | apply HA.fold | apply HL.nil | apply HX.n_then | apply HC.seq | apply HC.region | refine HL.pa ?_ | refine HL.ga rfl ?_ | refine HL.na rfl ?_ | refine HL.nu rfl rfl ?_ | apply HC.block | apply HC.skip | apply HC.exit | apply HC.ret | apply HX.e_block | refine HX.e_other rfl ?_ | apply HX.e_then | apply HX.e_again | apply HX.n_block | apply HX.r_then | apply HX.r_block | apply HX.r_again | refine HC.cond_yes rfl ?_ | refine HC.cond_no rfl ?_ | refine HL.one (H1.ldb rfl memA rfl rfl ?_) | refine HC.cond rfl (fun hc => ?_) (fun hc => ?_) | refine HC.cond_b rfl (fun hc => ?_) (fun hc => ?_))
  refine HL.one (H1.stAgg (cs := [.slice none 0 0, .nilFunc, zv 0, zv 0, .nilFunc]) (vs := shapeC (a, c) r.kind) rfl rfl rfl (shapeC_one _ _) rplA rfl ?_)
  simp only [shapeC]
  repeat' (first | refine HL.pa ?_ (POp.fnil0 rfl rfl) | refine HL.pa ?_ (POp.fnil1 rfl rfl) | refine HL.pa ?_ (POp.nilCheck rfl) | apply HL.fold | apply HA.fold | apply HL.nil | apply HX.n_then | apply HC.seq | apply HC.region | refine HL.pa ?_ | refine HL.ga rfl ?_ | refine HL.na rfl ?_ | refine HL.nu rfl rfl ?_ | apply HC.block | apply HC.skip | apply HC.exit | apply HC.ret | apply HX.e_block | refine HX.e_other rfl ?_ | apply HX.e_then | apply HX.e_again | apply HX.n_block | apply HX.r_then | apply HX.r_block | apply HX.r_again | refine HC.cond_yes rfl ?_ | refine HC.cond_no rfl ?_ | refine HL.one (H1.ldb rfl memA rfl rfl ?_) | refine HC.cond rfl (fun hc => ?_) (fun hc => ?_) | refine HC.cond_b rfl (fun hc => ?_) (fun hc => ?_))
  refine HL.one (H1.alloc (cs := [.pointer none, .slice none 0 0]) rfl rfl (fun b5 => ?_))
  repeat' (first | refine HL.pa ?_ (POp.fnil0 rfl rfl) | refine HL.pa ?_ (POp.fnil1 rfl rfl) | refine HL.pa ?_ (POp.nilCheck rfl) | apply HL.fold | apply HA.fold | apply HL.nil | apply HX.n_then | apply HC.seq | apply HC.region | refine HL.pa ?_ | refine HL.ga rfl ?_ | refine HL.na rfl ?_ | refine HL.nu rfl rfl ?_ | apply HC.block | apply HC.skip | apply HC.exit | apply HC.ret | apply HX.e_block | refine HX.e_other rfl ?_ | apply HX.e_then | apply HX.e_again | apply HX.n_block | apply HX.r_then | apply HX.r_block | apply HX.r_again | refine HC.cond_yes rfl ?_ | refine HC.cond_no rfl ?_ | refine HL.one (H1.ldb rfl memA rfl rfl ?_) | refine HC.cond rfl (fun hc => ?_) (fun hc => ?_) | refine HC.cond_b rfl (fun hc => ?_) (fun hc => ?_))
  refine HC.grow0 5 1 ?_
  have hkf := keyF_ok r.kind
  have hnum := num_lim hv
  have hkind := hv.kind
  have hkR := keyR_put r
  obtain ⟨go, hgf⟩ := getter_ok hkf.1 hkf.2
  have hcell := cells_get r hkf.1 hkf.2
  have hok : ∀ x ∈ [r.kind, r.get (keyF r.kind)], 0 ≤ x ∧ x ≤ 1099511627776 := by
    intro x hx
    simp only [List.mem_cons, List.not_mem_nil, or_false] at hx
    rcases hx with rfl | rfl <;> omega
  refine HC.anyC ([(⟨b1, 0, none⟩, zv r.kind), (⟨b3, 1, none⟩, fnV (fid (keyF r.kind)))]) rfl ?_
  refine HB.pa 0 rfl ?_
  refine HB.ld 1 rfl rfl memD ?_
  refine HB.pa 2 rfl ?_
  refine HB.pa 3 rfl ?_
  refine HB.ld 4 rfl rfl memD ?_
  refine HB.all (by repeat (first | exact Keep.nil | refine Keep.blk (by (repeat (first | exact List.Mem.head _ | apply List.Mem.tail)); done) rfl ?_ | refine Keep.grow (by (repeat (first | exact List.Mem.head _ | apply List.Mem.tail)); done) (by assumption) ?_ | refine Keep.base (by assumption) ?_)) [5] (by kernel_rfl) rfl ⟨⟨_, rfl, ?_⟩, trivial⟩
  refine HP.one ?_
  refine H1.callv0 (hf := go) (f := fid (keyF r.kind)) (cap := []) (vs := [.pointer (some ⟨b1, 0, none⟩)]) rfl rfl rfl (fun w' _ => call1w (hgf b1 w')) ?_
  apply HB.fold
  refine HB.pa 6 rfl ?_ (POp.nilCheck rfl)
  refine HB.all (by repeat (first | exact Keep.nil | refine Keep.blk (by (repeat (first | exact List.Mem.head _ | apply List.Mem.tail)); done) rfl ?_ | refine Keep.grow (by (repeat (first | exact List.Mem.head _ | apply List.Mem.tail)); done) (by assumption) ?_ | refine Keep.base (by assumption) ?_)) [7] (by kernel_rfl) rfl ⟨⟨_, rfl, ?_⟩, trivial⟩
  refine HP.one ?_
  refine H1.ldb (v := zv (r.get (keyF r.kind))) rfl memA hcell rfl ?_
  apply HB.fold
  refine HB.all (by repeat (first | exact Keep.nil | refine Keep.blk (by (repeat (first | exact List.Mem.head _ | apply List.Mem.tail)); done) rfl ?_ | refine Keep.grow (by (repeat (first | exact List.Mem.head _ | apply List.Mem.tail)); done) (by assumption) ?_ | refine Keep.base (by assumption) ?_)) [8] (by kernel_rfl) rfl ⟨⟨_, rfl, ?_⟩, trivial⟩
  refine HP.one ?_
  refine H1.lit (cs := [zv r.kind, zv (r.get (keyF r.kind))]) rfl rfl rfl rfl rfl rfl (fun b8 => ?_)
  apply HB.fold
  refine HB.all (by repeat (first | exact Keep.nil | refine Keep.blk (by (repeat (first | exact List.Mem.head _ | apply List.Mem.tail)); done) rfl ?_ | refine Keep.grow (by (repeat (first | exact List.Mem.head _ | apply List.Mem.tail)); done) (by assumption) ?_ | refine Keep.base (by assumption) ?_)) [9] (by kernel_rfl) rfl ⟨⟨_, rfl, ?_⟩, trivial⟩
  refine HP.one ?_
  refine H1.callk (α := Option Addr × Option Addr × Nat) (V := fun _ => .tuple #[]) (I := fun q => q.1 = none ∨ q.1 = some ⟨b5, 0, none⟩) (H' := fun q => bldH b5 q.1 q.2.1 q.2.2 ([] ++ putL [r.kind, r.get (keyF r.kind)]) [A.blk b3 [.slice a (specF r.kind).length c, fnV (fid (keyF r.kind)), zv 1, zv 1000000, fnV (rid r.kind)] 66, A.blk b1 (rcells r) 24]) (vs := [.pointer (some ⟨b5, 0, none⟩), .slice (some ⟨b8, 0, none⟩) 2 2]) rfl rfl (fun w' hM => put_fn (ys := []) (p := none) (a := none) (c := 0) [r.kind, r.get (keyF r.kind)] (hM.sub (by show Hs _ [A.blk b5 [.pointer none, .slice none 0 0] 79, A.grow 5 1 none 0 0 [], A.blk b8 [zv r.kind, zv (r.get (keyF r.kind))] 3, A.blk b3 _ _, A.blk b1 _ _]; repeat (first | exact Hs.nil _ | (refine Hs.cons pickA ?_)))) (.inl rfl) hok (by show 0 + 9 * 2 ≤ 1000000; decide)) ?_
  rintro ⟨p', a', c'⟩ hp'
  rw [hkR]
  apply HB.fold
  refine HB.done (by repeat (first | exact Keep.nil | refine Keep.blk (by (repeat (first | exact List.Mem.head _ | apply List.Mem.tail)); done) rfl ?_ | refine Keep.grow (by (repeat (first | exact List.Mem.head _ | apply List.Mem.tail)); done) (by assumption) ?_ | refine Keep.base (by assumption) ?_)) (by kernel_rfl) ?_
  repeat' (first | refine HL.pa ?_ (POp.fnil0 rfl rfl) | refine HL.pa ?_ (POp.fnil1 rfl rfl) | refine HL.pa ?_ (POp.nilCheck rfl) | apply HL.fold | apply HA.fold | apply HL.nil | apply HX.n_then | apply HC.seq | apply HC.region | refine HL.pa ?_ | refine HL.ga rfl ?_ | refine HL.na rfl ?_ | refine HL.nu rfl rfl ?_ | apply HC.block | apply HC.skip | apply HC.exit | apply HC.ret | apply HX.e_block | refine HX.e_other rfl ?_ | apply HX.e_then | apply HX.e_again | apply HX.n_block | apply HX.r_then | apply HX.r_block | apply HX.r_again | refine HC.cond_yes rfl ?_ | refine HC.cond_no rfl ?_ | refine HL.one (H1.ldb rfl memA rfl rfl ?_) | refine HC.cond rfl (fun hc => ?_) (fun hc => ?_) | refine HC.cond_b rfl (fun hc => ?_) (fun hc => ?_))
  refine HL.one (H1.callk (α := Unit) (V := fun _ => .string ⟨(keyR r).toArray⟩) (I := fun _ => True) (H' := fun _ => []) (vs := [.pointer (some ⟨b5, 0, none⟩)]) rfl rfl (fun w' hM => (builderString_fn (hM.sub (Hs.cons Pick.here (Hs.cons Pick.here (Hs.nil _)))) (keyR_ne r)).mono fun v w' h => ⟨(), trivial, h⟩) ?_)
  rintro - -
  repeat' (first | refine HL.pa ?_ (POp.fnil0 rfl rfl) | refine HL.pa ?_ (POp.fnil1 rfl rfl) | refine HL.pa ?_ (POp.nilCheck rfl) | apply HL.fold | apply HA.fold | apply HL.nil | apply HX.n_then | apply HC.seq | apply HC.region | refine HL.pa ?_ | refine HL.ga rfl ?_ | refine HL.na rfl ?_ | refine HL.nu rfl rfl ?_ | apply HC.block | apply HC.skip | apply HC.exit | apply HC.ret | apply HX.e_block | refine HX.e_other rfl ?_ | apply HX.e_then | apply HX.e_again | apply HX.n_block | apply HX.r_then | apply HX.r_block | apply HX.r_again | refine HC.cond_yes rfl ?_ | refine HC.cond_no rfl ?_ | refine HL.one (H1.ldb rfl memA rfl rfl ?_) | refine HC.cond rfl (fun hc => ?_) (fun hc => ?_) | refine HC.cond_b rfl (fun hc => ?_) (fun hc => ?_))
  exact HX.ret1 rfl rfl fun w' hM => ⟨by unfold keyS; rw [validB_yes hv]; rfl, hM.ext⟩
end Go.Sx

