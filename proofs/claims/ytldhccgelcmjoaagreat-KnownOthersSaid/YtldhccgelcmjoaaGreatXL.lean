/- Chapter 20: Encode. -/
import Derived.Test.YtldhccgelcmjoaaGreatXK
namespace Go.Sx
open Go Go.Proofs Go.RowKit
def headL (r : Rc) : List Int := [r.kind, r.version, r.day, b01 r.gone]
def fldL (r : Rc) (l : List (Nat × Int × Int)) : List Int := l.map fun p => r.get p.1
theorem putL_app (l m : List Int) : putL (l ++ m) = putL l ++ putL m := by unfold putL; rw [List.map_append, List.flatten_append]
theorem encR_put (r : Rc) : encR r = putL (headL r) ++ putL (fldL r (specF r.kind)) ++ putN r.text.size ++ r.text.data.toList := by
  unfold encR encF headL fldL putL
  simp only [List.map_cons, List.map_nil, List.flatten_cons, List.flatten_nil, List.map_map, List.append_assoc]
  rfl
theorem encR_ne (r : Rc) : encR r ≠ [] := fun e => by
  have h1 := putN_ne r.kind.toNat
  have h2 := congrArg List.length e
  unfold encR at h2
  rw [List.length_append, List.length_nil] at h2
  omega
theorem b01_lim (b : Bool) : 0 ≤ b01 b ∧ b01 b ≤ 1 := by cases b <;> decide
theorem headL_ok {r : Rc} (h : ValidR r) : ∀ x ∈ headL r, 0 ≤ x ∧ x ≤ 1099511627776 := by
  intro x hx
  have h1 := h.kind
  have h2 := h.ver
  have h3 := h.day
  have h4 := b01_lim r.gone
  simp only [headL, List.mem_cons, List.not_mem_nil, or_false] at hx
  rcases hx with rfl | rfl | rfl | rfl <;> omega
theorem fldL_ok {r : Rc} (h : ValidR r) : ∀ p ∈ specF r.kind, 0 ≤ r.get p.1 ∧ r.get p.1 ≤ 1099511627776 := fun p hp => by
  have h1 := h.lim p hp
  have h2 := spec_hi hp
  have h3 := (spec_lo hp).1
  omega
attribute [local irreducible] WC WL WX POp Then Again Fn NX W1 WA WO QL RP RA Yld LoopAt HC HL HX HN H1 HA HO HQ HB HP A.blk A.grow A.rd A.obj A.mp AgainH CutH
attribute [local irreducible] specF keyF
set_option maxHeartbeats 4000000 in
theorem encode_fn (r : Rc) (hr : RcOk r) (w : World) : Fn Tryz.prog 34 #[recV r] w fun v w' => v = .tuple #[.string (encS r), zv (if validB r = true then 0 else 200)] ∧ Ext w w' := by
  refine enterH (l := [_]) rfl Tryz.ntmps34 rfl ?_
  repeat' (first | refine HL.pa ?_ (POp.fnil0 rfl rfl) | refine HL.pa ?_ (POp.fnil1 rfl rfl) | refine HL.pa ?_ (POp.nilCheck rfl) | apply HL.fold | apply HA.fold | apply HL.nil | apply HX.n_then | apply HC.seq | apply HC.region | refine HL.pa ?_ | refine HL.ga rfl ?_ | refine HL.na rfl ?_ | refine HL.nu rfl rfl ?_ | apply HC.block | apply HC.skip | apply HC.exit | apply HC.ret | apply HX.e_block | refine HX.e_other rfl ?_ | apply HX.e_then | apply HX.e_again | apply HX.n_block | apply HX.r_then | apply HX.r_block | apply HX.r_again | refine HC.cond_yes rfl ?_ | refine HC.cond_no rfl ?_ | refine HL.one (H1.ldb rfl memA rfl rfl ?_) | refine HC.cond rfl (fun hc => ?_) (fun hc => ?_) | refine HC.cond_b rfl (fun hc => ?_) (fun hc => ?_))
  refine HL.one (H1.boxAgg (cs := rcells r) rfl rfl (fun b1 => ?_))
  repeat' (first | refine HL.pa ?_ (POp.fnil0 rfl rfl) | refine HL.pa ?_ (POp.fnil1 rfl rfl) | refine HL.pa ?_ (POp.nilCheck rfl) | apply HL.fold | apply HA.fold | apply HL.nil | apply HX.n_then | apply HC.seq | apply HC.region | refine HL.pa ?_ | refine HL.ga rfl ?_ | refine HL.na rfl ?_ | refine HL.nu rfl rfl ?_ | apply HC.block | apply HC.skip | apply HC.exit | apply HC.ret | apply HX.e_block | refine HX.e_other rfl ?_ | apply HX.e_then | apply HX.e_again | apply HX.n_block | apply HX.r_then | apply HX.r_block | apply HX.r_again | refine HC.cond_yes rfl ?_ | refine HC.cond_no rfl ?_ | refine HL.one (H1.ldb rfl memA rfl rfl ?_) | refine HC.cond rfl (fun hc => ?_) (fun hc => ?_) | refine HC.cond_b rfl (fun hc => ?_) (fun hc => ?_))
  refine HL.one (H1.ldAgg (vs := rcells r) rfl memA rfl (fun i v hv => by rw [Nat.zero_add]; exact hv) rfl ?_)
  repeat' (first | refine HL.pa ?_ (POp.fnil0 rfl rfl) | refine HL.pa ?_ (POp.fnil1 rfl rfl) | refine HL.pa ?_ (POp.nilCheck rfl) | apply HL.fold | apply HA.fold | apply HL.nil | apply HX.n_then | apply HC.seq | apply HC.region | refine HL.pa ?_ | refine HL.ga rfl ?_ | refine HL.na rfl ?_ | refine HL.nu rfl rfl ?_ | apply HC.block | apply HC.skip | apply HC.exit | apply HC.ret | apply HX.e_block | refine HX.e_other rfl ?_ | apply HX.e_then | apply HX.e_again | apply HX.n_block | apply HX.r_then | apply HX.r_block | apply HX.r_again | refine HC.cond_yes rfl ?_ | refine HC.cond_no rfl ?_ | refine HL.one (H1.ldb rfl memA rfl rfl ?_) | refine HC.cond rfl (fun hc => ?_) (fun hc => ?_) | refine HC.cond_b rfl (fun hc => ?_) (fun hc => ?_))
  refine HL.one (H1.callx (vs := [recV r]) rfl rfl (fun w' _ => valid_fn r hr w') ?_)
  by_cases hv : ValidR r
  rotate_left
  · rw [validB_no hv]
    repeat' (first | refine HL.pa ?_ (POp.fnil0 rfl rfl) | refine HL.pa ?_ (POp.fnil1 rfl rfl) | refine HL.pa ?_ (POp.nilCheck rfl) | apply HL.fold | apply HA.fold | apply HL.nil | apply HX.n_then | apply HC.seq | apply HC.region | refine HL.pa ?_ | refine HL.ga rfl ?_ | refine HL.na rfl ?_ | refine HL.nu rfl rfl ?_ | apply HC.block | apply HC.skip | apply HC.exit | apply HC.ret | apply HX.e_block | refine HX.e_other rfl ?_ | apply HX.e_then | apply HX.e_again | apply HX.n_block | apply HX.r_then | apply HX.r_block | apply HX.r_again | refine HC.cond_yes rfl ?_ | refine HC.cond_no rfl ?_ | refine HL.one (H1.ldb rfl memA rfl rfl ?_) | refine HC.cond rfl (fun hc => ?_) (fun hc => ?_) | refine HC.cond_b rfl (fun hc => ?_) (fun hc => ?_))
    exact HX.ret2 rfl rfl rfl fun w' hM => ⟨by unfold encS; rw [validB_no hv]; rfl, hM.ext⟩
  rw [validB_yes hv]
  repeat' (first | refine HL.pa ?_ (POp.fnil0 rfl rfl) | refine HL.pa ?_ (POp.fnil1 rfl rfl) | refine HL.pa ?_ (POp.nilCheck rfl) | apply HL.fold | apply HA.fold | apply HL.nil | apply HX.n_then | apply HC.seq | apply HC.region | refine HL.pa ?_ | refine HL.ga rfl ?_ | refine HL.na rfl ?_ | refine HL.nu rfl rfl ?_ | apply HC.block | apply HC.skip | apply HC.exit | apply HC.ret | apply HX.e_block | refine HX.e_other rfl ?_ | apply HX.e_then | apply HX.e_again | apply HX.n_block | apply HX.r_then | apply HX.r_block | apply HX.r_again | refine HC.cond_yes rfl ?_ | refine HC.cond_no rfl ?_ | refine HL.one (H1.ldb rfl memA rfl rfl ?_) | refine HC.cond rfl (fun hc => ?_) (fun hc => ?_) | refine HC.cond_b rfl (fun hc => ?_) (fun hc => ?_))
  refine HL.one (H1.callz1 (vs := [zv r.kind]) rfl rfl (fun w' _ => shapeOf_fn r.kind hv.kind w') ?_)
  rintro ⟨a, c⟩ -
  have hlen := spec_len r.kind
  have hpos := spec_pos hv.kind
  repeat' (first | refine HL.pa ?_ (POp.fnil0 rfl rfl) | refine HL.pa ?_ (POp.fnil1 rfl rfl) | refine HL.pa ?_ (POp.nilCheck rfl) | apply HL.fold | apply HA.fold | apply HL.nil | apply HX.n_then | apply HC.seq | apply HC.region | refine HL.pa ?_ | refine HL.ga rfl ?_ | refine HL.na rfl ?_ | refine HL.nu rfl rfl ?_ | apply HC.block | apply HC.skip | apply HC.exit | apply HC.ret | apply HX.e_block | refine HX.e_other rfl ?_ | apply HX.e_then | apply HX.e_again | apply HX.n_block | apply HX.r_then | apply HX.r_block | apply HX.r_again | refine HC.cond_yes rfl ?_ | refine HC.cond_no rfl ?_ | refine HL.one (H1.ldb rfl memA rfl rfl ?_) | refine HC.cond rfl (fun hc => ?_) (fun hc => ?_) | refine HC.cond_b rfl (fun hc => ?_) (fun hc => ?_))
  refine HL.openg (e := 64) (a := a) (xs := fcl (specF r.kind)) memA (by omega) ?_
  rintro bz rfl
  refine HL.one (H1.alloc (cs := [.slice none 0 0, .nilFunc, zv 0, zv 0, .nilFunc]) rfl rfl (fun b4 => ?_))
  repeat' (first | refine HL.pa ?_ (POp.fnil0 rfl rfl) | refine HL.pa ?_ (POp.fnil1 rfl rfl) | refine HL.pa ?_ (POp.nilCheck rfl) | apply HL.fold | apply HA.fold | apply HL.nil | apply HX.n_then | apply HC.seq | apply HC.region | refine HL.pa ?_ | refine HL.ga rfl ?_ | refine HL.na rfl ?_ | refine HL.nu rfl rfl ?_ | apply HC.block | apply HC.skip | apply HC.exit | apply HC.ret | apply HX.e_block | refine HX.e_other rfl ?_ | apply HX.e_then | apply HX.e_again | apply HX.n_block | apply HX.r_then | apply HX.r_block | apply HX.r_again | refine HC.cond_yes rfl ?_ | refine HC.cond_no rfl ?_ | refine HL.one (H1.ldb rfl memA rfl rfl ?_) | refine HC.cond rfl (fun hc => ?_) (fun hc => ?_) | refine HC.cond_b rfl (fun hc => ?_) (fun hc => ?_))
  refine HL.one (H1.stAgg (cs := [.slice none 0 0, .nilFunc, zv 0, zv 0, .nilFunc]) (vs := shapeC (some ⟨bz, 0, none⟩, c) r.kind) rfl rfl rfl (shapeC_one _ _) rplA rfl ?_)
  simp only [shapeC]
  repeat' (first | refine HL.pa ?_ (POp.fnil0 rfl rfl) | refine HL.pa ?_ (POp.fnil1 rfl rfl) | refine HL.pa ?_ (POp.nilCheck rfl) | apply HL.fold | apply HA.fold | apply HL.nil | apply HX.n_then | apply HC.seq | apply HC.region | refine HL.pa ?_ | refine HL.ga rfl ?_ | refine HL.na rfl ?_ | refine HL.nu rfl rfl ?_ | apply HC.block | apply HC.skip | apply HC.exit | apply HC.ret | apply HX.e_block | refine HX.e_other rfl ?_ | apply HX.e_then | apply HX.e_again | apply HX.n_block | apply HX.r_then | apply HX.r_block | apply HX.r_again | refine HC.cond_yes rfl ?_ | refine HC.cond_no rfl ?_ | refine HL.one (H1.ldb rfl memA rfl rfl ?_) | refine HC.cond rfl (fun hc => ?_) (fun hc => ?_) | refine HC.cond_b rfl (fun hc => ?_) (fun hc => ?_))
  refine HL.one (H1.alloc (cs := [.pointer none, .slice none 0 0]) rfl rfl (fun b6 => ?_))
  repeat' (first | refine HL.pa ?_ (POp.fnil0 rfl rfl) | refine HL.pa ?_ (POp.fnil1 rfl rfl) | refine HL.pa ?_ (POp.nilCheck rfl) | apply HL.fold | apply HA.fold | apply HL.nil | apply HX.n_then | apply HC.seq | apply HC.region | refine HL.pa ?_ | refine HL.ga rfl ?_ | refine HL.na rfl ?_ | refine HL.nu rfl rfl ?_ | apply HC.block | apply HC.skip | apply HC.exit | apply HC.ret | apply HX.e_block | refine HX.e_other rfl ?_ | apply HX.e_then | apply HX.e_again | apply HX.n_block | apply HX.r_then | apply HX.r_block | apply HX.r_again | refine HC.cond_yes rfl ?_ | refine HC.cond_no rfl ?_ | refine HL.one (H1.ldb rfl memA rfl rfl ?_) | refine HC.cond rfl (fun hc => ?_) (fun hc => ?_) | refine HC.cond_b rfl (fun hc => ?_) (fun hc => ?_))
  refine HC.grow0 5 1 ?_
  have hhl := headL_ok hv
  have hfl := fldL_ok hv
  have hhz := putL_len hhl
  have hhz' : (headL r).length = 4 := rfl
  refine HC.cut (α := Option Addr × Option Addr × Nat) (fun q => [(1, .pointer (some ⟨b1, 0, none⟩)), (4, .pointer (some ⟨b4, 0, none⟩)), (6, .pointer (some ⟨b6, 0, none⟩))])
    (fun q => bldH b6 q.1 q.2.1 q.2.2 (putL (headL r)) [A.blk b4 [.slice (some ⟨bz, 0, none⟩) (specF r.kind).length c, fnV (fid (keyF r.kind)), zv 1, zv 1000000, fnV (rid r.kind)] 66, A.grow 64 3 (some ⟨bz, 0, none⟩) c (specF r.kind).length (fcl (specF r.kind)), A.blk b1 (rcells r) 24]) (fun q => q.1 = none ∨ q.1 = some ⟨b6, 0, none⟩) ?_ ?_
  · refine HC.anyC ([(⟨b1, 0, none⟩, zv r.kind), (⟨b1, 2, none⟩, zv r.version), (⟨b1, 3, none⟩, zv r.day), (⟨b1, 4, none⟩, .bool r.gone)]) rfl ?_
    refine HB.pa 0 rfl ?_
    refine HB.ld 1 rfl rfl memD ?_
    refine HB.pa 2 rfl ?_
    refine HB.ld 3 rfl rfl memD ?_
    refine HB.pa 4 rfl ?_
    refine HB.ld 5 rfl rfl memD ?_
    refine HB.pa 6 rfl ?_
    refine HB.ld 7 rfl rfl memD ?_
    refine HB.all (by repeat (first | exact Keep.nil | refine Keep.blk (by (repeat (first | exact List.Mem.head _ | apply List.Mem.tail)); done) rfl ?_ | refine Keep.grow (by (repeat (first | exact List.Mem.head _ | apply List.Mem.tail)); done) (by assumption) ?_ | refine Keep.base (by assumption) ?_)) [8] (by kernel_rfl) rfl ⟨⟨_, rfl, ?_⟩, trivial⟩
    refine HP.one ?_
    refine H1.call0 (vs := [.bool r.gone]) rfl rfl (fun w' _ => flag_fn r.gone w') ?_
    apply HB.fold
    refine HB.all (by repeat (first | exact Keep.nil | refine Keep.blk (by (repeat (first | exact List.Mem.head _ | apply List.Mem.tail)); done) rfl ?_ | refine Keep.grow (by (repeat (first | exact List.Mem.head _ | apply List.Mem.tail)); done) (by assumption) ?_ | refine Keep.base (by assumption) ?_)) [9] (by kernel_rfl) rfl ⟨⟨_, rfl, ?_⟩, trivial⟩
    refine HP.one ?_
    refine H1.lit (cs := [zv r.kind, zv r.version, zv r.day, zv (b01 r.gone)]) rfl rfl rfl rfl rfl rfl (fun b8 => ?_)
    apply HB.fold
    refine HB.all (by repeat (first | exact Keep.nil | refine Keep.blk (by (repeat (first | exact List.Mem.head _ | apply List.Mem.tail)); done) rfl ?_ | refine Keep.grow (by (repeat (first | exact List.Mem.head _ | apply List.Mem.tail)); done) (by assumption) ?_ | refine Keep.base (by assumption) ?_)) [10] (by kernel_rfl) rfl ⟨⟨_, rfl, ?_⟩, trivial⟩
    refine HP.one ?_
    refine H1.callk (α := Option Addr × Option Addr × Nat) (V := fun _ => .tuple #[]) (I := fun q => q.1 = none ∨ q.1 = some ⟨b6, 0, none⟩) (H' := fun q => bldH b6 q.1 q.2.1 q.2.2 ([] ++ putL (headL r)) [A.blk b4 [.slice (some ⟨bz, 0, none⟩) (specF r.kind).length c, fnV (fid (keyF r.kind)), zv 1, zv 1000000, fnV (rid r.kind)] 66, A.grow 64 3 (some ⟨bz, 0, none⟩) c (specF r.kind).length (fcl (specF r.kind)), A.blk b1 (rcells r) 24]) (vs := [.pointer (some ⟨b6, 0, none⟩), .slice (some ⟨b8, 0, none⟩) 4 4]) rfl rfl (fun w' hM => put_fn (ys := []) (p := none) (a := none) (c := 0) (headL r) (hM.sub (by show Hs _ [A.blk b6 [.pointer none, .slice none 0 0] 79, A.grow 5 1 none 0 0 [], A.blk b8 [zv r.kind, zv r.version, zv r.day, zv (b01 r.gone)] 3, A.blk b4 _ _, A.grow _ _ _ _ _ _, A.blk b1 _ _]; repeat (first | exact Hs.nil _ | (refine Hs.cons pickA ?_)))) (.inl rfl) hhl (by show 0 + 9 * 4 ≤ 1000000; decide)) ?_
    rintro ⟨p', a', c'⟩ hp'
    rw [List.nil_append]
    apply HB.fold
    refine HB.done (by repeat (first | exact Keep.nil | refine Keep.blk (by (repeat (first | exact List.Mem.head _ | apply List.Mem.tail)); done) rfl ?_ | refine Keep.grow (by (repeat (first | exact List.Mem.head _ | apply List.Mem.tail)); done) (by assumption) ?_ | refine Keep.base (by assumption) ?_)) (by kernel_rfl) ?_
    exact HX.cut (p', a', c') hp' esA (by repeat (first | exact Hs.nil _ | (refine Hs.cons pickA ?_)))
  rintro ⟨p0, a0, c0⟩ hp0
  dsimp only at hp0 ⊢
  repeat' (first | refine HL.pa ?_ (POp.fnil0 rfl rfl) | refine HL.pa ?_ (POp.fnil1 rfl rfl) | refine HL.pa ?_ (POp.nilCheck rfl) | apply HL.fold | apply HA.fold | apply HL.nil | apply HX.n_then | apply HC.seq | apply HC.region | refine HL.pa ?_ | refine HL.ga rfl ?_ | refine HL.na rfl ?_ | refine HL.nu rfl rfl ?_ | apply HC.block | apply HC.skip | apply HC.exit | apply HC.ret | apply HX.e_block | refine HX.e_other rfl ?_ | apply HX.e_then | apply HX.e_again | apply HX.n_block | apply HX.r_then | apply HX.r_block | apply HX.r_again | refine HC.cond_yes rfl ?_ | refine HC.cond_no rfl ?_ | refine HL.one (H1.ldb rfl memA rfl rfl ?_) | refine HC.cond rfl (fun hc => ?_) (fun hc => ?_) | refine HC.cond_b rfl (fun hc => ?_) (fun hc => ?_))
  obtain ⟨L, hL⟩ : ∃ L, L = specF r.kind := ⟨_, rfl⟩
  have hl10 : ∀ p ∈ L, p.1 < 10 := fun p hp => (spec_lo (hL ▸ hp)).2
  have hl8 : ∀ p ∈ L, p.1 = 8 → p.2.1 = 0 ∧ p.2.2 = 1 := fun p hp => spec8 (hL ▸ hp)
  rw [← hL] at hlen hpos hfl ⊢
  have hfx : ∀ j, ∀ x ∈ fldL r (L.take j), 0 ≤ x ∧ x ≤ 1099511627776 := fun j x hx => by
    obtain ⟨p, hp, rfl⟩ := List.mem_map.1 hx
    exact hfl p (List.mem_of_mem_take hp)
  have hfz : ∀ j, (putL (headL r) ++ putL (fldL r (L.take j))).length ≤ 120 := fun j => by
    have h1 := putL_len (hfx j)
    have h2 : (fldL r (L.take j)).length ≤ 8 := by
      unfold fldL
      rw [List.length_map, List.length_take]; omega
    rw [List.length_append]; omega
  refine HC.loop (α := Nat × Option Addr × Option Addr × Nat) (fun z => [(1, .pointer (some ⟨b1, 0, none⟩)), (6, .pointer (some ⟨b6, 0, none⟩)), (32, .slice (some ⟨bz, 0, none⟩) L.length c), (33, zv (L.length : Int)), (34, zv (z.1 : Int))])
    (fun z => bldH b6 z.2.1 z.2.2.1 z.2.2.2 (putL (headL r) ++ putL (fldL r (L.take z.1))) [A.grow 64 3 (some ⟨bz, 0, none⟩) c L.length (fcl L), A.blk b1 (rcells r) 24]) (fun z => z.1 ≤ L.length ∧ (z.2.1 = none ∨ z.2.1 = some ⟨b6, 0, none⟩)) (fun z => L.length - z.1) (0, p0, a0, c0) ⟨Nat.zero_le _, hp0⟩ esA
    (by show Hs _ (bldH b6 p0 a0 c0 (putL (headL r) ++ putL (fldL r (L.take 0))) _); rw [List.take_zero, show putL (fldL r []) = [] from rfl, List.append_nil]; repeat (first | exact Hs.nil _ | (refine Hs.cons pickA ?_))) ?_
  rintro ⟨j, p1, a1, c1⟩ ⟨hj, hp1⟩
  dsimp only at hj hp1 ⊢
  by_cases hlt : j < L.length
  · obtain ⟨p, hp⟩ : ∃ p, L[j]? = some p := ⟨_, List.getElem?_eq_getElem hlt⟩
    have hpm := List.mem_of_getElem? hp
    have htk : L.take (j + 1) = L.take j ++ [p] := by rw [List.take_add_one, hp]; rfl
    have hp10 := hl10 p hpm
    have hfg := fcl_get hp
    have h8 := hl8 p hpm
    have hpl := hfl p hpm
    have hzz := hfz j
    have hpt : putL (headL r) ++ putL (fldL r (L.take j)) ++ putL [r.get p.1] = putL (headL r) ++ putL (fldL r (L.take (j + 1))) := by
      rw [htk, List.append_assoc, ← putL_app]
      unfold fldL
      rw [List.map_append]; rfl
    have h1ok : ∀ x ∈ [r.get p.1], 0 ≤ x ∧ x ≤ 1099511627776 := fun x hx => by
      obtain rfl := List.mem_singleton.1 hx; exact hpl
    obtain ⟨i, lo, hi⟩ := p
    dsimp only at hp10 h8 hpt h1ok
    repeat' (first | refine HL.pa ?_ (POp.fnil0 rfl rfl) | refine HL.pa ?_ (POp.fnil1 rfl rfl) | refine HL.pa ?_ (POp.nilCheck rfl) | apply HL.fold | apply HA.fold | apply HL.nil | apply HX.n_then | apply HC.seq | apply HC.region | refine HL.pa ?_ | refine HL.ga rfl ?_ | refine HL.na rfl ?_ | refine HL.nu rfl rfl ?_ | apply HC.block | apply HC.skip | apply HC.exit | apply HC.ret | apply HX.e_block | refine HX.e_other rfl ?_ | apply HX.e_then | apply HX.e_again | apply HX.n_block | apply HX.r_then | apply HX.r_block | apply HX.r_again | refine HC.cond_yes rfl ?_ | refine HC.cond_no rfl ?_ | refine HL.one (H1.ldb rfl memA rfl rfl ?_) | refine HC.cond rfl (fun hc => ?_) (fun hc => ?_) | refine HC.cond_b rfl (fun hc => ?_) (fun hc => ?_))
    by_cases e8 : i = 8
    · subst e8
      obtain ⟨rfl, rfl⟩ := h8 rfl
      refine HL.one (H1.ldAggw (vs := [.nilFunc, zv 0, zv 0]) rfl rfl (fun w' hM i v hv => ownsRow_cell (hM.own memA) (hfg i v hv)) rfl ?_)
      repeat' (first | refine HL.pa ?_ (POp.fnil0 rfl rfl) | refine HL.pa ?_ (POp.fnil1 rfl rfl) | refine HL.pa ?_ (POp.nilCheck rfl) | apply HL.fold | apply HA.fold | apply HL.nil | apply HX.n_then | apply HC.seq | apply HC.region | refine HL.pa ?_ | refine HL.ga rfl ?_ | refine HL.na rfl ?_ | refine HL.nu rfl rfl ?_ | apply HC.block | apply HC.skip | apply HC.exit | apply HC.ret | apply HX.e_block | refine HX.e_other rfl ?_ | apply HX.e_then | apply HX.e_again | apply HX.n_block | apply HX.r_then | apply HX.r_block | apply HX.r_again | refine HC.cond_yes rfl ?_ | refine HC.cond_no rfl ?_ | refine HL.one (H1.ldb rfl memA rfl rfl ?_) | refine HC.cond rfl (fun hc => ?_) (fun hc => ?_) | refine HC.cond_b rfl (fun hc => ?_) (fun hc => ?_))
      refine HL.one (H1.alloc (cs := [.nilFunc, zv 0, zv 0]) rfl rfl (fun b7 => ?_))
      repeat' (first | refine HL.pa ?_ (POp.fnil0 rfl rfl) | refine HL.pa ?_ (POp.fnil1 rfl rfl) | refine HL.pa ?_ (POp.nilCheck rfl) | apply HL.fold | apply HA.fold | apply HL.nil | apply HX.n_then | apply HC.seq | apply HC.region | refine HL.pa ?_ | refine HL.ga rfl ?_ | refine HL.na rfl ?_ | refine HL.nu rfl rfl ?_ | apply HC.block | apply HC.skip | apply HC.exit | apply HC.ret | apply HX.e_block | refine HX.e_other rfl ?_ | apply HX.e_then | apply HX.e_again | apply HX.n_block | apply HX.r_then | apply HX.r_block | apply HX.r_again | refine HC.cond_yes rfl ?_ | refine HC.cond_no rfl ?_ | refine HL.one (H1.ldb rfl memA rfl rfl ?_) | refine HC.cond rfl (fun hc => ?_) (fun hc => ?_) | refine HC.cond_b rfl (fun hc => ?_) (fun hc => ?_))
      refine HL.one (H1.stAgg (cs := [.nilFunc, zv 0, zv 0]) (vs := [.nilFunc, zv 0, zv 0]) rfl rfl rfl (by intro v hv; simp only [List.mem_cons, List.not_mem_nil, or_false] at hv; rcases hv with rfl | rfl | rfl <;> rfl) rplA rfl ?_)
      repeat' (first | refine HL.pa ?_ (POp.fnil0 rfl rfl) | refine HL.pa ?_ (POp.fnil1 rfl rfl) | refine HL.pa ?_ (POp.nilCheck rfl) | apply HL.fold | apply HA.fold | apply HL.nil | apply HX.n_then | apply HC.seq | apply HC.region | refine HL.pa ?_ | refine HL.ga rfl ?_ | refine HL.na rfl ?_ | refine HL.nu rfl rfl ?_ | apply HC.block | apply HC.skip | apply HC.exit | apply HC.ret | apply HX.e_block | refine HX.e_other rfl ?_ | apply HX.e_then | apply HX.e_again | apply HX.n_block | apply HX.r_then | apply HX.r_block | apply HX.r_again | refine HC.cond_yes rfl ?_ | refine HC.cond_no rfl ?_ | refine HL.one (H1.ldb rfl memA rfl rfl ?_) | refine HC.cond rfl (fun hc => ?_) (fun hc => ?_) | refine HC.cond_b rfl (fun hc => ?_) (fun hc => ?_))
      refine HL.one (H1.call0 (vs := [.bool r.adm]) rfl rfl (fun w' _ => flag_fn r.adm w') ?_)
      repeat' (first | refine HL.pa ?_ (POp.fnil0 rfl rfl) | refine HL.pa ?_ (POp.fnil1 rfl rfl) | refine HL.pa ?_ (POp.nilCheck rfl) | apply HL.fold | apply HA.fold | apply HL.nil | apply HX.n_then | apply HC.seq | apply HC.region | refine HL.pa ?_ | refine HL.ga rfl ?_ | refine HL.na rfl ?_ | refine HL.nu rfl rfl ?_ | apply HC.block | apply HC.skip | apply HC.exit | apply HC.ret | apply HX.e_block | refine HX.e_other rfl ?_ | apply HX.e_then | apply HX.e_again | apply HX.n_block | apply HX.r_then | apply HX.r_block | apply HX.r_again | refine HC.cond_yes rfl ?_ | refine HC.cond_no rfl ?_ | refine HL.one (H1.ldb rfl memA rfl rfl ?_) | refine HC.cond rfl (fun hc => ?_) (fun hc => ?_) | refine HC.cond_b rfl (fun hc => ?_) (fun hc => ?_))
      refine HL.one (H1.lit (cs := [zv (b01 r.adm)]) rfl rfl rfl rfl rfl rfl (fun b8 => ?_))
      repeat' (first | refine HL.pa ?_ (POp.fnil0 rfl rfl) | refine HL.pa ?_ (POp.fnil1 rfl rfl) | refine HL.pa ?_ (POp.nilCheck rfl) | apply HL.fold | apply HA.fold | apply HL.nil | apply HX.n_then | apply HC.seq | apply HC.region | refine HL.pa ?_ | refine HL.ga rfl ?_ | refine HL.na rfl ?_ | refine HL.nu rfl rfl ?_ | apply HC.block | apply HC.skip | apply HC.exit | apply HC.ret | apply HX.e_block | refine HX.e_other rfl ?_ | apply HX.e_then | apply HX.e_again | apply HX.n_block | apply HX.r_then | apply HX.r_block | apply HX.r_again | refine HC.cond_yes rfl ?_ | refine HC.cond_no rfl ?_ | refine HL.one (H1.ldb rfl memA rfl rfl ?_) | refine HC.cond rfl (fun hc => ?_) (fun hc => ?_) | refine HC.cond_b rfl (fun hc => ?_) (fun hc => ?_))
      refine HL.one (H1.callk (α := Option Addr × Option Addr × Nat) (V := fun _ => .tuple #[]) (I := fun q => q.1 = none ∨ q.1 = some ⟨b6, 0, none⟩) (H' := fun q => bldH b6 q.1 q.2.1 q.2.2 (putL (headL r) ++ putL (fldL r (L.take j)) ++ putL [r.get 8]) [A.grow 64 3 (some ⟨bz, 0, none⟩) c L.length (fcl L), A.blk b1 (rcells r) 24]) (vs := [.pointer (some ⟨b6, 0, none⟩), .slice (some ⟨b8, 0, none⟩) 1 1]) rfl rfl (fun w' hM => put_fn [r.get 8] (hM.sub (by show Hs _ (bldH b6 p1 a1 c1 (putL (headL r) ++ putL (fldL r (L.take j))) [A.blk b8 [zv (b01 r.adm)] 3, A.grow _ _ _ _ _ _, A.blk b1 _ _]); repeat (first | exact Hs.nil _ | (refine Hs.cons pickA ?_)))) hp1 h1ok (by show _ + 9 * 1 ≤ 1000000; omega)) ?_)
      rintro ⟨p2, a2, c2⟩ hp2
      dsimp only
      rw [hpt]
      repeat' (first | refine HL.pa ?_ (POp.fnil0 rfl rfl) | refine HL.pa ?_ (POp.fnil1 rfl rfl) | refine HL.pa ?_ (POp.nilCheck rfl) | apply HL.fold | apply HA.fold | apply HL.nil | apply HX.n_then | apply HC.seq | apply HC.region | refine HL.pa ?_ | refine HL.ga rfl ?_ | refine HL.na rfl ?_ | refine HL.nu rfl rfl ?_ | apply HC.block | apply HC.skip | apply HC.exit | apply HC.ret | apply HX.e_block | refine HX.e_other rfl ?_ | apply HX.e_then | apply HX.e_again | apply HX.n_block | apply HX.r_then | apply HX.r_block | apply HX.r_again | refine HC.cond_yes rfl ?_ | refine HC.cond_no rfl ?_ | refine HL.one (H1.ldb rfl memA rfl rfl ?_) | refine HC.cond rfl (fun hc => ?_) (fun hc => ?_) | refine HC.cond_b rfl (fun hc => ?_) (fun hc => ?_))
      exact HX.again (j + 1, p2, a2, c2) ⟨hlt, hp2⟩ (by show L.length - (j + 1) < L.length - j; omega) esA (Hs.refl _)
    · have hfc : fcells (i, lo, hi) = [fnV (fid i), zv lo, zv hi] := if_neg e8
      rw [hfc] at hfg
      obtain ⟨go, hgf⟩ := getter_ok hp10 e8
      have hcell := cells_get r hp10 e8
      refine HL.one (H1.ldAggw (vs := [fnV (fid i), zv lo, zv hi]) rfl rfl (fun w' hM i v hv => ownsRow_cell (hM.own memA) (hfg i v hv)) rfl ?_)
      repeat' (first | refine HL.pa ?_ (POp.fnil0 rfl rfl) | refine HL.pa ?_ (POp.fnil1 rfl rfl) | refine HL.pa ?_ (POp.nilCheck rfl) | apply HL.fold | apply HA.fold | apply HL.nil | apply HX.n_then | apply HC.seq | apply HC.region | refine HL.pa ?_ | refine HL.ga rfl ?_ | refine HL.na rfl ?_ | refine HL.nu rfl rfl ?_ | apply HC.block | apply HC.skip | apply HC.exit | apply HC.ret | apply HX.e_block | refine HX.e_other rfl ?_ | apply HX.e_then | apply HX.e_again | apply HX.n_block | apply HX.r_then | apply HX.r_block | apply HX.r_again | refine HC.cond_yes rfl ?_ | refine HC.cond_no rfl ?_ | refine HL.one (H1.ldb rfl memA rfl rfl ?_) | refine HC.cond rfl (fun hc => ?_) (fun hc => ?_) | refine HC.cond_b rfl (fun hc => ?_) (fun hc => ?_))
      refine HL.one (H1.alloc (cs := [.nilFunc, zv 0, zv 0]) rfl rfl (fun b7 => ?_))
      repeat' (first | refine HL.pa ?_ (POp.fnil0 rfl rfl) | refine HL.pa ?_ (POp.fnil1 rfl rfl) | refine HL.pa ?_ (POp.nilCheck rfl) | apply HL.fold | apply HA.fold | apply HL.nil | apply HX.n_then | apply HC.seq | apply HC.region | refine HL.pa ?_ | refine HL.ga rfl ?_ | refine HL.na rfl ?_ | refine HL.nu rfl rfl ?_ | apply HC.block | apply HC.skip | apply HC.exit | apply HC.ret | apply HX.e_block | refine HX.e_other rfl ?_ | apply HX.e_then | apply HX.e_again | apply HX.n_block | apply HX.r_then | apply HX.r_block | apply HX.r_again | refine HC.cond_yes rfl ?_ | refine HC.cond_no rfl ?_ | refine HL.one (H1.ldb rfl memA rfl rfl ?_) | refine HC.cond rfl (fun hc => ?_) (fun hc => ?_) | refine HC.cond_b rfl (fun hc => ?_) (fun hc => ?_))
      refine HL.one (H1.stAgg (cs := [.nilFunc, zv 0, zv 0]) (vs := [fnV (fid i), zv lo, zv hi]) rfl rfl rfl (by intro v hv; simp only [List.mem_cons, List.not_mem_nil, or_false] at hv; rcases hv with rfl | rfl | rfl <;> rfl) rplA rfl ?_)
      repeat' (first | refine HL.pa ?_ (POp.fnil0 rfl rfl) | refine HL.pa ?_ (POp.fnil1 rfl rfl) | refine HL.pa ?_ (POp.nilCheck rfl) | apply HL.fold | apply HA.fold | apply HL.nil | apply HX.n_then | apply HC.seq | apply HC.region | refine HL.pa ?_ | refine HL.ga rfl ?_ | refine HL.na rfl ?_ | refine HL.nu rfl rfl ?_ | apply HC.block | apply HC.skip | apply HC.exit | apply HC.ret | apply HX.e_block | refine HX.e_other rfl ?_ | apply HX.e_then | apply HX.e_again | apply HX.n_block | apply HX.r_then | apply HX.r_block | apply HX.r_again | refine HC.cond_yes rfl ?_ | refine HC.cond_no rfl ?_ | refine HL.one (H1.ldb rfl memA rfl rfl ?_) | refine HC.cond rfl (fun hc => ?_) (fun hc => ?_) | refine HC.cond_b rfl (fun hc => ?_) (fun hc => ?_))
      refine HL.one (H1.callv0 (hf := go) (f := fid i) (cap := []) (vs := [.pointer (some ⟨b1, 0, none⟩)]) rfl rfl rfl (fun w' _ => call1w (hgf b1 w')) ?_)
      generalize r.get i = x at *
      repeat' (first | refine HL.pa ?_ (POp.fnil0 rfl rfl) | refine HL.pa ?_ (POp.fnil1 rfl rfl) | refine HL.pa ?_ (POp.nilCheck rfl) | apply HL.fold | apply HA.fold | apply HL.nil | apply HX.n_then | apply HC.seq | apply HC.region | refine HL.pa ?_ | refine HL.ga rfl ?_ | refine HL.na rfl ?_ | refine HL.nu rfl rfl ?_ | apply HC.block | apply HC.skip | apply HC.exit | apply HC.ret | apply HX.e_block | refine HX.e_other rfl ?_ | apply HX.e_then | apply HX.e_again | apply HX.n_block | apply HX.r_then | apply HX.r_block | apply HX.r_again | refine HC.cond_yes rfl ?_ | refine HC.cond_no rfl ?_ | refine HL.one (H1.ldb rfl memA rfl rfl ?_) | refine HC.cond rfl (fun hc => ?_) (fun hc => ?_) | refine HC.cond_b rfl (fun hc => ?_) (fun hc => ?_))
      refine HL.one (H1.ldb (v := zv x) rfl memA hcell rfl ?_)
      repeat' (first | refine HL.pa ?_ (POp.fnil0 rfl rfl) | refine HL.pa ?_ (POp.fnil1 rfl rfl) | refine HL.pa ?_ (POp.nilCheck rfl) | apply HL.fold | apply HA.fold | apply HL.nil | apply HX.n_then | apply HC.seq | apply HC.region | refine HL.pa ?_ | refine HL.ga rfl ?_ | refine HL.na rfl ?_ | refine HL.nu rfl rfl ?_ | apply HC.block | apply HC.skip | apply HC.exit | apply HC.ret | apply HX.e_block | refine HX.e_other rfl ?_ | apply HX.e_then | apply HX.e_again | apply HX.n_block | apply HX.r_then | apply HX.r_block | apply HX.r_again | refine HC.cond_yes rfl ?_ | refine HC.cond_no rfl ?_ | refine HL.one (H1.ldb rfl memA rfl rfl ?_) | refine HC.cond rfl (fun hc => ?_) (fun hc => ?_) | refine HC.cond_b rfl (fun hc => ?_) (fun hc => ?_))
      refine HL.one (H1.lit (cs := [zv x]) rfl rfl rfl rfl rfl rfl (fun b8 => ?_))
      repeat' (first | refine HL.pa ?_ (POp.fnil0 rfl rfl) | refine HL.pa ?_ (POp.fnil1 rfl rfl) | refine HL.pa ?_ (POp.nilCheck rfl) | apply HL.fold | apply HA.fold | apply HL.nil | apply HX.n_then | apply HC.seq | apply HC.region | refine HL.pa ?_ | refine HL.ga rfl ?_ | refine HL.na rfl ?_ | refine HL.nu rfl rfl ?_ | apply HC.block | apply HC.skip | apply HC.exit | apply HC.ret | apply HX.e_block | refine HX.e_other rfl ?_ | apply HX.e_then | apply HX.e_again | apply HX.n_block | apply HX.r_then | apply HX.r_block | apply HX.r_again | refine HC.cond_yes rfl ?_ | refine HC.cond_no rfl ?_ | refine HL.one (H1.ldb rfl memA rfl rfl ?_) | refine HC.cond rfl (fun hc => ?_) (fun hc => ?_) | refine HC.cond_b rfl (fun hc => ?_) (fun hc => ?_))
      refine HL.one (H1.callk (α := Option Addr × Option Addr × Nat) (V := fun _ => .tuple #[]) (I := fun q => q.1 = none ∨ q.1 = some ⟨b6, 0, none⟩) (H' := fun q => bldH b6 q.1 q.2.1 q.2.2 (putL (headL r) ++ putL (fldL r (L.take j)) ++ putL [x]) [A.grow 64 3 (some ⟨bz, 0, none⟩) c L.length (fcl L), A.blk b1 (rcells r) 24]) (vs := [.pointer (some ⟨b6, 0, none⟩), .slice (some ⟨b8, 0, none⟩) 1 1]) rfl rfl (fun w' hM => put_fn [x] (hM.sub (by show Hs _ (bldH b6 p1 a1 c1 (putL (headL r) ++ putL (fldL r (L.take j))) [A.blk b8 [zv x] 3, A.grow _ _ _ _ _ _, A.blk b1 _ _]); repeat (first | exact Hs.nil _ | (refine Hs.cons pickA ?_)))) hp1 h1ok (by show _ + 9 * 1 ≤ 1000000; omega)) ?_)
      rintro ⟨p2, a2, c2⟩ hp2
      dsimp only
      rw [hpt]
      repeat' (first | refine HL.pa ?_ (POp.fnil0 rfl rfl) | refine HL.pa ?_ (POp.fnil1 rfl rfl) | refine HL.pa ?_ (POp.nilCheck rfl) | apply HL.fold | apply HA.fold | apply HL.nil | apply HX.n_then | apply HC.seq | apply HC.region | refine HL.pa ?_ | refine HL.ga rfl ?_ | refine HL.na rfl ?_ | refine HL.nu rfl rfl ?_ | apply HC.block | apply HC.skip | apply HC.exit | apply HC.ret | apply HX.e_block | refine HX.e_other rfl ?_ | apply HX.e_then | apply HX.e_again | apply HX.n_block | apply HX.r_then | apply HX.r_block | apply HX.r_again | refine HC.cond_yes rfl ?_ | refine HC.cond_no rfl ?_ | refine HL.one (H1.ldb rfl memA rfl rfl ?_) | refine HC.cond rfl (fun hc => ?_) (fun hc => ?_) | refine HC.cond_b rfl (fun hc => ?_) (fun hc => ?_))
      exact HX.again (j + 1, p2, a2, c2) ⟨hlt, hp2⟩ (by show L.length - (j + 1) < L.length - j; omega) esA (Hs.refl _)
  obtain rfl : j = L.length := by omega
  rw [List.take_length]
  have hzz := hfz L.length
  rw [List.take_length] at hzz
  have htx := hv.text
  have hsz := strN_size (n := r.text.size) (by omega)
  have hss : (strN r.text.size ++ r.text).size ≤ 209 := by rw [ByteArray.size_append]; omega
  have hfin : putL (headL r) ++ putL (fldL r L) ++ (strN r.text.size ++ r.text).data.toList = encR r := by
    rw [encR_put, hL, ByteArray.data_append, Array.toList_append, List.append_assoc, List.append_assoc, List.append_assoc]
    rfl
  repeat' (first | refine HL.pa ?_ (POp.fnil0 rfl rfl) | refine HL.pa ?_ (POp.fnil1 rfl rfl) | refine HL.pa ?_ (POp.nilCheck rfl) | apply HL.fold | apply HA.fold | apply HL.nil | apply HX.n_then | apply HC.seq | apply HC.region | refine HL.pa ?_ | refine HL.ga rfl ?_ | refine HL.na rfl ?_ | refine HL.nu rfl rfl ?_ | apply HC.block | apply HC.skip | apply HC.exit | apply HC.ret | apply HX.e_block | refine HX.e_other rfl ?_ | apply HX.e_then | apply HX.e_again | apply HX.n_block | apply HX.r_then | apply HX.r_block | apply HX.r_again | refine HC.cond_yes rfl ?_ | refine HC.cond_no rfl ?_ | refine HL.one (H1.ldb rfl memA rfl rfl ?_) | refine HC.cond rfl (fun hc => ?_) (fun hc => ?_) | refine HC.cond_b rfl (fun hc => ?_) (fun hc => ?_))
  refine HL.one (H1.callx (vs := [.string r.text]) rfl rfl (fun w' _ => putString_fn r.text (by omega) w') ?_)
  generalize strN r.text.size ++ r.text = st at hss hfin ⊢
  repeat' (first | refine HL.pa ?_ (POp.fnil0 rfl rfl) | refine HL.pa ?_ (POp.fnil1 rfl rfl) | refine HL.pa ?_ (POp.nilCheck rfl) | apply HL.fold | apply HA.fold | apply HL.nil | apply HX.n_then | apply HC.seq | apply HC.region | refine HL.pa ?_ | refine HL.ga rfl ?_ | refine HL.na rfl ?_ | refine HL.nu rfl rfl ?_ | apply HC.block | apply HC.skip | apply HC.exit | apply HC.ret | apply HX.e_block | refine HX.e_other rfl ?_ | apply HX.e_then | apply HX.e_again | apply HX.n_block | apply HX.r_then | apply HX.r_block | apply HX.r_again | refine HC.cond_yes rfl ?_ | refine HC.cond_no rfl ?_ | refine HL.one (H1.ldb rfl memA rfl rfl ?_) | refine HC.cond rfl (fun hc => ?_) (fun hc => ?_) | refine HC.cond_b rfl (fun hc => ?_) (fun hc => ?_))
  refine HL.one (H1.callk (α := Option Addr × Nat) (V := fun _ => .tuple #[zv (st.size : Int), .nilIface]) (I := fun _ => True) (H' := fun q => bldH b6 (some ⟨b6, 0, none⟩) q.1 q.2 (putL (headL r) ++ putL (fldL r L) ++ st.data.toList) []) (vs := [.pointer (some ⟨b6, 0, none⟩), .string st]) rfl rfl
    (fun w' hM => writeString_fn st (hM.sub (Hs.cons Pick.here (Hs.cons Pick.here (Hs.nil _)))) hp1 (by omega)) ?_)
  rintro ⟨a2, c2⟩ -
  dsimp only
  rw [hfin]
  repeat' (first | refine HL.pa ?_ (POp.fnil0 rfl rfl) | refine HL.pa ?_ (POp.fnil1 rfl rfl) | refine HL.pa ?_ (POp.nilCheck rfl) | apply HL.fold | apply HA.fold | apply HL.nil | apply HX.n_then | apply HC.seq | apply HC.region | refine HL.pa ?_ | refine HL.ga rfl ?_ | refine HL.na rfl ?_ | refine HL.nu rfl rfl ?_ | apply HC.block | apply HC.skip | apply HC.exit | apply HC.ret | apply HX.e_block | refine HX.e_other rfl ?_ | apply HX.e_then | apply HX.e_again | apply HX.n_block | apply HX.r_then | apply HX.r_block | apply HX.r_again | refine HC.cond_yes rfl ?_ | refine HC.cond_no rfl ?_ | refine HL.one (H1.ldb rfl memA rfl rfl ?_) | refine HC.cond rfl (fun hc => ?_) (fun hc => ?_) | refine HC.cond_b rfl (fun hc => ?_) (fun hc => ?_))
  refine HL.one (H1.callk (α := Unit) (V := fun _ => .string ⟨(encR r).toArray⟩) (I := fun _ => True) (H' := fun _ => []) (vs := [.pointer (some ⟨b6, 0, none⟩)]) rfl rfl (fun w' hM => (builderString_fn hM (encR_ne r)).mono fun v w' h => ⟨(), trivial, h⟩) ?_)
  rintro - -
  repeat' (first | refine HL.pa ?_ (POp.fnil0 rfl rfl) | refine HL.pa ?_ (POp.fnil1 rfl rfl) | refine HL.pa ?_ (POp.nilCheck rfl) | apply HL.fold | apply HA.fold | apply HL.nil | apply HX.n_then | apply HC.seq | apply HC.region | refine HL.pa ?_ | refine HL.ga rfl ?_ | refine HL.na rfl ?_ | refine HL.nu rfl rfl ?_ | apply HC.block | apply HC.skip | apply HC.exit | apply HC.ret | apply HX.e_block | refine HX.e_other rfl ?_ | apply HX.e_then | apply HX.e_again | apply HX.n_block | apply HX.r_then | apply HX.r_block | apply HX.r_again | refine HC.cond_yes rfl ?_ | refine HC.cond_no rfl ?_ | refine HL.one (H1.ldb rfl memA rfl rfl ?_) | refine HC.cond rfl (fun hc => ?_) (fun hc => ?_) | refine HC.cond_b rfl (fun hc => ?_) (fun hc => ?_))
  exact HX.ret2 rfl rfl rfl fun w' hM => ⟨by unfold encS; rw [validB_yes hv]; rfl, hM.ext⟩
end Go.Sx

