/- Chapter 20: Encode. -/
import Derived.Test.YtdfkohdcoigofaaGreatDoorQD04
import Derived.Shelf.SlGeneric
import Derived.Shelf.SlSortCmp.NoneTotal
import Derived.Ground.SlsfProg
import Derived.Test.YtdfkohdcoigofaaGreatDoorProg
namespace Go.Sx
open Go Go.Proofs Go.RowKit
theorem hwXL {G G2 : Prop} (x : G2) (hwq : Hold G2 → G := by
    intro hQq
    repeat' (first | refine HL.pa ?_ (POp.fnil0 rfl rfl) | refine HL.pa ?_ (POp.fnil1 rfl rfl) | refine HL.pa ?_ (POp.nilCheck rfl) | apply HL.fold | apply HA.fold | apply HL.nil | apply HX.n_then | apply HC.seq | apply HC.region | refine HL.pa ?_ | refine HL.ga rfl ?_ | refine HL.na rfl ?_ | refine HL.nu rfl rfl ?_ | apply HC.block | apply HC.skip | apply HC.exit | apply HC.ret | apply HX.e_block | refine HX.e_other rfl ?_ | apply HX.e_then | apply HX.e_again | apply HX.n_block | apply HX.r_then | apply HX.r_block | apply HX.r_again | refine HC.cond_yes rfl ?_ | refine HC.cond_no rfl ?_ | refine HL.one (H1.ldb rfl memA rfl rfl ?_) | refine HC.cond rfl (fun hc => ?_) (fun hc => ?_) | refine HC.cond_b rfl (fun hc => ?_) (fun hc => ?_))
    exact hQq.get) : G := hwq ⟨x⟩
def headL (r : Rc) : List Int := [r.kind, r.version, r.day, b01 r.gone]
def fldL (r : Rc) (l : List (Nat × Int × Int)) : List Int := l.map fun p => r.get p.1
theorem putL_app (l m : List Int) : putL (l ++ m) = putL l ++ putL m := by unfold putL; rw [List.map_append, List.flatten_append]
theorem encR_put (r : Rc) : encR r = putL (headL r) ++ putL (fldL r (specF r.kind)) ++ putN r.text.size ++ r.text.data.toList := by
  unfold encR encF headL fldL putL
  simp only [List.map_cons, List.map_nil, List.flatten_cons, List.flatten_nil, List.map_map, List.append_assoc]
  rfl
theorem encR_ne (r : Rc) : encR r ≠ [] := fun e => by
  have h1 := putN_ne r.kind.toNat
  have h2 := congrArg List.length e
  unfold encR at h2
  rw [List.length_append, List.length_nil] at h2
  omega
theorem b01_lim (b : Bool) : 0 ≤ b01 b ∧ b01 b ≤ 1 := by cases b <;> decide
theorem headL_ok {r : Rc} (h : ValidR r) : ∀ x ∈ headL r, 0 ≤ x ∧ x ≤ 1099511627776 := by
  intro x hx
  have h1 := h.kind
  have h2 := h.ver
  have h3 := h.day
  have h4 := b01_lim r.gone
  simp only [headL, List.mem_cons, List.not_mem_nil, or_false] at hx
  rcases hx with rfl | rfl | rfl | rfl <;> omega
theorem fldL_ok {r : Rc} (h : ValidR r) : ∀ p ∈ specF r.kind, 0 ≤ r.get p.1 ∧ r.get p.1 ≤ 1099511627776 := fun p hp => by
  have h1 := h.lim p hp
  have h2 := spec_hi hp
  have h3 := (spec_lo hp).1
  omega
attribute [local irreducible] WC WL WX POp Then Again Fn NX W1 WA WO QL RP RA Yld LoopAt HC HL HX HN H1 HA HO HQ HB HP A.blk A.grow A.rd A.obj A.mp AgainH CutH
attribute [local irreducible] specF keyF
set_option maxHeartbeats 4000000 in
theorem encode_fn (r : Rc) (hr : RcOk r) (w : World) : Fn Tryz.prog 153 #[recV r] w fun v w' => v = .tuple #[.string (encS r), zv (if validB r = true then 0 else 200)] ∧ Ext w w' := by
  refine enterH (l := [_]) rfl Tryz.ntmps153 rfl ?_
  refine hwXL ?_
  refine HL.one (H1.boxAgg (cs := rcells r) rfl rfl (fun b1 => ?_))
  refine hwXL ?_
  refine HL.one (H1.ldAgg (vs := rcells r) rfl memA rfl (fun i v hv => by rw [Nat.zero_add]; exact hv) rfl ?_)
  refine hwXL ?_
  refine HL.one (H1.callx (vs := [recV r]) rfl rfl (fun w' _ => valid_fn r hr w') ?_)
  by_cases hv : ValidR r
  rotate_left
  · rw [validB_no hv]
    refine hwXL ?_
    exact HX.ret2 rfl rfl rfl fun w' hM => ⟨by unfold encS; rw [validB_no hv]; rfl, hM.ext⟩
  rw [validB_yes hv]
  refine hwXL ?_
  refine HL.one (H1.callz1 (vs := [zv r.kind]) rfl rfl (fun w' _ => shapeOf_fn r.kind hv.kind w') ?_)
  rintro ⟨a, c⟩ -
  have hlen := spec_len r.kind
  have hpos := spec_pos hv.kind
  refine hwXL ?_
  refine HL.openg (e := 225) (a := a) (xs := fcl (specF r.kind)) memA (by omega) ?_
  rintro bz rfl
  refine HL.one (H1.alloc (cs := [.slice none 0 0, .nilFunc, zv 0, zv 0, .nilFunc]) rfl rfl (fun b4 => ?_))
  refine hwXL ?_
  refine HL.one (H1.stAgg (cs := [.slice none 0 0, .nilFunc, zv 0, zv 0, .nilFunc]) (vs := shapeC (some ⟨bz, 0, none⟩, c) r.kind) rfl rfl rfl (shapeC_one _ _) rplA rfl ?_)
  simp only [shapeC]
  refine hwXL ?_
  refine HL.one (H1.alloc (cs := [.pointer none, .slice none 0 0]) rfl rfl (fun b6 => ?_))
  refine hwXL ?_
  refine HC.grow0 5 1 ?_
  have hhl := headL_ok hv
  have hfl := fldL_ok hv
  have hhz := putL_len hhl
  have hhz' : (headL r).length = 4 := rfl
  refine HC.cut (α := Option Addr × Option Addr × Nat) (fun q => [(1, .pointer (some ⟨b1, 0, none⟩)), (4, .pointer (some ⟨b4, 0, none⟩)), (6, .pointer (some ⟨b6, 0, none⟩))])
    (fun q => bldH b6 q.1 q.2.1 q.2.2 (putL (headL r)) [A.blk b4 [.slice (some ⟨bz, 0, none⟩) (specF r.kind).length c, fnV (fid (keyF r.kind)), zv 1, zv 1000000, fnV (rid r.kind)] 227, A.grow 225 3 (some ⟨bz, 0, none⟩) c (specF r.kind).length (fcl (specF r.kind)), A.blk b1 (rcells r) 36]) (fun q => q.1 = none ∨ q.1 = some ⟨b6, 0, none⟩) ?_ ?_
  · refine HC.anyC ([(⟨b1, 0, none⟩, zv r.kind), (⟨b1, 2, none⟩, zv r.version), (⟨b1, 3, none⟩, zv r.day), (⟨b1, 4, none⟩, .bool r.gone)]) rfl ?_
    refine HB.pa 0 rfl ?_
    refine HB.ld 1 rfl rfl memD ?_
    refine HB.pa 2 rfl ?_
    refine HB.ld 3 rfl rfl memD ?_
    refine HB.pa 4 rfl ?_
    refine HB.ld 5 rfl rfl memD ?_
    refine HB.pa 6 rfl ?_
    refine HB.ld 7 rfl rfl memD ?_
    refine HB.all (by repeat (first | exact Keep.nil | refine Keep.blk (by (repeat (first | exact List.Mem.head _ | apply List.Mem.tail)); done) rfl ?_ | refine Keep.grow (by (repeat (first | exact List.Mem.head _ | apply List.Mem.tail)); done) (by assumption) ?_ | refine Keep.base (by assumption) ?_)) [8] (by kernel_rfl) rfl ⟨⟨_, rfl, ?_⟩, trivial⟩
    refine HP.one ?_
    refine H1.call0 (vs := [.bool r.gone]) rfl rfl (fun w' _ => flag_fn r.gone w') ?_
    apply HB.fold
    refine HB.all (by repeat (first | exact Keep.nil | refine Keep.blk (by (repeat (first | exact List.Mem.head _ | apply List.Mem.tail)); done) rfl ?_ | refine Keep.grow (by (repeat (first | exact List.Mem.head _ | apply List.Mem.tail)); done) (by assumption) ?_ | refine Keep.base (by assumption) ?_)) [9] (by kernel_rfl) rfl ⟨⟨_, rfl, ?_⟩, trivial⟩
    refine HP.one ?_
    refine H1.lit (cs := [zv r.kind, zv r.version, zv r.day, zv (b01 r.gone)]) rfl rfl rfl rfl rfl rfl (fun b8 => ?_)
    apply HB.fold
    refine HB.all (by repeat (first | exact Keep.nil | refine Keep.blk (by (repeat (first | exact List.Mem.head _ | apply List.Mem.tail)); done) rfl ?_ | refine Keep.grow (by (repeat (first | exact List.Mem.head _ | apply List.Mem.tail)); done) (by assumption) ?_ | refine Keep.base (by assumption) ?_)) [10] (by kernel_rfl) rfl ⟨⟨_, rfl, ?_⟩, trivial⟩
    refine HP.one ?_
    refine H1.callk (α := Option Addr × Option Addr × Nat) (V := fun _ => .tuple #[]) (I := fun q => q.1 = none ∨ q.1 = some ⟨b6, 0, none⟩) (H' := fun q => bldH b6 q.1 q.2.1 q.2.2 ([] ++ putL (headL r)) [A.blk b4 [.slice (some ⟨bz, 0, none⟩) (specF r.kind).length c, fnV (fid (keyF r.kind)), zv 1, zv 1000000, fnV (rid r.kind)] 227, A.grow 225 3 (some ⟨bz, 0, none⟩) c (specF r.kind).length (fcl (specF r.kind)), A.blk b1 (rcells r) 36]) (vs := [.pointer (some ⟨b6, 0, none⟩), .slice (some ⟨b8, 0, none⟩) 4 4]) rfl rfl (fun w' hM => put_fn (ys := []) (p := none) (a := none) (c := 0) (headL r) (hM.sub (by show Hs _ [A.blk b6 [.pointer none, .slice none 0 0] 232, A.grow 5 1 none 0 0 [], A.blk b8 [zv r.kind, zv r.version, zv r.day, zv (b01 r.gone)] 3, A.blk b4 _ _, A.grow _ _ _ _ _ _, A.blk b1 _ _]; repeat (first | exact Hs.nil _ | (refine Hs.cons pickA ?_)))) (.inl rfl) hhl (by show 0 + 9 * 4 ≤ 1000000; decide)) ?_
    rintro ⟨p', a', c'⟩ hp'
    rw [List.nil_append]
    apply HB.fold
    refine HB.done (by repeat (first | exact Keep.nil | refine Keep.blk (by (repeat (first | exact List.Mem.head _ | apply List.Mem.tail)); done) rfl ?_ | refine Keep.grow (by (repeat (first | exact List.Mem.head _ | apply List.Mem.tail)); done) (by assumption) ?_ | refine Keep.base (by assumption) ?_)) (by kernel_rfl) ?_
    exact HX.cut (p', a', c') hp' esA (by repeat (first | exact Hs.nil _ | (refine Hs.cons pickA ?_)))
  rintro ⟨p0, a0, c0⟩ hp0
  dsimp only at hp0 ⊢
  refine hwXL ?_
  obtain ⟨L, hL⟩ : ∃ L, L = specF r.kind := ⟨_, rfl⟩
  have hl10 : ∀ p ∈ L, p.1 < 10 := fun p hp => (spec_lo (hL ▸ hp)).2
  have hl8 : ∀ p ∈ L, p.1 = 8 → p.2.1 = 0 ∧ p.2.2 = 1 := fun p hp => spec8 (hL ▸ hp)
  rw [← hL] at hlen hpos hfl ⊢
  have hfx : ∀ j, ∀ x ∈ fldL r (L.take j), 0 ≤ x ∧ x ≤ 1099511627776 := fun j x hx => by
    obtain ⟨p, hp, rfl⟩ := List.mem_map.1 hx
    exact hfl p (List.mem_of_mem_take hp)
  have hfz : ∀ j, (putL (headL r) ++ putL (fldL r (L.take j))).length ≤ 120 := fun j => by
    have h1 := putL_len (hfx j)
    have h2 : (fldL r (L.take j)).length ≤ 8 := by
      unfold fldL
      rw [List.length_map, List.length_take]; omega
    rw [List.length_append]; omega
  refine HC.loop (α := Nat × Option Addr × Option Addr × Nat) (fun z => [(1, .pointer (some ⟨b1, 0, none⟩)), (6, .pointer (some ⟨b6, 0, none⟩)), (32, .slice (some ⟨bz, 0, none⟩) L.length c), (33, zv (L.length : Int)), (34, zv (z.1 : Int))])
    (fun z => bldH b6 z.2.1 z.2.2.1 z.2.2.2 (putL (headL r) ++ putL (fldL r (L.take z.1))) [A.grow 225 3 (some ⟨bz, 0, none⟩) c L.length (fcl L), A.blk b1 (rcells r) 36]) (fun z => z.1 ≤ L.length ∧ (z.2.1 = none ∨ z.2.1 = some ⟨b6, 0, none⟩)) (fun z => L.length - z.1) (0, p0, a0, c0) ⟨Nat.zero_le _, hp0⟩ esA
    (by show Hs _ (bldH b6 p0 a0 c0 (putL (headL r) ++ putL (fldL r (L.take 0))) _); rw [List.take_zero, show putL (fldL r []) = [] from rfl, List.append_nil]; repeat (first | exact Hs.nil _ | (refine Hs.cons pickA ?_))) ?_
  rintro ⟨j, p1, a1, c1⟩ ⟨hj, hp1⟩
  dsimp only at hj hp1 ⊢
  by_cases hlt : j < L.length
  · obtain ⟨p, hp⟩ : ∃ p, L[j]? = some p := ⟨_, List.getElem?_eq_getElem hlt⟩
    have hpm := List.mem_of_getElem? hp
    have htk : L.take (j + 1) = L.take j ++ [p] := by rw [List.take_add_one, hp]; rfl
    have hp10 := hl10 p hpm
    have hfg := fcl_get hp
    have h8 := hl8 p hpm
    have hpl := hfl p hpm
    have hzz := hfz j
    have hpt : putL (headL r) ++ putL (fldL r (L.take j)) ++ putL [r.get p.1] = putL (headL r) ++ putL (fldL r (L.take (j + 1))) := by
      rw [htk, List.append_assoc, ← putL_app]
      unfold fldL
      rw [List.map_append]; rfl
    have h1ok : ∀ x ∈ [r.get p.1], 0 ≤ x ∧ x ≤ 1099511627776 := fun x hx => by
      obtain rfl := List.mem_singleton.1 hx; exact hpl
    obtain ⟨i, lo, hi⟩ := p
    dsimp only at hp10 h8 hpt h1ok
    refine hwXL ?_
    by_cases e8 : i = 8
    · subst e8
      obtain ⟨rfl, rfl⟩ := h8 rfl
      refine HL.one (H1.ldAggw (vs := [.nilFunc, zv 0, zv 0]) rfl rfl (fun w' hM i v hv => ownsRow_cell (hM.own memA) (hfg i v hv)) rfl ?_)
      refine hwXL ?_
      refine HL.one (H1.alloc (cs := [.nilFunc, zv 0, zv 0]) rfl rfl (fun b7 => ?_))
      refine hwXL ?_
      refine HL.one (H1.stAgg (cs := [.nilFunc, zv 0, zv 0]) (vs := [.nilFunc, zv 0, zv 0]) rfl rfl rfl (by intro v hv; simp only [List.mem_cons, List.not_mem_nil, or_false] at hv; rcases hv with rfl | rfl | rfl <;> rfl) rplA rfl ?_)
      refine hwXL ?_
      refine HL.one (H1.call0 (vs := [.bool r.adm]) rfl rfl (fun w' _ => flag_fn r.adm w') ?_)
      refine hwXL ?_
      refine HL.one (H1.lit (cs := [zv (b01 r.adm)]) rfl rfl rfl rfl rfl rfl (fun b8 => ?_))
      refine hwXL ?_
      refine HL.one (H1.callk (α := Option Addr × Option Addr × Nat) (V := fun _ => .tuple #[]) (I := fun q => q.1 = none ∨ q.1 = some ⟨b6, 0, none⟩) (H' := fun q => bldH b6 q.1 q.2.1 q.2.2 (putL (headL r) ++ putL (fldL r (L.take j)) ++ putL [r.get 8]) [A.grow 225 3 (some ⟨bz, 0, none⟩) c L.length (fcl L), A.blk b1 (rcells r) 36]) (vs := [.pointer (some ⟨b6, 0, none⟩), .slice (some ⟨b8, 0, none⟩) 1 1]) rfl rfl (fun w' hM => put_fn [r.get 8] (hM.sub (by show Hs _ (bldH b6 p1 a1 c1 (putL (headL r) ++ putL (fldL r (L.take j))) [A.blk b8 [zv (b01 r.adm)] 3, A.grow _ _ _ _ _ _, A.blk b1 _ _]); repeat (first | exact Hs.nil _ | (refine Hs.cons pickA ?_)))) hp1 h1ok (by show _ + 9 * 1 ≤ 1000000; omega)) ?_)
      rintro ⟨p2, a2, c2⟩ hp2
      dsimp only
      rw [hpt]
      refine hwXL ?_
      exact HX.again (j + 1, p2, a2, c2) ⟨hlt, hp2⟩ (by show L.length - (j + 1) < L.length - j; omega) esA (Hs.refl _)
    · have hfc : fcells (i, lo, hi) = [fnV (fid i), zv lo, zv hi] := if_neg e8
      rw [hfc] at hfg
      obtain ⟨go, hgf⟩ := getter_ok hp10 e8
      have hcell := cells_get r hp10 e8
      refine HL.one (H1.ldAggw (vs := [fnV (fid i), zv lo, zv hi]) rfl rfl (fun w' hM i v hv => ownsRow_cell (hM.own memA) (hfg i v hv)) rfl ?_)
      refine hwXL ?_
      refine HL.one (H1.alloc (cs := [.nilFunc, zv 0, zv 0]) rfl rfl (fun b7 => ?_))
      refine hwXL ?_
      refine HL.one (H1.stAgg (cs := [.nilFunc, zv 0, zv 0]) (vs := [fnV (fid i), zv lo, zv hi]) rfl rfl rfl (by intro v hv; simp only [List.mem_cons, List.not_mem_nil, or_false] at hv; rcases hv with rfl | rfl | rfl <;> rfl) rplA rfl ?_)
      refine hwXL ?_
      refine HL.one (H1.callv0 (hf := go) (f := fid i) (cap := []) (vs := [.pointer (some ⟨b1, 0, none⟩)]) rfl rfl rfl (fun w' _ => call1w (hgf b1 w')) ?_)
      generalize r.get i = x at *
      refine hwXL ?_
      refine HL.one (H1.ldb (v := zv x) rfl memA hcell rfl ?_)
      refine hwXL ?_
      refine HL.one (H1.lit (cs := [zv x]) rfl rfl rfl rfl rfl rfl (fun b8 => ?_))
      refine hwXL ?_
      refine HL.one (H1.callk (α := Option Addr × Option Addr × Nat) (V := fun _ => .tuple #[]) (I := fun q => q.1 = none ∨ q.1 = some ⟨b6, 0, none⟩) (H' := fun q => bldH b6 q.1 q.2.1 q.2.2 (putL (headL r) ++ putL (fldL r (L.take j)) ++ putL [x]) [A.grow 225 3 (some ⟨bz, 0, none⟩) c L.length (fcl L), A.blk b1 (rcells r) 36]) (vs := [.pointer (some ⟨b6, 0, none⟩), .slice (some ⟨b8, 0, none⟩) 1 1]) rfl rfl (fun w' hM => put_fn [x] (hM.sub (by show Hs _ (bldH b6 p1 a1 c1 (putL (headL r) ++ putL (fldL r (L.take j))) [A.blk b8 [zv x] 3, A.grow _ _ _ _ _ _, A.blk b1 _ _]); repeat (first | exact Hs.nil _ | (refine Hs.cons pickA ?_)))) hp1 h1ok (by show _ + 9 * 1 ≤ 1000000; omega)) ?_)
      rintro ⟨p2, a2, c2⟩ hp2
      dsimp only
      rw [hpt]
      refine hwXL ?_
      exact HX.again (j + 1, p2, a2, c2) ⟨hlt, hp2⟩ (by show L.length - (j + 1) < L.length - j; omega) esA (Hs.refl _)
  obtain rfl : j = L.length := by omega
  rw [List.take_length]
  have hzz := hfz L.length
  rw [List.take_length] at hzz
  have htx := hv.text
  have hsz := strN_size (n := r.text.size) (by omega)
  have hss : (strN r.text.size ++ r.text).size ≤ 209 := by rw [ByteArray.size_append]; omega
  have hfin : putL (headL r) ++ putL (fldL r L) ++ (strN r.text.size ++ r.text).data.toList = encR r := by
    rw [encR_put, hL, ByteArray.data_append, Array.toList_append, List.append_assoc, List.append_assoc, List.append_assoc]
    rfl
  refine hwXL ?_
  refine HL.one (H1.callx (vs := [.string r.text]) rfl rfl (fun w' _ => putString_fn r.text (by omega) w') ?_)
  generalize strN r.text.size ++ r.text = st at hss hfin ⊢
  refine hwXL ?_
  refine HL.one (H1.callk (α := Option Addr × Nat) (V := fun _ => .tuple #[zv (st.size : Int), .nilIface]) (I := fun _ => True) (H' := fun q => bldH b6 (some ⟨b6, 0, none⟩) q.1 q.2 (putL (headL r) ++ putL (fldL r L) ++ st.data.toList) []) (vs := [.pointer (some ⟨b6, 0, none⟩), .string st]) rfl rfl
    (fun w' hM => writeString_fn st (hM.sub (Hs.cons Pick.here (Hs.cons Pick.here (Hs.nil _)))) hp1 (by omega)) ?_)
  rintro ⟨a2, c2⟩ -
  dsimp only
  rw [hfin]
  refine hwXL ?_
  refine HL.one (H1.callk (α := Unit) (V := fun _ => .string ⟨(encR r).toArray⟩) (I := fun _ => True) (H' := fun _ => []) (vs := [.pointer (some ⟨b6, 0, none⟩)]) rfl rfl (fun w' hM => (builderString_fn hM (encR_ne r)).mono fun v w' h => ⟨(), trivial, h⟩) ?_)
  rintro - -
  refine hwXL ?_
  exact HX.ret2 rfl rfl rfl fun w' hM => ⟨by unfold encS; rw [validB_yes hv]; rfl, hM.ext⟩
end Go.Sx
/- Chapter 20: Prevails. -/
namespace Go.Sx
open Go Go.Proofs Go.RowKit
theorem hwXM {G G2 : Prop} (x : G2) (hwq : Hold G2 → G := by
    intro hQq
    repeat' (first | apply HL.fold | apply HA.fold | apply HL.nil | apply HX.n_then | apply HC.seq | apply HC.region | refine HL.pa ?_ | refine HL.ga rfl ?_ | refine HL.na rfl ?_ | refine HL.nu rfl rfl ?_ | apply HC.block | apply HC.skip | apply HC.exit | apply HC.ret | apply HX.e_block | refine HX.e_other rfl ?_ | apply HX.e_then | apply HX.e_again | apply HX.n_block | apply HX.r_then | apply HX.r_block | apply HX.r_again | refine HC.cond_yes rfl ?_ | refine HC.cond_no rfl ?_ | refine HL.one (H1.ldb rfl memA rfl rfl ?_) | refine HC.cond rfl (fun hc => ?_) (fun hc => ?_) | refine HC.cond_b rfl (fun hc => ?_) (fun hc => ?_))
    exact hQq.get) : G := hwq ⟨x⟩
noncomputable def prevB (a b : Rc) : Bool := @decide (Prev a b) (Classical.propDecidable _)
theorem prevB_yes {a b : Rc} (h : Prev a b) : prevB a b = true := by unfold prevB; exact @decide_eq_true _ (Classical.propDecidable _) h
theorem prevB_no {a b : Rc} (h : ¬ Prev a b) : prevB a b = false := by unfold prevB; exact @decide_eq_false _ (Classical.propDecidable _) h
theorem prevB_iff {a b : Rc} : prevB a b = true ↔ Prev a b := by unfold prevB; exact @decide_eq_true_iff _ (Classical.propDecidable _)
theorem keyS_yes {r : Rc} (h : ValidR r) : keyS r = ⟨(keyR r).toArray⟩ := by unfold keyS; rw [validB_yes h]; rfl
theorem encS_yes {r : Rc} (h : ValidR r) : encS r = ⟨(encR r).toArray⟩ := by unfold encS; rw [validB_yes h]; rfl
theorem keyS_inj {a b : Rc} (ha : ValidR a) (hb : ValidR b) : keyS a = keyS b ↔ keyR a = keyR b := by
  rw [keyS_yes ha, keyS_yes hb]
  constructor
  · intro h
    injection h with h
    exact List.toArray_inj h
  · intro h; rw [h]
attribute [local irreducible] WC WL WX POp Then Again Fn NX W1 WA WO QL RP RA Yld LoopAt HC HL HX HN H1 HA HO HQ HB HP A.blk A.grow A.rd A.obj A.mp AgainH CutH
set_option maxHeartbeats 4000000 in
theorem prevails_fn (r s : Rc) (hr : RcOk r) (hs : RcOk s) (w : World) : Fn Tryz.prog 77 #[recV r, recV s] w fun v w' => v = .bool (prevB r s) ∧ Ext w w' := by
  refine enterH (l := [_, _]) rfl Tryz.ntmps77 rfl ?_
  refine hwXM ?_
  refine HL.one (H1.boxAgg (cs := rcells r) rfl rfl (fun b2 => ?_))
  refine hwXM ?_
  refine HL.one (H1.boxAgg (cs := rcells s) rfl rfl (fun b3 => ?_))
  refine hwXM ?_
  refine HL.one (H1.ldAgg (vs := rcells r) rfl memA rfl (fun i v hv => by rw [Nat.zero_add]; exact hv) rfl ?_)
  refine hwXM ?_
  refine HL.one (H1.callx (vs := [recV r]) rfl rfl (fun w' _ => encode_fn r hr w') ?_)
  refine hwXM ?_
  refine HL.one (H1.ldAgg (vs := rcells s) rfl memA rfl (fun i v hv => by rw [Nat.zero_add]; exact hv) rfl ?_)
  refine hwXM ?_
  refine HL.one (H1.callx (vs := [recV s]) rfl rfl (fun w' _ => encode_fn s hs w') ?_)
  refine hwXM ?_
  by_cases h1 : ValidR r
  rotate_left
  · rw [validB_no h1, if_neg Bool.false_ne_true]
    refine HC.any rfl ?_
    refine HA.pa 0 rfl ?_
    refine HA.pa 1 rfl ?_
    refine HA.pa 2 rfl ?_
    first | refine HA.ga 3 rfl rfl ?_ | refine HA.na 3 rfl rfl ?_ | refine HA.nu 3 rfl rfl ?_
    first | refine HA.ga 4 rfl rfl ?_ | refine HA.na 4 rfl rfl ?_ | refine HA.nu 4 rfl rfl ?_
    refine HA.pa 5 rfl ?_
    refine HA.pa 6 rfl ?_
    refine HA.all [7, 9] (by kernel_rfl) rfl ⟨⟨_, rfl, ?_⟩, ⟨_, rfl, ?_⟩, trivial⟩
    · refine HO.drop_a rfl ?_
      refine HA.all [8, 9] (by kernel_rfl) rfl ⟨⟨_, rfl, ?_⟩, ⟨_, rfl, ?_⟩, trivial⟩
      · refine HO.drop_a rfl ?_
        refine HA.all [9] (by kernel_rfl) rfl ⟨⟨_, rfl, ?_⟩, trivial⟩
        refine HO.drop_a rfl ?_
        refine HA.all [10] (by kernel_rfl) rfl ⟨⟨_, rfl, ?_⟩, trivial⟩
        refine HO.drop_a rfl ?_
        first | refine HA.ga 11 rfl rfl ?_ | refine HA.na 11 rfl rfl ?_ | refine HA.nu 11 rfl rfl ?_
        refine HA.pa 12 rfl ?_
        refine HA.done (by kernel_rfl) ?_
        refine hwXM ?_
        exact HX.ret1 rfl rfl fun w' hM => ⟨by rw [prevB_no fun h => h1 h.1.1], hM.ext⟩
      · refine HO.drop_a rfl ?_
        refine HA.all [8] (by kernel_rfl) rfl ⟨⟨_, rfl, ?_⟩, trivial⟩
        refine HO.drop_a rfl ?_
        refine HA.all [10] (by kernel_rfl) rfl ⟨⟨_, rfl, ?_⟩, trivial⟩
        refine HO.drop_a rfl ?_
        first | refine HA.ga 11 rfl rfl ?_ | refine HA.na 11 rfl rfl ?_ | refine HA.nu 11 rfl rfl ?_
        refine HA.pa 12 rfl ?_
        refine HA.done (by kernel_rfl) ?_
        refine hwXM ?_
        exact HX.ret1 rfl rfl fun w' hM => ⟨by rw [prevB_no fun h => h1 h.1.1], hM.ext⟩
    · refine HO.drop_a rfl ?_
      refine HA.all [7] (by kernel_rfl) rfl ⟨⟨_, rfl, ?_⟩, trivial⟩
      refine HO.drop_a rfl ?_
      refine HA.all [8] (by kernel_rfl) rfl ⟨⟨_, rfl, ?_⟩, trivial⟩
      refine HO.drop_a rfl ?_
      refine HA.all [10] (by kernel_rfl) rfl ⟨⟨_, rfl, ?_⟩, trivial⟩
      refine HO.drop_a rfl ?_
      first | refine HA.ga 11 rfl rfl ?_ | refine HA.na 11 rfl rfl ?_ | refine HA.nu 11 rfl rfl ?_
      refine HA.pa 12 rfl ?_
      refine HA.done (by kernel_rfl) ?_
      refine hwXM ?_
      exact HX.ret1 rfl rfl fun w' hM => ⟨by rw [prevB_no fun h => h1 h.1.1], hM.ext⟩
  by_cases h2 : ValidR s
  rotate_left
  · rw [validB_no h2, validB_yes h1, if_neg Bool.false_ne_true, if_pos rfl]
    refine HC.any rfl ?_
    refine HA.pa 0 rfl ?_
    refine HA.pa 1 rfl ?_
    refine HA.pa 2 rfl ?_
    first | refine HA.ga 3 rfl rfl ?_ | refine HA.na 3 rfl rfl ?_ | refine HA.nu 3 rfl rfl ?_
    first | refine HA.ga 4 rfl rfl ?_ | refine HA.na 4 rfl rfl ?_ | refine HA.nu 4 rfl rfl ?_
    refine HA.pa 5 rfl ?_
    refine HA.pa 6 rfl ?_
    refine HA.all [7, 9] (by kernel_rfl) rfl ⟨⟨_, rfl, ?_⟩, ⟨_, rfl, ?_⟩, trivial⟩
    · refine HO.drop_a rfl ?_
      refine HA.all [8, 9] (by kernel_rfl) rfl ⟨⟨_, rfl, ?_⟩, ⟨_, rfl, ?_⟩, trivial⟩
      · refine HO.drop_a rfl ?_
        refine HA.all [9] (by kernel_rfl) rfl ⟨⟨_, rfl, ?_⟩, trivial⟩
        refine HO.drop_a rfl ?_
        refine HA.all [10] (by kernel_rfl) rfl ⟨⟨_, rfl, ?_⟩, trivial⟩
        refine HO.drop_a rfl ?_
        first | refine HA.ga 11 rfl rfl ?_ | refine HA.na 11 rfl rfl ?_ | refine HA.nu 11 rfl rfl ?_
        refine HA.pa 12 rfl ?_
        refine HA.done (by kernel_rfl) ?_
        refine hwXM ?_
        exact HX.ret1 rfl rfl fun w' hM => ⟨by rw [prevB_no fun h => h2 h.1.2.1], hM.ext⟩
      · refine HO.drop_a rfl ?_
        refine HA.all [8] (by kernel_rfl) rfl ⟨⟨_, rfl, ?_⟩, trivial⟩
        refine HO.drop_a rfl ?_
        refine HA.all [10] (by kernel_rfl) rfl ⟨⟨_, rfl, ?_⟩, trivial⟩
        refine HO.drop_a rfl ?_
        first | refine HA.ga 11 rfl rfl ?_ | refine HA.na 11 rfl rfl ?_ | refine HA.nu 11 rfl rfl ?_
        refine HA.pa 12 rfl ?_
        refine HA.done (by kernel_rfl) ?_
        refine hwXM ?_
        exact HX.ret1 rfl rfl fun w' hM => ⟨by rw [prevB_no fun h => h2 h.1.2.1], hM.ext⟩
    · refine HO.drop_a rfl ?_
      refine HA.all [7] (by kernel_rfl) rfl ⟨⟨_, rfl, ?_⟩, trivial⟩
      refine HO.drop_a rfl ?_
      refine HA.all [8] (by kernel_rfl) rfl ⟨⟨_, rfl, ?_⟩, trivial⟩
      refine HO.drop_a rfl ?_
      refine HA.all [10] (by kernel_rfl) rfl ⟨⟨_, rfl, ?_⟩, trivial⟩
      refine HO.drop_a rfl ?_
      first | refine HA.ga 11 rfl rfl ?_ | refine HA.na 11 rfl rfl ?_ | refine HA.nu 11 rfl rfl ?_
      refine HA.pa 12 rfl ?_
      refine HA.done (by kernel_rfl) ?_
      refine hwXM ?_
      exact HX.ret1 rfl rfl fun w' hM => ⟨by rw [prevB_no fun h => h2 h.1.2.1], hM.ext⟩
  rw [validB_yes h1, validB_yes h2, if_pos rfl]
  have e1 := encS_yes h1
  have e2 := encS_yes h2
  have ek := keyS_inj h1 h2
  have hP : Prev r s ↔ keyS r = keyS s ∧ (s.version < r.version ∨ r.version = s.version ∧ Op.bytesLess (encS s).data.toList (encS r).data.toList = true) := by
    rw [ek, e1, e2]
    exact ⟨fun h => ⟨h.1.2.2, h.2⟩, fun h => ⟨⟨h1, h2, h.1⟩, h.2⟩⟩
  clear e1 e2 ek
  refine HC.cut (α := Unit) (fun _ => [(2, .pointer (some ⟨b2, 0, none⟩)), (3, .pointer (some ⟨b3, 0, none⟩)), (5, .string (encS r)), (7, .string (encS s)), (31, .bool (decide (¬ keyS r = keyS s)))])
    (fun _ => [A.blk b2 (rcells r) 36, A.blk b3 (rcells s) 36]) (fun _ => True) ?_ ?_
  · refine HC.any rfl ?_
    refine HA.pa 0 rfl ?_
    refine HA.pa 1 rfl ?_
    refine HA.pa 2 rfl ?_
    first | refine HA.ga 3 rfl rfl ?_ | refine HA.na 3 rfl rfl ?_ | refine HA.nu 3 rfl rfl ?_
    first | refine HA.ga 4 rfl rfl ?_ | refine HA.na 4 rfl rfl ?_ | refine HA.nu 4 rfl rfl ?_
    refine HA.pa 5 rfl ?_
    refine HA.pa 6 rfl ?_
    refine HA.all [7, 9] (by kernel_rfl) rfl ⟨⟨_, rfl, ?_⟩, ⟨_, rfl, ?_⟩, trivial⟩
    · refine HO.one_a rfl ?_
      refine H1.ldAgg (vs := rcells r) rfl memA rfl (fun i v hv => by rw [Nat.zero_add]; exact hv) rfl ?_
      apply HA.fold
      refine HA.all [8, 9] (by kernel_rfl) rfl ⟨⟨_, rfl, ?_⟩, ⟨_, rfl, ?_⟩, trivial⟩
      · refine HO.one_a rfl ?_
        refine H1.callx (vs := [recV r]) rfl rfl (fun w' _ => key_fn r hr w') ?_
        apply HA.fold
        refine HA.all [9] (by kernel_rfl) rfl ⟨⟨_, rfl, ?_⟩, trivial⟩
        refine HO.one_a rfl ?_
        refine H1.ldAgg (vs := rcells s) rfl memA rfl (fun i v hv => by rw [Nat.zero_add]; exact hv) rfl ?_
        apply HA.fold
        refine HA.all [10] (by kernel_rfl) rfl ⟨⟨_, rfl, ?_⟩, trivial⟩
        refine HO.one_a rfl ?_
        refine H1.callx (vs := [recV s]) rfl rfl (fun w' _ => key_fn s hs w') ?_
        apply HA.fold
        first | refine HA.ga 11 rfl rfl ?_ | refine HA.na 11 rfl rfl ?_ | refine HA.nu 11 rfl rfl ?_
        refine HA.pa 12 rfl ?_
        refine HA.done (by kernel_rfl) ?_
        exact HX.cut () trivial esA (by repeat (first | exact Hs.nil _ | (refine Hs.cons pickA ?_)))
      · refine HO.one_a rfl ?_
        refine H1.ldAgg (vs := rcells s) rfl memA rfl (fun i v hv => by rw [Nat.zero_add]; exact hv) rfl ?_
        apply HA.fold
        refine HA.all [8] (by kernel_rfl) rfl ⟨⟨_, rfl, ?_⟩, trivial⟩
        refine HO.one_a rfl ?_
        refine H1.callx (vs := [recV r]) rfl rfl (fun w' _ => key_fn r hr w') ?_
        apply HA.fold
        refine HA.all [10] (by kernel_rfl) rfl ⟨⟨_, rfl, ?_⟩, trivial⟩
        refine HO.one_a rfl ?_
        refine H1.callx (vs := [recV s]) rfl rfl (fun w' _ => key_fn s hs w') ?_
        apply HA.fold
        first | refine HA.ga 11 rfl rfl ?_ | refine HA.na 11 rfl rfl ?_ | refine HA.nu 11 rfl rfl ?_
        refine HA.pa 12 rfl ?_
        refine HA.done (by kernel_rfl) ?_
        exact HX.cut () trivial esA (by repeat (first | exact Hs.nil _ | (refine Hs.cons pickA ?_)))
    · refine HO.one_a rfl ?_
      refine H1.ldAgg (vs := rcells s) rfl memA rfl (fun i v hv => by rw [Nat.zero_add]; exact hv) rfl ?_
      apply HA.fold
      refine HA.all [7] (by kernel_rfl) rfl ⟨⟨_, rfl, ?_⟩, trivial⟩
      refine HO.one_a rfl ?_
      refine H1.ldAgg (vs := rcells r) rfl memA rfl (fun i v hv => by rw [Nat.zero_add]; exact hv) rfl ?_
      apply HA.fold
      refine HA.all [8] (by kernel_rfl) rfl ⟨⟨_, rfl, ?_⟩, trivial⟩
      refine HO.one_a rfl ?_
      refine H1.callx (vs := [recV r]) rfl rfl (fun w' _ => key_fn r hr w') ?_
      apply HA.fold
      refine HA.all [10] (by kernel_rfl) rfl ⟨⟨_, rfl, ?_⟩, trivial⟩
      refine HO.one_a rfl ?_
      refine H1.callx (vs := [recV s]) rfl rfl (fun w' _ => key_fn s hs w') ?_
      apply HA.fold
      first | refine HA.ga 11 rfl rfl ?_ | refine HA.na 11 rfl rfl ?_ | refine HA.nu 11 rfl rfl ?_
      refine HA.pa 12 rfl ?_
      refine HA.done (by kernel_rfl) ?_
      exact HX.cut () trivial esA (by repeat (first | exact Hs.nil _ | (refine Hs.cons pickA ?_)))
  rintro - -
  generalize keyS r = k1 at *
  generalize keyS s = k2 at *
  generalize encS r = s1 at *
  generalize encS s = s2 at *
  have hR : ∀ x : Bool, (x = true ↔ Prev r s) → x = prevB r s := fun x h => by rw [Bool.eq_iff_iff, prevB_iff]; exact h
  by_cases c1 : k1 = k2
  rotate_left
  · have c1' : (decide (¬ k1 = k2)) = true := decide_eq_true c1
    rw [c1']
    refine hwXM ?_
    exact HX.ret1 rfl rfl fun w' hM => ⟨congrArg Value.bool (hR _ (by rw [hP]; simp [c1])), hM.ext⟩
  have c1' : (decide (¬ k1 = k2)) = false := decide_eq_false (fun h => h c1)
  rw [c1']
  by_cases c2 : s.version < r.version
  · refine hwXM ?_
    exact HX.ret1 rfl rfl fun w' hM => ⟨congrArg Value.bool (hR _ (by rw [hP]; simp [c1, c2])), hM.ext⟩
  by_cases c3 : r.version = s.version
  · refine hwXM ?_
    refine HL.pa ?_ (POp.sgtr rfl rfl)
    refine hwXM ?_
    exact HX.ret1 rfl rfl fun w' hM => ⟨congrArg Value.bool (hR _ (by rw [hP]; simp [c1, c3])), hM.ext⟩
  · refine hwXM ?_
    exact HX.ret1 rfl rfl fun w' hM => ⟨congrArg Value.bool (hR _ (by rw [hP]; simp [c2, c3])), hM.ext⟩
end Go.Sx
/- Chapter 21: what is in effect: a map by keys; maps.DeleteFunc. -/
namespace Go.Sx
open Go Go.Proofs Go.RowKit
theorem hwXN {G G2 : Prop} (x : G2) (hwq : Hold G2 → G := by
    intro hQq
    repeat' (first | apply HL.fold | apply HA.fold | apply HL.nil | apply HX.n_then | apply HC.seq | apply HC.region | refine HL.pa ?_ | refine HL.ga rfl ?_ | refine HL.na rfl ?_ | refine HL.nu rfl rfl ?_ | apply HC.block | apply HC.skip | apply HC.exit | apply HC.ret | apply HX.e_block | refine HX.e_other rfl ?_ | apply HX.e_then | apply HX.e_again | apply HX.n_block | apply HX.r_then | apply HX.r_block | apply HX.r_again | refine HC.cond_yes rfl ?_ | refine HC.cond_no rfl ?_ | refine HL.one (H1.ldb rfl memA rfl rfl ?_) | refine HC.cond rfl (fun hc => ?_) (fun hc => ?_) | refine HC.cond_b rfl (fun hc => ?_) (fun hc => ?_))
    exact hQq.get) : G := hwq ⟨x⟩
theorem Mm.mxms {w0 w : World} {b clk : Nat} {es : Array MapEntry} {L : List (ByteArray × Value)} {H : List Atom} (h : Mm w0 (A.mx b es clk :: H) w) (hl : MS L es clk) : Mm w0 (A.ms b L :: H) w := h.head rfl (by
  obtain ⟨o, h1, rfl⟩ : ∃ o, w.heap[b]? = some o ∧ o = .map es clk := h.all _ (List.Mem.head _)
  exact ⟨_, h1, es, clk, rfl, hl⟩)
theorem MS.erase {L : List (ByteArray × Value)} {es : Array MapEntry} {clk : Nat} (h : MS L es clk) (i : Nat) : MS (L.eraseIdx i) (es.eraseIdxIfInBounds i) clk := by
  refine ⟨?_, fun e he => ?_, ?_⟩
  · rw [Array.toList_eraseIdxIfInBounds, ← map_eraseIdx, h.ents, map_eraseIdx]
  · rw [Array.toList_eraseIdxIfInBounds] at he
    exact h.born e (List.mem_of_mem_eraseIdx he)
  · rw [Array.toList_eraseIdxIfInBounds]
    exact List.Nodup.sublist ((List.eraseIdx_sublist _ i).map _) h.nd
/-- Records by their keys, as a map holds them. -/
def liftM (m : List (List UInt8 × Rc)) : List (ByteArray × Value) := m.map fun p => ((⟨p.1.toArray⟩ : ByteArray), recV p.2)
theorem ba_inj {x y : List UInt8} (h : (⟨x.toArray⟩ : ByteArray) = ⟨y.toArray⟩) : x = y := by
  injection h with h
  exact List.toArray_inj h
theorem midxS_no {l : List (ByteArray × Value)} {x : ByteArray} (h : midxS l x = none) : ∀ p ∈ l, p.1 ≠ x := by
  induction l with
  | nil => intro p hp; simp at hp
  | cons q l ih =>
    obtain ⟨y, u⟩ := q
    simp only [midxS] at h
    by_cases hxy : x = y
    · rw [if_pos hxy] at h; cases h
    · rw [if_neg hxy, Option.map_eq_none_iff] at h
      intro p hp
      rcases List.mem_cons.1 hp with rfl | hp
      · exact fun e => hxy e.symm
      · exact ih h p hp
theorem midx_lift_no {m : List (List UInt8 × Rc)} {x : List UInt8} (h : midxS (liftM m) ⟨x.toArray⟩ = none) : ∀ p ∈ m, p.1 ≠ x := fun p hp e =>
  midxS_no h _ (List.mem_map.2 ⟨p, hp, rfl⟩) (by rw [e])
theorem liftM_get {m : List (List UInt8 × Rc)} {i : Nat} {x : List UInt8} {u : Value} (h : (liftM m)[i]? = some (⟨x.toArray⟩, u)) : ∃ s, u = recV s ∧ m[i]? = some (x, s) := by
  unfold liftM at h
  rw [List.getElem?_map, Option.map_eq_some_iff] at h
  obtain ⟨⟨y, s⟩, h1, h2⟩ := h
  injection h2 with h2 h3
  have := ba_inj h2
  subst this
  exact ⟨s, h3.symm, h1⟩
theorem midx_lift_some {m : List (List UInt8 × Rc)} {x : List UInt8} {i : Nat} {u : Value} (h : midxS (liftM m) ⟨x.toArray⟩ = some (i, u)) : ∃ s, u = recV s ∧ m[i]? = some (x, s) :=
  liftM_get (midxS_some u h).2.2
theorem midx_lift {m : List (List UInt8 × Rc)} (hk : (m.map Prod.fst).Nodup) {p : List UInt8 × Rc} (hp : p ∈ m) : ∃ i, m[i]? = some p ∧ midxS (liftM m) ⟨p.1.toArray⟩ = some (i, recV p.2) := by
  cases h : midxS (liftM m) ⟨p.1.toArray⟩ with
  | none => exact absurd rfl (midx_lift_no h p hp)
  | some q =>
    obtain ⟨i, u⟩ := q
    obtain ⟨s, rfl, h2⟩ := midx_lift_some h
    obtain ⟨j, hj⟩ := List.mem_iff_getElem?.1 hp
    have n1 : (m.map Prod.fst)[i]? = some p.1 := by simp [h2]
    have n2 : (m.map Prod.fst)[j]? = some p.1 := by simp [hj]
    have hlt : i < (m.map Prod.fst).length := (List.getElem?_eq_some_iff.1 n1).1
    have e := (List.getElem?_inj hlt hk).1 (n1.trans n2.symm)
    subst e
    rw [hj] at h2
    have e2 := Option.some.inj h2
    refine ⟨i, hj, ?_⟩
    rw [e2]
theorem mem_erase_at {m : List (List UInt8 × Rc)} (hk : (m.map Prod.fst).Nodup) {i : Nat} {p : List UInt8 × Rc} (hi : m[i]? = some p) (q : List UInt8 × Rc) : q ∈ m.eraseIdx i ↔ q ∈ m ∧ q ≠ p := by
  rw [List.mem_eraseIdx_iff_getElem?]
  constructor
  · rintro ⟨j, hne, hj⟩
    refine ⟨List.mem_of_getElem? hj, fun e => hne ?_⟩
    subst e
    have n1 : (m.map Prod.fst)[i]? = some q.1 := by simp [hi]
    have n2 : (m.map Prod.fst)[j]? = some q.1 := by simp [hj]
    have hlt : j < (m.map Prod.fst).length := (List.getElem?_eq_some_iff.1 n2).1
    exact (List.getElem?_inj hlt hk).1 (n2.trans n1.symm)
  · rintro ⟨hq, hne⟩
    obtain ⟨j, hj⟩ := List.mem_iff_getElem?.1 hq
    refine ⟨j, fun e => hne ?_, hj⟩
    subst e
    rw [hi] at hj
    exact (Option.some.inj hj).symm
section
variable {P : Program} {r : Option Nat} {N : Nat} {ds : List Deferred} {Q : Post} {E : Env} {w0 : World} {H : List Atom} {next : Act → World → Prop} {g : Option (Nat × Bool)}
variable {t ty k e : TypeId} {pos : String} {af : Array Edge} {x y : Operand}
theorem HL.openms {ol l : List Oper} {b : Nat} {L : List (ByteArray × Value)} (h : ∀ es clk, MS L es clk → HL P r N ds ol l Q E w0 (A.mx b es clk :: H)) : HL P r N ds ol l Q E w0 (A.ms b L :: H) := fun w hM => by
  obtain ⟨o, h1, es, clk, rfl, h2⟩ : ∃ o, w.heap[b]? = some o ∧ msP L o := hM.all _ (List.Mem.head _)
  exact h es clk h2 w (hM.head rfl ⟨_, h1, rfl⟩)
theorem H1.msdel {u : TypeId} {b clk i : Nat} {es : Array MapEntry} {L : List (ByteArray × Value)} {n : ByteArray} {v : Value} {H' : List Atom} [ht : UTy P t (.map k e)] [hk : UTy P k .string] (hx : Env.ev E x = some (.map (some b))) (hy : Env.ev E y = some (.string n))
    (hl : MS L es clk) (hi : midxS L n = some (i, v)) (hr : Rpl (A.mx b es clk) (A.mx b (es.eraseIdxIfInBounds i) clk) H H') (h : HN N ds next E w0 H') :
    H1 P r N ds next ⟨none, .call ⟨.builtin .delete, #[x, y], #[t, u]⟩, ty, pos, af, g⟩ Q E w0 H := fun w hM => by
  have hb := hM.mx hr.mem
  have hlt := (Array.getElem?_eq_some_iff.1 hb).1
  have hf := run_findKey_str (P := P) (w := w) hk.is n es.toList L hl.ents
  rw [hi] at hf
  have hrun : (Builtin.delete_ #[t, u] ty #[.map (some b), .string n]).run P w = .ok (.tuple #[]) (w.putObj b (.map (es.eraseIdxIfInBounds i) clk)) := by
    unfold Builtin.delete_
    simp [Sem.run_bind, run_underlying ht.is, Result.andThen, run_getMap hb, run_checkKey_str hk.is _ 9999 n, hf, run_setMap _ hb]
  refine W1.run (v := .tuple #[]) (w' := w.putObj b (.map (es.eraseIdxIfInBounds i) clk)) (fun a ha => ?_) rfl rfl (h _ (hM.turn hr rfl rfl rfl (by simp) (fun k _ hk' => ?_) ⟨_, World.putObj_heap_same hlt, rfl⟩ (by simp [A.mx, A.obj]) fun b' hb' => .inl hb'))
  · simp only [execOp, resolve, invoke, Go.builtin, Sem.run_bind, Sem.run_pure, Result.andThen, List.map_toArray, List.map_cons, List.map_nil, ha.ev hx, ha.ev hy, hrun]
  · exact World.putObj_heap_other (by simpa [A.mx, A.obj] using hk')
end
attribute [local irreducible] WC WL WX POp Then Again Fn NX W1 WA WO QL RP RA Yld LoopAt HC HL HX HN H1 HA HO HQ HB HP A.blk A.grow A.rd A.obj A.mp AgainH CutH
attribute [local irreducible] A.ms A.mx A.mit
theorem effect1_fn (k : ByteArray) (r : Rc) (w : World) : Fn Tryz.prog 79 #[.string k, recV r] w fun v w' => v = .bool r.gone ∧ Ext w w' := by
  refine enterH (l := [_, _]) rfl Tryz.ntmps79 rfl ?_
  refine hwXN ?_
  refine HL.one (H1.boxAgg (cs := rcells r) rfl rfl (fun b1 => ?_))
  refine hwXN ?_
  exact HX.ret1 rfl rfl fun w' hM => ⟨rfl, hM.ext⟩
set_option maxHeartbeats 1000000 in
theorem deleteFunc_fn {w0 w : World} {H : List Atom} {b : Nat} {m : List (List UInt8 × Rc)} (hM : Mm w0 (A.ms b (liftM m) :: H) w) (hk : (m.map Prod.fst).Nodup) :
    Fn Tryz.prog 78 #[.map (some b), fnV 79] w fun v w' => ∃ m', ((m'.map Prod.fst).Nodup ∧ ∀ p, p ∈ m' ↔ p ∈ m ∧ p.2.gone = false) ∧ v = .tuple #[] ∧ Mm w0 (A.ms b (liftM m') :: H) w' := by
  refine enterK (l := [_, _]) hM rfl Tryz.ntmps78 rfl ?_
  refine hwXN ?_
  refine HL.openms fun es clk hms => ?_
  refine HL.one (H1.mqrange (es := es) (clk := clk) rfl (fun w' hM => hM.mx (.head _)) rfl (fun it => ?_))
  refine hwXN ?_
  refine HC.loop (α := Array MapEntry × Array Nat × List (List UInt8 × Rc)) (fun _ => [(0, .map (some b)), (1, fnV 79), (7, .pointer (some ⟨it, 0, none⟩))])
    (fun z => A.mit it b clk z.2.1 :: A.mx b z.1 clk :: H)
    (fun z => MS (liftM z.2.2) z.1 clk ∧ (z.2.2.map Prod.fst).Nodup ∧ (∀ p ∈ z.2.2, p ∈ m) ∧ (∀ p ∈ m, p.2.gone = false → p ∈ z.2.2) ∧ ∀ e ∈ z.1.toList, e.born ∈ z.2.1 → ∀ p ∈ z.2.2, e.key = .string ⟨p.1.toArray⟩ → p.2.gone = false)
    (fun z => mleft z.1 z.2.1) (es, #[], m) ⟨hms, hk, fun _ h => h, fun _ h _ => h, fun e _ hs => absurd hs (by simp)⟩ esA (Hs.refl _) ?_
  rintro ⟨es', seen, m'⟩ ⟨hI, hk', hs1, hs2, hsn⟩
  dsimp only at hI hk' hs1 hs2 hsn ⊢
  refine hwXN ?_
  refine HL.one (H1.mqnext (H' := fun s => A.mit it b clk s :: A.mx b es' clk :: H) rfl (fun w' hM => hM.mx (.tail _ (.head _))) hI.born (fun s => Rpl.here) rfl (fun hall => ?_) (fun e he hne => ?_))
  · refine hwXN ?_
    refine HX.end0 rfl fun w' hM => ⟨m', ⟨hk', fun p => ⟨fun hp => ⟨hs1 p hp, ?_⟩, fun hp => hs2 p hp.1 hp.2⟩⟩, rfl, hM.tail.mxms hI⟩
    obtain ⟨e, he, h1, -⟩ := hI.of (List.mem_map.2 ⟨p, hp, rfl⟩)
    exact hsn e he (hall e he) p hp h1
  obtain ⟨q, hq, hkey, hval⟩ := hI.ent he
  obtain ⟨p, hp, rfl⟩ := List.mem_map.1 hq
  dsimp only at hkey hval
  have hkp : ∀ p' ∈ m', e.key = .string ⟨p'.1.toArray⟩ → p' = p := fun p' hp' h => by
    rw [hkey] at h
    injection h with h
    have h2 := ba_inj h
    obtain ⟨i, hi, -⟩ := midx_lift hk' hp
    obtain ⟨j, hj, -⟩ := midx_lift hk' hp'
    have n1 : (m'.map Prod.fst)[i]? = some p.1 := by simp [hi]
    have n2 : (m'.map Prod.fst)[j]? = some p.1 := by simp [hj, h2]
    have hlt : i < (m'.map Prod.fst).length := (List.getElem?_eq_some_iff.1 n1).1
    have e2 := (List.getElem?_inj hlt hk').1 (n1.trans n2.symm)
    subst e2
    rw [hi] at hj
    exact (Option.some.inj hj).symm
  rw [hkey, hval]
  refine hwXN ?_
  refine HL.one (H1.mqentry (e := e) rfl (fun w' hM => hM.mx (.tail _ (.head _))) he hI.nd (.head _) rfl ?_)
  rw [hkey, hval]
  refine hwXN ?_
  refine HL.one (H1.alloc (cs := rcells rcZ) rfl rfl (fun b5 => ?_))
  refine hwXN ?_
  refine HL.one (H1.stAgg (cs := rcells rcZ) (vs := rcells p.2) rfl rfl rfl (rcells_one _) rplA rfl ?_)
  refine hwXN ?_
  refine HL.one (H1.ldAgg (vs := rcells p.2) rfl memA rfl (fun i v hv => by rw [Nat.zero_add]; exact hv) rfl ?_)
  refine hwXN ?_
  refine HL.one (H1.callv0 (f := 79) (cap := []) (vs := [.string ⟨p.1.toArray⟩, recV p.2]) rfl rfl rfl (fun w' _ => effect1_fn _ p.2 w') ?_)
  have hlt := mleft_lt he hne
  cases hg : p.2.gone
  · refine hwXN ?_
    refine HX.again (es', seen.push e.born, m') ⟨hI, hk', hs1, hs2, fun e' he' hs' p' hp' h => ?_⟩ hlt esA (Hs.refl _).skip
    rcases Array.mem_push.1 hs' with h1 | h1
    · exact hsn e' he' h1 p' hp' h
    · have e1 : e' = e := stamp_inj hI.nd he' he h1
      subst e1
      rw [hkp p' hp' h]; exact hg
  · obtain ⟨i, hi, hmi⟩ := midx_lift hk' hp
    have hme := mem_erase_at hk' hi
    refine hwXN ?_
    refine HL.one (H1.msdel rfl rfl hI hmi rplA ?_)
    refine hwXN ?_
    refine HX.again (es'.eraseIdxIfInBounds i, seen.push e.born, m'.eraseIdx i) ⟨?_, ?_, fun q hq => hs1 q (List.mem_of_mem_eraseIdx hq), fun q hq h => (hme q).2 ⟨hs2 q hq h, fun e1 => ?_⟩, fun e' he' hs' p' hp' h => ?_⟩ (Nat.lt_of_le_of_lt (mleft_erase _ _ _) hlt) esA (Hs.refl _).skip
    · have := hI.erase i
      rwa [show (liftM m').eraseIdx i = liftM (m'.eraseIdx i) from map_eraseIdx _ _ _] at this
    · exact List.Nodup.sublist ((List.eraseIdx_sublist _ i).map _) hk'
    · rw [e1, hg] at h; cases h
    · dsimp only at he' hs' hp'
      rw [Array.toList_eraseIdxIfInBounds] at he'
      have he2 := List.mem_of_mem_eraseIdx he'
      have hp2 := (hme p').1 hp'
      rcases Array.mem_push.1 hs' with h1 | h1
      · exact hsn e' he2 h1 p' hp2.1 h
      · have e1 : e' = e := stamp_inj hI.nd he2 he h1
        subst e1
        exact absurd (hkp p' hp2.1 h) hp2.2
end Go.Sx
/- Chapter 21: effect: what is in effect, by keys. -/
namespace Go.Sx
open Go Go.Proofs Go.RowKit
theorem hwXO {G G2 : Prop} (x : G2) (hwq : Hold G2 → G := by
    intro hQq
    repeat' (first | apply HL.fold | apply HA.fold | apply HL.nil | apply HX.n_then | apply HC.seq | apply HC.region | refine HL.pa ?_ | refine HL.ga rfl ?_ | refine HL.na rfl ?_ | refine HL.nu rfl rfl ?_ | apply HC.block | apply HC.skip | apply HC.exit | apply HC.ret | apply HX.e_block | refine HX.e_other rfl ?_ | apply HX.e_then | apply HX.e_again | apply HX.n_block | apply HX.r_then | apply HX.r_block | apply HX.r_again | refine HC.cond_yes rfl ?_ | refine HC.cond_no rfl ?_ | refine HL.one (H1.ldb rfl memA rfl rfl ?_) | refine HC.cond rfl (fun hc => ?_) (fun hc => ?_) | refine HC.cond_b rfl (fun hc => ?_) (fun hc => ?_))
    exact hQq.get) : G := hwq ⟨x⟩
/-- A slice that reads as records. -/
def RdR (w : World) (v : Value) (l : List Rc) : Prop :=
  ∃ (a : Option Addr) (c : Nat), v = .slice a l.length c ∧ l.length ≤ c ∧ (l = [] ∨ ∃ b off, a = some ⟨b, off, none⟩ ∧ b < w.heap.size ∧ ∀ j r, l[j]? = some r → ∀ i u, (rcells r)[i]? = some u → w.cell? ⟨b, off + j * 15 + i, none⟩ = some u)
theorem RdR.ext {w w' : World} {v : Value} {l : List Rc} (h : RdR w v l) (k : Ext w w') : RdR w' v l := by
  obtain ⟨a, c, h1, h2, h3⟩ := h
  refine ⟨a, c, h1, h2, ?_⟩
  rcases h3 with h3 | ⟨b, off, h3, h5, h6⟩
  · exact .inl h3
  · exact .inr ⟨b, off, h3, Nat.lt_of_lt_of_le h5 k.size, fun j r hj i u hu => cell_ext k (h6 j r hj i u hu)⟩
theorem RdR.shape {w : World} {v : Value} {l : List Rc} (h : RdR w v l) : ∃ a c, v = .slice a l.length c ∧ l.length ≤ c := by
  obtain ⟨a, c, h1, h2, -⟩ := h
  exact ⟨a, c, h1, h2⟩
theorem RdR.at {w : World} {a : Option Addr} {n c : Nat} {l : List Rc} (h : RdR w (.slice a n c) l) (hne : l ≠ []) :
    ∃ b off, a = some ⟨b, off, none⟩ ∧ b < w.heap.size ∧ ∀ j r, l[j]? = some r → ∀ i u, (rcells r)[i]? = some u → w.cell? ⟨b, off + j * 15 + i, none⟩ = some u := by
  obtain ⟨a', c', h1, h2, h3⟩ := h
  cases h1
  rcases h3 with h3 | h3
  · exact absurd h3 hne
  · exact h3
theorem RdR.nil (w : World) (a : Option Addr) (c : Nat) : RdR w (.slice a 0 c) [] := ⟨a, c, rfl, Nat.zero_le _, .inl rfl⟩
def rcl (l : List Rc) : List Value := l.flatMap rcells
theorem rcells_len (r : Rc) : (rcells r).length = 15 := rfl
theorem rcl_len : ∀ l : List Rc, (rcl l).length = l.length * 15
  | [] => rfl
  | r :: l => by
    have := rcl_len l
    unfold rcl at this ⊢
    rw [List.flatMap_cons, List.length_append, rcells_len, this, List.length_cons]; omega
theorem rcl_one (l : List Rc) : ∀ u ∈ rcl l, u.oneCell' = true := fun u hu => by
  obtain ⟨p, -, h⟩ := List.mem_flatMap.1 hu
  exact rcells_one p u h
theorem rcl_app (l m : List Rc) : rcl (l ++ m) = rcl l ++ rcl m := by unfold rcl; rw [List.flatMap_append]
theorem rcl_get {l : List Rc} : ∀ {j : Nat} {p : Rc}, l[j]? = some p → ∀ (i : Nat) (v : Value), (rcells p)[i]? = some v → (rcl l)[j * 15 + i]? = some v := by
  induction l with
  | nil => intro j p h; simp at h
  | cons q l ih =>
    intro j p h i v hv
    have e : rcl (q :: l) = rcells q ++ rcl l := rfl
    rw [e]
    cases j with
    | zero =>
      simp only [List.getElem?_cons_zero, Option.some.injEq] at h
      subst h
      rw [Nat.zero_mul, Nat.zero_add, List.getElem?_append_left (List.getElem?_eq_some_iff.1 hv).1]
      exact hv
    | succ j =>
      rw [List.getElem?_cons_succ] at h
      have h1 := ih h i v hv
      rw [List.getElem?_append_right (by rw [rcells_len]; omega), rcells_len, show (j + 1) * 15 + i - 15 = j * 15 + i by omega]
      exact h1
theorem RdR.of_owns {w : World} {base : Nat} {e : TypeId} {v : Value} {l : List Rc} (h : w.ownsRow base e 15 v l.length (rcl l)) : RdR w v l := by
  rcases h.2 with ⟨rfl, h0⟩ | ⟨g, cap, cur, rfl, hbg, hg, hnc, hcm, hcs, htake⟩
  · obtain rfl := List.eq_nil_of_length_eq_zero h0
    exact RdR.nil w none 0
  · refine ⟨_, _, rfl, hnc, .inr ⟨g, 0, rfl, (Array.getElem?_eq_some_iff.1 hg).1, fun j r hj i u hu => ?_⟩⟩
    have h1 := h.cells (g := g) rfl (j * 15 + i) u (rcl_get hj i u hu)
    rw [add_lit] at h1
    rw [Nat.zero_add]
    rw [Nat.zero_add] at h1
    exact h1
theorem Mm.recs {w0 w : World} {H : List Atom} {e : TypeId} {c : Nat} {a : Option Addr} {l : List Rc} (h : Mm w0 H w) (hm : A.grow e 15 a c l.length (rcl l) ∈ H) : RdR w (.slice a l.length c) l := RdR.of_owns (h.own hm)
theorem RdR.of_blk {w : World} {b : Nat} {e : TypeId} {l : List Rc} (h : Blk w b (rcl l) e) : RdR w (.slice (some ⟨b, 0, none⟩) l.length l.length) l :=
  ⟨_, _, rfl, Nat.le_refl _, .inr ⟨b, 0, rfl, (Array.getElem?_eq_some_iff.1 h).1, fun j r hj i u hu => by rw [Nat.zero_add]; exact h.cell (rcl_get hj i u hu)⟩⟩
/-- What is in effect, by its keys. -/
structure EffG (l : List Rc) (day : Int) (m : List (List UInt8 × Rc)) : Prop where
  nd : (m.map Prod.fst).Nodup
  key : ∀ p ∈ m, p.1 = keyR p.2
  mem : ∀ r, (∃ p ∈ m, p.2 = r) ↔ Top l day r ∧ r.gone = false
theorem EffM.gone {l : List Rc} {day : Int} {m m' : List (List UInt8 × Rc)} (h : EffM l day m) (hn : (m'.map Prod.fst).Nodup) (hm : ∀ p, p ∈ m' ↔ p ∈ m ∧ p.2.gone = false) : EffG l day m' := by
  refine ⟨hn, fun p hp => (h.top p ((hm p).1 hp).1).1, fun r => ⟨?_, ?_⟩⟩
  · rintro ⟨p, hp, rfl⟩
    have := (hm p).1 hp
    exact ⟨(h.top p this.1).2, this.2⟩
  · rintro ⟨ht, hg⟩
    obtain ⟨p, hp, rfl⟩ := (h.has r).2 ht
    exact ⟨p, (hm p).2 ⟨hp, hg⟩, rfl⟩
attribute [local irreducible] WC WL WX POp Then Again Fn NX W1 WA WO QL RP RA Yld LoopAt HC HL HX HN H1 HA HO HQ HB HP A.blk A.grow A.rd A.obj A.mp AgainH CutH
attribute [local irreducible] A.ms A.mx A.mit
set_option maxHeartbeats 2000000 in
theorem effect_fn (a : Option Addr) (c : Nat) (l : List Rc) (hl : l.length ≤ 1000000) (hok : ∀ r ∈ l, RcOk r) (day : Int) (w : World) (hR : RdR w (.slice a l.length c) l) :
    Fn Tryz.prog 31 #[.slice a l.length c, zv day] w fun v w' => ∃ z : Nat × List (List UInt8 × Rc), EffG l day z.2 ∧ v = .map (some z.1) ∧ Mm w [A.ms z.1 (liftM z.2)] w' := by
  refine enterH (l := [_, _]) rfl Tryz.ntmps31 rfl ?_
  refine hwXO ?_
  refine HL.one (H1.mkms rfl (fun b => ?_))
  refine hwXO ?_
  refine HC.loop (α := Nat × List (List UInt8 × Rc)) (fun z => [(1, zv day), (5, .map (some b)), (12, .slice a l.length c), (13, zv (l.length : Int)), (14, zv (z.1 : Int))])
    (fun z => [A.ms b (liftM z.2)]) (fun z => z.1 ≤ l.length ∧ EffM (l.take z.1) day z.2) (fun z => l.length - z.1) (0, []) ⟨Nat.zero_le _, by rw [List.take_zero]; exact EffM.nil day⟩ esA (by repeat (first | exact Hs.nil _ | (refine Hs.cons pickA ?_))) ?_
  rintro ⟨j, m⟩ ⟨hj, hI⟩
  dsimp only at hj hI ⊢
  by_cases hlt : j < l.length
  rotate_left
  · obtain rfl : j = l.length := by omega
    rw [List.take_length] at hI
    refine hwXO ?_
    refine HL.one (H1.callk (α := List (List UInt8 × Rc)) (V := fun _ => .tuple #[]) (I := fun m' => (m'.map Prod.fst).Nodup ∧ ∀ p, p ∈ m' ↔ p ∈ m ∧ p.2.gone = false) (H' := fun m' => [A.ms b (liftM m')]) (vs := [.map (some b), fnV 79]) rfl rfl (fun w' hM => deleteFunc_fn hM hI.nd) ?_)
    rintro m' ⟨h1, h2⟩
    refine hwXO ?_
    exact HX.ret1 rfl rfl fun w' hM => ⟨(b, m'), hI.gone h1 h2, rfl, hM⟩
  obtain ⟨r, hr⟩ : ∃ r, l[j]? = some r := ⟨_, List.getElem?_eq_getElem hlt⟩
  have hrok := hok r (List.mem_of_getElem? hr)
  have htk : l.take (j + 1) = l.take j ++ [r] := by rw [List.take_add_one, hr]; rfl
  obtain ⟨bl, off, rfl, -, hcell⟩ := hR.at (fun e => by rw [e] at hlt; exact absurd hlt (Nat.not_lt_zero _))
  have hcl := hcell j r hr
  clear hcell
  refine hwXO ?_
  refine HL.one (H1.ldAggw (vs := rcells r) rfl rfl (fun w' hM i v hv => cell_ext hM.ext (hcl i v hv)) rfl ?_)
  refine hwXO ?_
  refine HL.one (H1.alloc (cs := rcells rcZ) rfl rfl (fun b7 => ?_))
  refine hwXO ?_
  refine HL.one (H1.stAgg (cs := rcells rcZ) (vs := rcells r) rfl rfl rfl (rcells_one r) rplA rfl ?_)
  refine hwXO ?_
  refine HL.one (H1.ldAgg (vs := rcells r) rfl memA rfl (fun i v hv => by rw [Nat.zero_add]; exact hv) rfl ?_)
  refine hwXO ?_
  refine HL.one (H1.callx (vs := [recV r]) rfl rfl (fun w' _ => valid_fn r hrok w') ?_)
  by_cases hv : ValidR r
  rotate_left
  · rw [validB_no hv]
    refine hwXO ?_
    exact HX.again (j + 1, m) ⟨hlt, by show EffM (l.take (j + 1)) day m; rw [htk]; exact hI.skip fun h => hv h.1⟩ (by show l.length - (j + 1) < l.length - j; omega) esA (by repeat (first | exact Hs.nil _ | (refine Hs.cons pickA ?_)))
  rw [validB_yes hv]
  by_cases hd : day < r.day
  · refine hwXO ?_
    exact HX.again (j + 1, m) ⟨hlt, by show EffM (l.take (j + 1)) day m; rw [htk]; exact hI.skip fun h => by have := h.2; omega⟩ (by show l.length - (j + 1) < l.length - j; omega) esA (by repeat (first | exact Hs.nil _ | (refine Hs.cons pickA ?_)))
  have hnow : Now day r := ⟨hv, by omega⟩
  refine hwXO ?_
  refine HL.one (H1.ldAgg (vs := rcells r) rfl memA rfl (fun i v hv => by rw [Nat.zero_add]; exact hv) rfl ?_)
  refine hwXO ?_
  refine HL.one (H1.callx (vs := [recV r]) rfl rfl (fun w' _ => key_fn r hrok w') ?_)
  rw [keyS_yes hv]
  refine hwXO ?_
  refine HL.one (H1.msget2 rfl rfl memA rfl ?_)
  have hget := midxS_get (liftM m) ⟨(keyR r).toArray⟩
  cases hx : midxS (liftM m) ⟨(keyR r).toArray⟩ with
  | none =>
    rw [hx, Option.map_none] at hget
    rw [← hget, Option.getD_none, Option.isSome_none]
    have hset := midxS_none (recV r) hx
    have hno := midx_lift_no hx
    refine hwXO ?_
    refine HL.one (H1.alloc (cs := rcells rcZ) rfl rfl (fun b9 => ?_))
    refine hwXO ?_
    refine HL.one (H1.stAgg (cs := rcells rcZ) (vs := rcells rcZ) rfl rfl rfl (rcells_one _) rplA rfl ?_)
    refine hwXO ?_
    refine HL.one (H1.ldAgg (vs := rcells r) rfl memA rfl (fun i v hv => by rw [Nat.zero_add]; exact hv) rfl ?_)
    refine hwXO ?_
    refine HL.one (H1.msset rfl rfl rfl rplA ?_)
    rw [hset, show liftM m ++ [((⟨(keyR r).toArray⟩ : ByteArray), recV r)] = liftM (m ++ [(keyR r, r)]) from by unfold liftM; rw [List.map_append]; rfl]
    refine hwXO ?_
    exact HX.again (j + 1, m ++ [(keyR r, r)]) ⟨hlt, by show EffM (l.take (j + 1)) day _; rw [htk]; exact hI.add hnow hno⟩ (by show l.length - (j + 1) < l.length - j; omega) esA (by repeat (first | exact Hs.nil _ | (refine Hs.cons pickA ?_)))
  | some q =>
    obtain ⟨i, u⟩ := q
    rw [hx, Option.map_some] at hget
    rw [← hget, Option.getD_some, Option.isSome_some]
    have hset := (midxS_some (recV r) hx).1
    obtain ⟨s, rfl, hs⟩ := midx_lift_some hx
    have hsm := List.mem_of_getElem? hs
    have hsok : RcOk s := hok s (List.mem_of_mem_take (hI.top _ hsm).2.mem)
    refine hwXO ?_
    refine HL.one (H1.alloc (cs := rcells rcZ) rfl rfl (fun b9 => ?_))
    refine hwXO ?_
    refine HL.one (H1.stAgg (cs := rcells rcZ) (vs := rcells s) rfl rfl rfl (rcells_one _) rplA rfl ?_)
    refine hwXO ?_
    refine HL.one (H1.ldAgg (vs := rcells r) rfl memA rfl (fun i v hv => by rw [Nat.zero_add]; exact hv) rfl ?_)
    refine hwXO ?_
    refine HL.one (H1.ldAgg (vs := rcells s) rfl memA rfl (fun i v hv => by rw [Nat.zero_add]; exact hv) rfl ?_)
    refine hwXO ?_
    refine HL.one (H1.callx (vs := [recV r, recV s]) rfl rfl (fun w' _ => prevails_fn r s hrok hsok w') ?_)
    by_cases hp : Prev r s
    · rw [prevB_yes hp]
      refine hwXO ?_
      refine HL.one (H1.ldAgg (vs := rcells r) rfl memA rfl (fun i v hv => by rw [Nat.zero_add]; exact hv) rfl ?_)
      refine hwXO ?_
      refine HL.one (H1.msset rfl rfl rfl rplA ?_)
      rw [hset, show (liftM m).set i ((⟨(keyR r).toArray⟩ : ByteArray), recV r) = liftM (m.set i (keyR r, r)) from by unfold liftM; rw [List.map_set]]
      refine hwXO ?_
      exact HX.again (j + 1, m.set i (keyR r, r)) ⟨hlt, by show EffM (l.take (j + 1)) day _; rw [htk]; exact hI.put hnow hs hp⟩ (by show l.length - (j + 1) < l.length - j; omega) esA (by repeat (first | exact Hs.nil _ | (refine Hs.cons pickA ?_)))
    · rw [prevB_no hp]
      refine hwXO ?_
      exact HX.again (j + 1, m) ⟨hlt, by show EffM (l.take (j + 1)) day m; rw [htk]; exact hI.keep hsm rfl hp⟩ (by show l.length - (j + 1) < l.length - j; omega) esA (by repeat (first | exact Hs.nil _ | (refine Hs.cons pickA ?_)))
end Go.Sx
/- Chapter 21: the lists of a base. -/
namespace Go.Sx
open Go Go.Proofs Go.RowKit
theorem hwXP {G G2 : Prop} (x : G2) (hwq : Hold G2 → G := by
    intro hQq
    repeat' (first | apply HL.fold | apply HA.fold | apply HL.nil | apply HX.n_then | apply HC.seq | apply HC.region | refine HL.pa ?_ | refine HL.ga rfl ?_ | refine HL.na rfl ?_ | refine HL.nu rfl rfl ?_ | apply HC.block | apply HC.skip | apply HC.exit | apply HC.ret | apply HX.e_block | refine HX.e_other rfl ?_ | apply HX.e_then | apply HX.e_again | apply HX.n_block | apply HX.r_then | apply HX.r_block | apply HX.r_again | refine HC.cond_yes rfl ?_ | refine HC.cond_no rfl ?_ | refine HL.one (H1.ldb rfl memA rfl rfl ?_) | refine HC.cond rfl (fun hc => ?_) (fun hc => ?_) | refine HC.cond_b rfl (fun hc => ?_) (fun hc => ?_))
    exact hQq.get) : G := hwq ⟨x⟩
theorem POp.idxArr {P : Program} {N : Nat} {ds : List Deferred} {E : Env} {t ty : TypeId} {x y : Operand} {len : Nat} {e : TypeId} {z v : Value} {bb i : Nat} {cs : List Value} {k : IntKind} {n : Int} [h : UTy P t (.array len e)] [hi : ITy P e z 1 bb] [ha' : ATy P e false]
    (hx : Env.ev E x = some (.agg cs.toArray)) (hy : Env.ev E y = some (.int k n)) (en : n = (i : Int)) (hv : cs[i]? = some v) (hl : i < len) : POp P N ds E (.index t x y) ty v := fun ac ha d pos af g w => by
  subst en
  have h2 : 0 ≤ (i : Int) ∧ (i : Int) < (len : Int) := by omega
  simp [execOp, ha.ev hx, ha.ev hy, Instr.index, asIntOf, run_underlying h.is, Sem.run_bind, run_sizeOf, hl, part, run_isAgg, hv, Result.andThen]
/-- The number that counts, by kind. -/
def numK (r : Rc) : Int := if r.kind = 2 then r.clause else if r.kind = 6 then r.party else r.id
theorem numK_numR (r : Rc) : numK r = numR r := by
  unfold numK numR keyF
  split
  · rfl
  · split <;> rfl
abbrev ptrs (b : Nat) : List Value := [.pointer none, .pointer (some ⟨b, 0, none⟩), .pointer (some ⟨b, 1, none⟩), .pointer (some ⟨b, 2, none⟩), .pointer (some ⟨b, 3, none⟩), .pointer (some ⟨b, 4, none⟩), .pointer (some ⟨b, 5, none⟩), .pointer (some ⟨b, 6, none⟩), .pointer (some ⟨b, 7, none⟩)]
theorem ptrs_at (b : Nat) {i : Nat} (h : i < 8) : (ptrs b)[i + 1]? = some (.pointer (some ⟨b, i, none⟩)) := by
  rcases (show i = 0 ∨ i = 1 ∨ i = 2 ∨ i = 3 ∨ i = 4 ∨ i = 5 ∨ i = 6 ∨ i = 7 by omega) with rfl | rfl | rfl | rfl | rfl | rfl | rfl | rfl <;> rfl
attribute [local irreducible] WC WL WX POp Then Again Fn NX W1 WA WO QL RP RA Yld LoopAt HC HL HX HN H1 HA HO HQ HB HP A.blk A.grow A.rd A.obj A.mp AgainH CutH
theorem list_fn (b i : Nat) (hi : i < 8) (w : World) : Fn Tryz.prog 32 #[.pointer (some ⟨b, 0, none⟩), zv ((i : Int) + 1)] w fun v w' => v = .pointer (some ⟨b, i, none⟩) ∧ Ext w w' := by
  refine enterH (l := [_, _]) rfl Tryz.ntmps32 rfl ?_
  have hp := ptrs_at b hi
  refine hwXP ?_
  refine HC.quietS [(some 5, [0], []), (some 6, [5], [0]), (some 7, [6], [1]), (some 8, [0], []), (some 9, [8], [3]), (some 10, [9], [4]), (some 11, [0], []), (some 12, [11], [6]), (some 13, [12], [7]), (some 14, [0], []), (some 15, [14], [9]), (some 16, [15], [10]), (some 17, [0], []), (some 18, [17], [12]), (some 19, [18], [13]), (some 20, [0], []), (some 21, [20], [15]), (some 22, [21], [16]), (some 23, [0], []), (some 24, [23], [18]), (some 25, [24], [19]), (some 26, [0], []), (some 27, [26], [21]), (some 28, [27], [22]), (some 29, [7, 10, 13, 16, 19, 22, 25, 28], [2, 5, 8, 11, 14, 17, 20, 23]), (some 30, [1], []), (some 31, [29, 30], [24, 25]), (some 4, [31], [26, 0, 1, 2, 3, 4, 5, 6, 7, 8, 9, 10, 11, 12, 13, 14, 15, 16, 17, 18, 19, 20, 21, 22, 23, 24, 25, 26])] (by kernel_rfl) (by kernel_rfl) (by kernel_rfl) ?_
  repeat' (first | refine HQ.pa ?_ | refine HQ.ga rfl ?_ | refine HQ.na rfl ?_ | refine HQ.nu rfl ?_ | refine HQ.ldb rfl memA rfl rfl ?_)
  refine HQ.pa ?_ (POp.nilCheck rfl)
  repeat' (first | refine HQ.pa ?_ | refine HQ.ga rfl ?_ | refine HQ.na rfl ?_ | refine HQ.nu rfl ?_ | refine HQ.ldb rfl memA rfl rfl ?_)
  refine HQ.pa ?_ (POp.nilCheck rfl)
  repeat' (first | refine HQ.pa ?_ | refine HQ.ga rfl ?_ | refine HQ.na rfl ?_ | refine HQ.nu rfl ?_ | refine HQ.ldb rfl memA rfl rfl ?_)
  refine HQ.pa ?_ (POp.nilCheck rfl)
  repeat' (first | refine HQ.pa ?_ | refine HQ.ga rfl ?_ | refine HQ.na rfl ?_ | refine HQ.nu rfl ?_ | refine HQ.ldb rfl memA rfl rfl ?_)
  refine HQ.pa ?_ (POp.nilCheck rfl)
  repeat' (first | refine HQ.pa ?_ | refine HQ.ga rfl ?_ | refine HQ.na rfl ?_ | refine HQ.nu rfl ?_ | refine HQ.ldb rfl memA rfl rfl ?_)
  refine HQ.pa ?_ (POp.nilCheck rfl)
  repeat' (first | refine HQ.pa ?_ | refine HQ.ga rfl ?_ | refine HQ.na rfl ?_ | refine HQ.nu rfl ?_ | refine HQ.ldb rfl memA rfl rfl ?_)
  refine HQ.pa ?_ (POp.nilCheck rfl)
  repeat' (first | refine HQ.pa ?_ | refine HQ.ga rfl ?_ | refine HQ.na rfl ?_ | refine HQ.nu rfl ?_ | refine HQ.ldb rfl memA rfl rfl ?_)
  refine HQ.pa ?_ (POp.nilCheck rfl)
  repeat' (first | refine HQ.pa ?_ | refine HQ.ga rfl ?_ | refine HQ.na rfl ?_ | refine HQ.nu rfl ?_ | refine HQ.ldb rfl memA rfl rfl ?_)
  refine HQ.pa ?_ (POp.nilCheck rfl)
  repeat' (first | refine HQ.pa ?_ | refine HQ.ga rfl ?_ | refine HQ.na rfl ?_ | refine HQ.nu rfl ?_ | refine HQ.ldb rfl memA rfl rfl ?_)
  refine HQ.pa ?_ (POp.build (cs := ptrs b) rfl rfl)
  repeat' (first | refine HQ.pa ?_ | refine HQ.ga rfl ?_ | refine HQ.na rfl ?_ | refine HQ.nu rfl ?_ | refine HQ.ldb rfl memA rfl rfl ?_)
  refine HQ.pa ?_ (POp.idxArr (cs := ptrs b) (i := i + 1) rfl rfl (by push_cast; rfl) hp (by omega))
  repeat' (first | refine HQ.pa ?_ | refine HQ.ga rfl ?_ | refine HQ.na rfl ?_ | refine HQ.nu rfl ?_ | refine HQ.ldb rfl memA rfl rfl ?_)
  refine HQ.nil ?_
  refine hwXP ?_
  exact HX.ret1 rfl rfl fun w' hM => ⟨rfl, hM.ext⟩
end Go.Sx
/-
  DERIVED: THE SHELF's CONTRACTS AT THIS DUMP, IN PLAIN WORDS (tools/lay-plain.mjs out of 'TryzShelf2.lean', which tools/lay-shelf.mjs wrote): THE SAME DECLARATIONS UNDER THE SAME NAMES: 'import', 'namespace', 'open', 'def', 'theorem' AND NOTHING ELSE: no command of the shelf's: FOR A HAND-IN. Each laying: the table of numbers ('.._ren') and one theorem, a field a fact of the dump's own or the kernel's comparison; each contract: ONE APPLICATION.
-/
namespace Go.Proofs
open Go.Shelf
def Tryz.sortR_ren : Go.Shelf.Ren := ⟨fun | 6 => 33 | 15 => 81 | 14 => 80 | 28 => 162 | 29 => 163 | 20 => 154 | 21 => 155 | 22 => 156 | 23 => 157 | 24 => 158 | 25 => 159 | 26 => 160 | 27 => 161 | 46 => 229 | 47 => 230 | 48 => 231 | 49 => 232 | 50 => 233 | 57 => 266 | n => n, fun | 22 => 27 | 24 => 36 | 25 => 94 | 3 => 3 | 39 => 176 | 0 => 0 | 53 => 242 | 55 => 244 | 4 => 4 | 46 => 236 | 45 => 235 | 50 => 73 | 5 => 5 | 9 => 9 | 66 => 294 | 70 => 230 | 76 => 326 | 77 => 84 | n => n, fun | n => n⟩
theorem Tryz.sortR : Go.Proofs.SlLaysF0.n6 Tryz.prog Tryz.sortR_ren := {
  mixed := by kernel_rfl
  f6 := ⟨Tryz.f33.name, by decide, Tryz.func33.trans (congrArg some (by kernel_rfl))⟩
  f14 := ⟨Tryz.f80.name, by decide, Tryz.func80.trans (congrArg some (by kernel_rfl))⟩
  f15 := Tryz.func81.trans (congrArg some (by kernel_rfl))
  f20 := ⟨Tryz.f154.name, by decide, Tryz.func154.trans (congrArg some (by kernel_rfl))⟩
  f21 := ⟨Tryz.f155.name, by decide, Tryz.func155.trans (congrArg some (by kernel_rfl))⟩
  f22 := ⟨Tryz.f156.name, by decide, Tryz.func156.trans (congrArg some (by kernel_rfl))⟩
  f23 := ⟨Tryz.f157.name, by decide, Tryz.func157.trans (congrArg some (by kernel_rfl))⟩
  f24 := ⟨Tryz.f158.name, by decide, Tryz.func158.trans (congrArg some (by kernel_rfl))⟩
  f25 := ⟨Tryz.f159.name, by decide, Tryz.func159.trans (congrArg some (by kernel_rfl))⟩
  f26 := ⟨Tryz.f160.name, by decide, Tryz.func160.trans (congrArg some (by kernel_rfl))⟩
  f27 := ⟨Tryz.f161.name, by decide, Tryz.func161.trans (congrArg some (by kernel_rfl))⟩
  f28 := Tryz.func162.trans (congrArg some (by kernel_rfl))
  f29 := Tryz.func163.trans (congrArg some (by kernel_rfl))
  f46 := ⟨Tryz.f229.name, by decide, Tryz.func229.trans (congrArg some (by kernel_rfl))⟩
  f47 := Tryz.func230.trans (congrArg some (by kernel_rfl))
  f48 := Tryz.func231.trans (congrArg some (by kernel_rfl))
  f49 := ⟨Tryz.f232.name, by decide, Tryz.func232.trans (congrArg some (by kernel_rfl))⟩
  f50 := ⟨Tryz.f233.name, by decide, Tryz.func233.trans (congrArg some (by kernel_rfl))⟩
  f57 := ⟨Tryz.f266.name, by decide, Tryz.func266.trans (congrArg some (by kernel_rfl))⟩
  t0 := Tryz.underlying0
  a0 := Tryz.isAgg0
  z0 := Tryz.sizeOf0
  v0 := Tryz.zeroValue0
  t3 := Tryz.underlying3
  a3 := Tryz.isAgg3
  z3 := Tryz.sizeOf3
  v3 := Tryz.zeroValue3
  t4 := Tryz.underlying4
  a4 := Tryz.isAgg4
  z4 := Tryz.sizeOf4
  v4 := Tryz.zeroValue4
  t5 := Tryz.underlying5
  a5 := Tryz.isAgg5
  z5 := Tryz.sizeOf5
  v5 := Tryz.zeroValue5
  t9 := Tryz.underlying9
  a9 := Tryz.isAgg9
  z9 := Tryz.sizeOf9
  v9 := Tryz.zeroValue9
  t22 := Tryz.underlying27
  a22 := Tryz.isAgg27
  z22 := Tryz.sizeOf27
  v22 := Tryz.zeroValue27
  t25 := Tryz.underlying94
  a25 := Tryz.isAgg94
  z25 := Tryz.sizeOf94
  v25 := Tryz.zeroValue94
  t39 := Tryz.underlying176
  a39 := Tryz.isAgg176
  z39 := Tryz.sizeOf176
  v39 := Tryz.zeroValue176
  t45 := Tryz.underlying235
  a45 := Tryz.isAgg235
  z45 := Tryz.sizeOf235
  v45 := Tryz.zeroValue235
  t46 := Tryz.underlying236
  a46 := Tryz.isAgg236
  z46 := Tryz.sizeOf236
  v46 := Tryz.zeroValue236
  t50 := Tryz.underlying73
  a50 := Tryz.isAgg73
  z50 := Tryz.sizeOf73
  v50 := Tryz.zeroValue73
  t53 := Tryz.underlying242
  a53 := Tryz.isAgg242
  z53 := Tryz.sizeOf242
  v53 := Tryz.zeroValue242
  t55 := Tryz.underlying244
  a55 := Tryz.isAgg244
  z55 := Tryz.sizeOf244
  v55 := Tryz.zeroValue244
  t66 := Tryz.underlying294
  a66 := Tryz.isAgg294
  z66 := Tryz.sizeOf294
  v66 := Tryz.zeroValue294
  t70 := Tryz.underlying230
  a70 := Tryz.isAgg230
  z70 := Tryz.sizeOf230
  v70 := Tryz.zeroValue230
  t76 := Tryz.underlying326
  a76 := Tryz.isAgg326
  z76 := Tryz.sizeOf326
  v76 := Tryz.zeroValue326
  t77 := Tryz.underlying84
  a77 := Tryz.isAgg84
  z77 := Tryz.sizeOf84
  v77 := Tryz.zeroValue84 }
end Go.Proofs
/- Sorting by a function that is given: worlds that are known but for draws and new blocks. -/
namespace Go.Sx
open Go Go.Proofs Go.RowKit
/-- Nothing but draws and new blocks. -/
def Gr (W w : World) : Prop := ∃ q os, w = Go.Sort.grow (W.drewN q) os
theorem Gr.refl (W : World) : Gr W W := ⟨0, #[], by simp [Go.Sort.grow, World.drewN]⟩
theorem Gr.trans {W w w' : World} (h : Gr W w) (k : Gr w w') : Gr W w' := by
  obtain ⟨q, os, rfl⟩ := h
  obtain ⟨q', os', rfl⟩ := k
  exact ⟨q + q', os ++ os', by simp [Go.Sort.grow, World.drewN, Array.append_assoc, Nat.add_assoc]⟩
theorem Gr.alloc {W w : World} (h : Gr W w) (o : Obj) : Gr W (w.alloc o) := h.trans ⟨0, #[o], by rw [Go.Sort.alloc_eq_grow]; rfl⟩
theorem Gr.drew {W w : World} (h : Gr W w) : Gr W w.drew := h.trans ⟨1, #[], by show w.drew = { w with heap := w.heap ++ #[], drawn := w.drawn + 1 }; rw [Array.append_empty]; rfl⟩
theorem WC.anyE {P : Program} {N : Nat} {ds : List Deferred} {Q : Post} {E : Env} {w : World} [hm : Mixed P] {id : Nat} {l : List Oper} {fuel : Nat} (hf : l.length = fuel) (h : WA P N ds l fuel (Array.replicate l.length false) Q E w.drew) :
    WC P none N ds (.region id l.toArray true) Q E w := fun a ha =>
  wpIn_region_any hm.is (by subst hf; simpa using h a ha)
theorem compareG (x y : Int) (W : World) : Fn Tryz.prog 35 #[zv x, zv y] W fun v w' => v = zv (Lib.compareInt x y) ∧ Gr W w' :=
  Calls.mono (Tryz.cmp_Compare_int x y W) (by
    rintro e w' ⟨rfl, rfl⟩
    exact ⟨_, rfl, rfl, Gr.refl _⟩)
theorem Gr.ext {W w : World} (h : Gr W w) : Ext W w := by
  obtain ⟨q, os, rfl⟩ := h
  refine ⟨rfl, rfl, rfl, by simp [Go.Sort.grow, World.drewN], fun k hk => ?_⟩
  show (W.heap ++ os)[k]? = _
  rw [Array.getElem?_append, if_pos hk]
theorem arr_at {F : Array Value} {i : Nat} (h : i < F.size) : F.toList[i]? = some F[i]! := by rw [Array.getElem?_toList, Array.getElem?_eq_getElem h, getElem!_pos F i h]
theorem putCells_id (F cur : Array Value) (h : F.size ≤ cur.size) : (Go.Sort.putCells id 0 F cur).toList.take F.size = F.toList := by
  apply List.ext_getElem?
  intro i
  rw [List.getElem?_take]
  by_cases hi : i < F.size
  · have hi2 : i < cur.size := by omega
    simp [Go.Sort.putCells, hi2, hi]
  · rw [if_neg hi, List.getElem?_eq_none (by rw [Array.length_toList]; omega)]
end Go.Sx
/- Chapter 21: slices.SortFunc at records. -/
namespace Go.Sx
open Go Go.Proofs Go.RowKit
instance : Inhabited Rc := ⟨rcZ⟩
theorem rc_at {l : List Rc} {j : Nat} (h : j < l.length) : l[j]? = some l.toArray[j]! := by simp [h]
theorem flatK_rcl (l : List Rc) : (Go.Sort.flatK rcells 15 l.toArray).toList = rcl l := by
  apply List.ext_getElem?
  intro t
  have hsz : (Go.Sort.flatK rcells 15 l.toArray).size = l.length * 15 := by simp [Go.Sort.flatK]
  by_cases ht : t < l.length * 15
  · have h1 := Go.Sort.get_flatK rcells 15 l.toArray t (by simpa using ht)
    have hj : t / 15 < l.length := by omega
    have hm : t % 15 < 15 := Nat.mod_lt _ (by decide)
    have h2 : (rcells l.toArray[t / 15]!)[t % 15]? = some (rcells l.toArray[t / 15]!)[t % 15]! := by
      rw [List.getElem!_eq_getElem?_getD, List.getElem?_eq_getElem (by rw [rcells_len]; exact hm)]; rfl
    have h3 := rcl_get (rc_at hj) (t % 15) _ h2
    rw [show t / 15 * 15 + t % 15 = t by omega] at h3
    rw [h3, ← h1]
    have ht' : t < (Go.Sort.flatK rcells 15 l.toArray).size := by omega
    exact arr_at ht'
  · rw [List.getElem?_eq_none (by rw [Array.length_toList, hsz]; omega), List.getElem?_eq_none (by rw [rcl_len]; omega)]
def cfN (x y : Rc) : Int := Lib.compareInt (numK x) (numK y)
theorem ltN (x y : Rc) : ltOf cfN x y = decide (numK x < numK y) := by
  unfold ltOf cfN Lib.compareInt
  by_cases h1 : numK x < numK y
  · simp [h1]
  · by_cases h2 : numK y < numK x <;> simp [h1, h2]
theorem swoN : Go.Sort.SWO (ltOf cfN) where
  irrefl x := by rw [ltN]; simp
  trans x y z h1 h2 := by rw [ltN] at *; simp at *; omega
  ntrans x y z h1 h2 := by rw [ltN] at *; simp at *; omega
attribute [local irreducible] WC WL WX POp Then Again Fn NX W1 WA WO QL RP RA Yld LoopAt
theorem numberG (r : Rc) (W : World) : Fn Tryz.prog 36 #[recV r] W fun v w' => v = zv (numK r) ∧ Gr W w' := by
  refine enter (l := [_]) rfl Tryz.ntmps36 rfl ?_
  repeat' (first | apply WL.fold | apply WA.fold | apply WL.nil | apply WX.n_then | apply WC.seq | apply WC.region | refine WL.pa ?_ | refine WL.ga rfl ?_ | refine WL.na rfl ?_ | refine WL.nu rfl rfl ?_ | apply WC.block | apply WC.skip | apply WC.exit | apply WC.ret | apply WX.e_block | refine WX.e_other rfl ?_ | apply WX.e_then | apply WX.e_again | apply WX.n_block | apply WX.r_then | apply WX.r_block | apply WX.r_again | refine WC.cond_yes rfl ?_ | refine WC.cond_no rfl ?_ | refine WC.cond rfl (fun hc => ?_) (fun hc => ?_) | refine WC.cond_b rfl (fun hc => ?_) (fun hc => ?_))
  refine WL.one (W1.box (v := recV r) rfl rfl ?_)
  apply WL.fold
  have hc : ∀ i v, (rcells r)[i]? = some v → (W.alloc (.cells (recV r).cells 36)).cell? ⟨W.heap.size, i, none⟩ = some v := fun i v h => (Blk.new W (rcells r) _).cell h
  have hG : Gr W (W.alloc (.cells (recV r).cells 36)) := (Gr.refl W).alloc _
  generalize W.alloc (.cells (recV r).cells 36) = w at hc hG ⊢
  unfold numK
  by_cases h1 : r.kind = 2
  · rw [if_pos h1]
    repeat' (first | apply WL.fold | apply WA.fold | apply WL.nil | apply WX.n_then | apply WC.seq | apply WC.region | refine WL.pa ?_ | refine WL.ga rfl ?_ | refine WL.na rfl ?_ | refine WL.nu rfl rfl ?_ | apply WC.block | apply WC.skip | apply WC.exit | apply WC.ret | apply WX.e_block | refine WX.e_other rfl ?_ | apply WX.e_then | apply WX.e_again | apply WX.n_block | apply WX.r_then | apply WX.r_block | apply WX.r_again | refine WC.cond_yes rfl ?_ | refine WC.cond_no rfl ?_ | refine WC.cond rfl (fun hc => ?_) (fun hc => ?_) | refine WC.cond_b rfl (fun hc => ?_) (fun hc => ?_))
    refine WL.load rfl (hc 0 _ rfl) rfl ?_
    repeat' (first | apply WL.fold | apply WA.fold | apply WL.nil | apply WX.n_then | apply WC.seq | apply WC.region | refine WL.pa ?_ | refine WL.ga rfl ?_ | refine WL.na rfl ?_ | refine WL.nu rfl rfl ?_ | apply WC.block | apply WC.skip | apply WC.exit | apply WC.ret | apply WX.e_block | refine WX.e_other rfl ?_ | apply WX.e_then | apply WX.e_again | apply WX.n_block | apply WX.r_then | apply WX.r_block | apply WX.r_again | refine WC.cond_yes rfl ?_ | refine WC.cond_no rfl ?_ | refine WC.cond rfl (fun hc => ?_) (fun hc => ?_) | refine WC.cond_b rfl (fun hc => ?_) (fun hc => ?_))
    refine WL.load rfl (hc 11 _ rfl) rfl ?_
    repeat' (first | apply WL.fold | apply WA.fold | apply WL.nil | apply WX.n_then | apply WC.seq | apply WC.region | refine WL.pa ?_ | refine WL.ga rfl ?_ | refine WL.na rfl ?_ | refine WL.nu rfl rfl ?_ | apply WC.block | apply WC.skip | apply WC.exit | apply WC.ret | apply WX.e_block | refine WX.e_other rfl ?_ | apply WX.e_then | apply WX.e_again | apply WX.n_block | apply WX.r_then | apply WX.r_block | apply WX.r_again | refine WC.cond_yes rfl ?_ | refine WC.cond_no rfl ?_ | refine WC.cond rfl (fun hc => ?_) (fun hc => ?_) | refine WC.cond_b rfl (fun hc => ?_) (fun hc => ?_))
    exact WX.ret1 rfl rfl ⟨rfl, hG⟩
  · rw [if_neg h1]
    by_cases h2 : r.kind = 6
    · rw [if_pos h2]
      repeat' (first | apply WL.fold | apply WA.fold | apply WL.nil | apply WX.n_then | apply WC.seq | apply WC.region | refine WL.pa ?_ | refine WL.ga rfl ?_ | refine WL.na rfl ?_ | refine WL.nu rfl rfl ?_ | apply WC.block | apply WC.skip | apply WC.exit | apply WC.ret | apply WX.e_block | refine WX.e_other rfl ?_ | apply WX.e_then | apply WX.e_again | apply WX.n_block | apply WX.r_then | apply WX.r_block | apply WX.r_again | refine WC.cond_yes rfl ?_ | refine WC.cond_no rfl ?_ | refine WC.cond rfl (fun hc => ?_) (fun hc => ?_) | refine WC.cond_b rfl (fun hc => ?_) (fun hc => ?_))
      refine WL.load rfl (hc 0 _ rfl) rfl ?_
      repeat' (first | apply WL.fold | apply WA.fold | apply WL.nil | apply WX.n_then | apply WC.seq | apply WC.region | refine WL.pa ?_ | refine WL.ga rfl ?_ | refine WL.na rfl ?_ | refine WL.nu rfl rfl ?_ | apply WC.block | apply WC.skip | apply WC.exit | apply WC.ret | apply WX.e_block | refine WX.e_other rfl ?_ | apply WX.e_then | apply WX.e_again | apply WX.n_block | apply WX.r_then | apply WX.r_block | apply WX.r_again | refine WC.cond_yes rfl ?_ | refine WC.cond_no rfl ?_ | refine WC.cond rfl (fun hc => ?_) (fun hc => ?_) | refine WC.cond_b rfl (fun hc => ?_) (fun hc => ?_))
      refine WL.load rfl (hc 13 _ rfl) rfl ?_
      repeat' (first | apply WL.fold | apply WA.fold | apply WL.nil | apply WX.n_then | apply WC.seq | apply WC.region | refine WL.pa ?_ | refine WL.ga rfl ?_ | refine WL.na rfl ?_ | refine WL.nu rfl rfl ?_ | apply WC.block | apply WC.skip | apply WC.exit | apply WC.ret | apply WX.e_block | refine WX.e_other rfl ?_ | apply WX.e_then | apply WX.e_again | apply WX.n_block | apply WX.r_then | apply WX.r_block | apply WX.r_again | refine WC.cond_yes rfl ?_ | refine WC.cond_no rfl ?_ | refine WC.cond rfl (fun hc => ?_) (fun hc => ?_) | refine WC.cond_b rfl (fun hc => ?_) (fun hc => ?_))
      exact WX.ret1 rfl rfl ⟨rfl, hG⟩
    · rw [if_neg h2]
      repeat' (first | apply WL.fold | apply WA.fold | apply WL.nil | apply WX.n_then | apply WC.seq | apply WC.region | refine WL.pa ?_ | refine WL.ga rfl ?_ | refine WL.na rfl ?_ | refine WL.nu rfl rfl ?_ | apply WC.block | apply WC.skip | apply WC.exit | apply WC.ret | apply WX.e_block | refine WX.e_other rfl ?_ | apply WX.e_then | apply WX.e_again | apply WX.n_block | apply WX.r_then | apply WX.r_block | apply WX.r_again | refine WC.cond_yes rfl ?_ | refine WC.cond_no rfl ?_ | refine WC.cond rfl (fun hc => ?_) (fun hc => ?_) | refine WC.cond_b rfl (fun hc => ?_) (fun hc => ?_))
      refine WL.load rfl (hc 0 _ rfl) rfl ?_
      repeat' (first | apply WL.fold | apply WA.fold | apply WL.nil | apply WX.n_then | apply WC.seq | apply WC.region | refine WL.pa ?_ | refine WL.ga rfl ?_ | refine WL.na rfl ?_ | refine WL.nu rfl rfl ?_ | apply WC.block | apply WC.skip | apply WC.exit | apply WC.ret | apply WX.e_block | refine WX.e_other rfl ?_ | apply WX.e_then | apply WX.e_again | apply WX.n_block | apply WX.r_then | apply WX.r_block | apply WX.r_again | refine WC.cond_yes rfl ?_ | refine WC.cond_no rfl ?_ | refine WC.cond rfl (fun hc => ?_) (fun hc => ?_) | refine WC.cond_b rfl (fun hc => ?_) (fun hc => ?_))
      refine WL.load rfl (hc 1 _ rfl) rfl ?_
      repeat' (first | apply WL.fold | apply WA.fold | apply WL.nil | apply WX.n_then | apply WC.seq | apply WC.region | refine WL.pa ?_ | refine WL.ga rfl ?_ | refine WL.na rfl ?_ | refine WL.nu rfl rfl ?_ | apply WC.block | apply WC.skip | apply WC.exit | apply WC.ret | apply WX.e_block | refine WX.e_other rfl ?_ | apply WX.e_then | apply WX.e_again | apply WX.n_block | apply WX.r_then | apply WX.r_block | apply WX.r_again | refine WC.cond_yes rfl ?_ | refine WC.cond_no rfl ?_ | refine WC.cond rfl (fun hc => ?_) (fun hc => ?_) | refine WC.cond_b rfl (fun hc => ?_) (fun hc => ?_))
      exact WX.ret1 rfl rfl ⟨rfl, hG⟩
theorem ofC1 (x y : Rc) (W : World) : Fn Tryz.prog 34 #[recV x, recV y] W fun v w' => v = zv (cfN x y) ∧ Gr W w' := by
  refine enter (l := [_, _]) rfl Tryz.ntmps34 rfl ?_
  repeat' (first | apply WL.fold | apply WA.fold | apply WL.nil | apply WX.n_then | apply WC.seq | apply WC.region | refine WL.pa ?_ | refine WL.ga rfl ?_ | refine WL.na rfl ?_ | refine WL.nu rfl rfl ?_ | apply WC.block | apply WC.skip | apply WC.exit | apply WC.ret | apply WX.e_block | refine WX.e_other rfl ?_ | apply WX.e_then | apply WX.e_again | apply WX.n_block | apply WX.r_then | apply WX.r_block | apply WX.r_again | refine WC.cond_yes rfl ?_ | refine WC.cond_no rfl ?_ | refine WC.cond rfl (fun hc => ?_) (fun hc => ?_) | refine WC.cond_b rfl (fun hc => ?_) (fun hc => ?_))
  refine WL.one (W1.box (v := recV x) rfl rfl ?_)
  apply WL.fold
  repeat' (first | apply WL.fold | apply WA.fold | apply WL.nil | apply WX.n_then | apply WC.seq | apply WC.region | refine WL.pa ?_ | refine WL.ga rfl ?_ | refine WL.na rfl ?_ | refine WL.nu rfl rfl ?_ | apply WC.block | apply WC.skip | apply WC.exit | apply WC.ret | apply WX.e_block | refine WX.e_other rfl ?_ | apply WX.e_then | apply WX.e_again | apply WX.n_block | apply WX.r_then | apply WX.r_block | apply WX.r_again | refine WC.cond_yes rfl ?_ | refine WC.cond_no rfl ?_ | refine WC.cond rfl (fun hc => ?_) (fun hc => ?_) | refine WC.cond_b rfl (fun hc => ?_) (fun hc => ?_))
  refine WL.one (W1.box (v := recV y) rfl rfl ?_)
  apply WL.fold
  repeat' (first | apply WL.fold | apply WA.fold | apply WL.nil | apply WX.n_then | apply WC.seq | apply WC.region | refine WL.pa ?_ | refine WL.ga rfl ?_ | refine WL.na rfl ?_ | refine WL.nu rfl rfl ?_ | apply WC.block | apply WC.skip | apply WC.exit | apply WC.ret | apply WX.e_block | refine WX.e_other rfl ?_ | apply WX.e_then | apply WX.e_again | apply WX.n_block | apply WX.r_then | apply WX.r_block | apply WX.r_again | refine WC.cond_yes rfl ?_ | refine WC.cond_no rfl ?_ | refine WC.cond rfl (fun hc => ?_) (fun hc => ?_) | refine WC.cond_b rfl (fun hc => ?_) (fun hc => ?_))
  refine WC.anyE rfl ?_
  have hG1 : Gr W (W.alloc (.cells (recV x).cells 36)) := (Gr.refl W).alloc _
  have hG2 : Gr W ((W.alloc (.cells (recV x).cells 36)).alloc (.cells (recV y).cells 36)).drew := (hG1.alloc _).drew
  have hx : ∀ i v, (rcells x)[i]? = some v → ((W.alloc (.cells (recV x).cells 36)).alloc (.cells (recV y).cells 36)).drew.cell? ⟨W.heap.size, 0 + i, none⟩ = some v := fun i v h => by
    rw [Nat.zero_add]
    exact cell_ext (Ext.alloc _ _) ((Blk.new W (rcells x) _).cell h)
  have hy : ∀ i v, (rcells y)[i]? = some v → ((W.alloc (.cells (recV x).cells 36)).alloc (.cells (recV y).cells 36)).drew.cell? ⟨(W.alloc (.cells (recV x).cells 36)).heap.size, 0 + i, none⟩ = some v := fun i v h => by
    rw [Nat.zero_add]
    exact (Blk.new (W.alloc _) (rcells y) _).cell h
  generalize ((W.alloc (.cells (recV x).cells 36)).alloc (.cells (recV y).cells 36)).drew = w at hx hy hG2 ⊢
  generalize (W.alloc (.cells (recV x).cells 36)).heap.size = b2 at hy ⊢
  generalize W.heap.size = b1 at hx ⊢
  refine WA.all [0, 2] (by kernel_rfl) rfl ⟨⟨_, rfl, ?_⟩, ⟨_, rfl, ?_⟩, trivial⟩
  · refine WO.one (W1.loadAgg (vs := rcells x) rfl rfl hx rfl ?_)
    apply WA.fold
    refine WA.all [1, 2] (by kernel_rfl) rfl ⟨⟨_, rfl, ?_⟩, ⟨_, rfl, ?_⟩, trivial⟩
    · refine WO.one (W1.call (vs := [recV x]) rfl rfl (numberG x w) ?_)
      rintro v w1 ⟨rfl, hg1⟩
      apply WA.fold
      refine WA.all [2] (by kernel_rfl) rfl ⟨⟨_, rfl, ?_⟩, trivial⟩
      refine WO.one (W1.loadAgg (vs := rcells y) rfl rfl (fun i v h => cell_ext hg1.ext (hy i v h)) rfl ?_)
      apply WA.fold
      refine WA.all [3] (by kernel_rfl) rfl ⟨⟨_, rfl, ?_⟩, trivial⟩
      refine WO.one (W1.call (vs := [recV y]) rfl rfl (numberG y w1) ?_)
      rintro v w2 ⟨rfl, hg2⟩
      apply WA.fold
      refine WA.all [4] (by kernel_rfl) rfl ⟨⟨_, rfl, ?_⟩, trivial⟩
      refine WO.one (W1.call (vs := [zv (numK x), zv (numK y)]) rfl rfl (compareG _ _ w2) ?_)
      rintro v w3 ⟨rfl, hg3⟩
      apply WA.fold
      refine WA.pa 5 rfl ?_
      refine WA.done (by kernel_rfl) ?_
      repeat' (first | apply WL.fold | apply WA.fold | apply WL.nil | apply WX.n_then | apply WC.seq | apply WC.region | refine WL.pa ?_ | refine WL.ga rfl ?_ | refine WL.na rfl ?_ | refine WL.nu rfl rfl ?_ | apply WC.block | apply WC.skip | apply WC.exit | apply WC.ret | apply WX.e_block | refine WX.e_other rfl ?_ | apply WX.e_then | apply WX.e_again | apply WX.n_block | apply WX.r_then | apply WX.r_block | apply WX.r_again | refine WC.cond_yes rfl ?_ | refine WC.cond_no rfl ?_ | refine WC.cond rfl (fun hc => ?_) (fun hc => ?_) | refine WC.cond_b rfl (fun hc => ?_) (fun hc => ?_))
      exact WX.ret1 rfl rfl ⟨rfl, ((hG2.trans hg1).trans hg2).trans hg3⟩
    · refine WO.one (W1.loadAgg (vs := rcells y) rfl rfl hy rfl ?_)
      apply WA.fold
      refine WA.all [1] (by kernel_rfl) rfl ⟨⟨_, rfl, ?_⟩, trivial⟩
      refine WO.one (W1.call (vs := [recV x]) rfl rfl (numberG x w) ?_)
      rintro v w1 ⟨rfl, hg1⟩
      apply WA.fold
      refine WA.all [3] (by kernel_rfl) rfl ⟨⟨_, rfl, ?_⟩, trivial⟩
      refine WO.one (W1.call (vs := [recV y]) rfl rfl (numberG y w1) ?_)
      rintro v w2 ⟨rfl, hg2⟩
      apply WA.fold
      refine WA.all [4] (by kernel_rfl) rfl ⟨⟨_, rfl, ?_⟩, trivial⟩
      refine WO.one (W1.call (vs := [zv (numK x), zv (numK y)]) rfl rfl (compareG _ _ w2) ?_)
      rintro v w3 ⟨rfl, hg3⟩
      apply WA.fold
      refine WA.pa 5 rfl ?_
      refine WA.done (by kernel_rfl) ?_
      repeat' (first | apply WL.fold | apply WA.fold | apply WL.nil | apply WX.n_then | apply WC.seq | apply WC.region | refine WL.pa ?_ | refine WL.ga rfl ?_ | refine WL.na rfl ?_ | refine WL.nu rfl rfl ?_ | apply WC.block | apply WC.skip | apply WC.exit | apply WC.ret | apply WX.e_block | refine WX.e_other rfl ?_ | apply WX.e_then | apply WX.e_again | apply WX.n_block | apply WX.r_then | apply WX.r_block | apply WX.r_again | refine WC.cond_yes rfl ?_ | refine WC.cond_no rfl ?_ | refine WC.cond rfl (fun hc => ?_) (fun hc => ?_) | refine WC.cond_b rfl (fun hc => ?_) (fun hc => ?_))
      exact WX.ret1 rfl rfl ⟨rfl, ((hG2.trans hg1).trans hg2).trans hg3⟩
  · refine WO.one (W1.loadAgg (vs := rcells y) rfl rfl hy rfl ?_)
    apply WA.fold
    refine WA.all [0] (by kernel_rfl) rfl ⟨⟨_, rfl, ?_⟩, trivial⟩
    refine WO.one (W1.loadAgg (vs := rcells x) rfl rfl hx rfl ?_)
    apply WA.fold
    refine WA.all [1] (by kernel_rfl) rfl ⟨⟨_, rfl, ?_⟩, trivial⟩
    refine WO.one (W1.call (vs := [recV x]) rfl rfl (numberG x w) ?_)
    rintro v w1 ⟨rfl, hg1⟩
    apply WA.fold
    refine WA.all [3] (by kernel_rfl) rfl ⟨⟨_, rfl, ?_⟩, trivial⟩
    refine WO.one (W1.call (vs := [recV y]) rfl rfl (numberG y w1) ?_)
    rintro v w2 ⟨rfl, hg2⟩
    apply WA.fold
    refine WA.all [4] (by kernel_rfl) rfl ⟨⟨_, rfl, ?_⟩, trivial⟩
    refine WO.one (W1.call (vs := [zv (numK x), zv (numK y)]) rfl rfl (compareG _ _ w2) ?_)
    rintro v w3 ⟨rfl, hg3⟩
    apply WA.fold
    refine WA.pa 5 rfl ?_
    refine WA.done (by kernel_rfl) ?_
    repeat' (first | apply WL.fold | apply WA.fold | apply WL.nil | apply WX.n_then | apply WC.seq | apply WC.region | refine WL.pa ?_ | refine WL.ga rfl ?_ | refine WL.na rfl ?_ | refine WL.nu rfl rfl ?_ | apply WC.block | apply WC.skip | apply WC.exit | apply WC.ret | apply WX.e_block | refine WX.e_other rfl ?_ | apply WX.e_then | apply WX.e_again | apply WX.n_block | apply WX.r_then | apply WX.r_block | apply WX.r_again | refine WC.cond_yes rfl ?_ | refine WC.cond_no rfl ?_ | refine WC.cond rfl (fun hc => ?_) (fun hc => ?_) | refine WC.cond_b rfl (fun hc => ?_) (fun hc => ?_))
    exact WX.ret1 rfl rfl ⟨rfl, ((hG2.trans hg1).trans hg2).trans hg3⟩
end Go.Sx
namespace Go.Sx
open Go Go.Proofs Go.RowKit
theorem cmpLaysR (blk off size : Nat) (w : World) : CmpLays Tryz.prog 34 #[] rcells 15 cfN blk off size w := fun m os dk _ x y => by
  refine Calls.mono (ofC1 x y _) ?_
  rintro e w' ⟨v, rfl, rfl, q, os', hw⟩
  exact ⟨rfl, q, os', hw⟩
theorem sortFunc_fn {w0 w : World} {H : List Atom} {H' : List Rc → List Atom} {a : Option Addr} {c : Nat} {l : List Rc} (hM : Mm w0 H w) (hl : l.length ≤ 1000000)
    (hr : ∀ l' : List Rc, l'.length = l.length → Rpl (A.grow 36 15 a c l.length (rcl l)) (A.grow 36 15 a c l'.length (rcl l')) H (H' l')) :
    Fn Tryz.prog 33 #[.slice a l.length c, fnV 34] w fun v w' => ∃ l', (l'.Perm l ∧ l'.Pairwise fun x y => numK x ≤ numK y) ∧ v = .tuple #[] ∧ Mm w0 (H' l') w' := by
  by_cases h0 : l = []
  · subst h0
    refine Calls.mono (AnyF.slices_SortFunc_none Tryz.sortR a c (fnV 34) w) ?_
    rintro e w' ⟨rfl, rfl⟩
    exact ⟨_, rfl, [], ⟨List.Perm.refl _, List.Pairwise.nil⟩, rfl, Rpl.same (hr [] rfl) ▸ hM⟩
  have hne : l.length ≠ 0 := fun e => h0 (List.eq_nil_of_length_eq_zero e)
  have hown := hM.own (hr l rfl).mem
  obtain ⟨b, cur, rfl, hg, hnc, hcm, hcs, htake⟩ : ∃ b cur, a = some ⟨b, 0, none⟩ ∧ w.heap[b]? = some (.cells cur 36 (0, 0)) ∧ l.length ≤ c ∧ c ≤ maxLen ∧ cur.size = c * 15 ∧ cur.toList.take (l.length * 15) = rcl l := by
    rcases hown.2 with ⟨-, h2⟩ | ⟨g, cap, cur, hv, -, hg, hnc, hcm, hcs, ht⟩
    · exact absurd h2 hne
    · cases hv; exact ⟨g, cur, rfl, hg, hnc, hcm, hcs, ht⟩
  have hlt := (Array.getElem?_eq_some_iff.1 hg).1
  have hfs : ∀ l : List Rc, (Go.Sort.flatK rcells 15 l.toArray).size = l.length * 15 := fun l => by simp [Go.Sort.flatK]
  have hH : Go.Sort.HoldsK rcells 15 w b 0 l.toArray := fun j hj => by
    rw [hfs] at hj
    have h1 : (rcl l)[j]? = some (Go.Sort.flatK rcells 15 l.toArray)[j]! := by
      rw [← flatK_rcl]
      have hj' : j < (Go.Sort.flatK rcells 15 l.toArray).size := by rw [hfs]; exact hj
      exact arr_at hj'
    rw [Nat.zero_add]
    exact ⟨ownsRow_cell hown h1, by simp [World.frozen?, hg]⟩
  have eg : ∀ args w, (callFunc 34 args).run Tryz.prog w = .ok (.enter 34 args) w := CallOk.run
  have hS := AnyQ.slices_SortFunc Tryz.sortR 15 Tryz.isAgg36 Tryz.sizeOf36 rcells rcells_len rcells_one cfN swoN 34 #[] b 0 c l.toArray w eg (cmpLaysR b 0 _ w) hH hlt (by simp; omega)
  refine Calls.mono hS ?_
  rintro e w' ⟨rfl, d', n, os, hp, hs, rfl⟩
  have hsz : d'.size = l.length := by have := hp.1; simpa using this
  obtain ⟨l', rfl⟩ : ∃ l' : List Rc, d' = l'.toArray := ⟨d'.toList, by simp⟩
  have hl' : l'.length = l.length := by simpa using hsz
  have hperm : l'.Perm l := by
    have h1 := hp.2.2
    have e1 : l'.toArray.extract 0 l.toArray.size = l'.toArray := by
      rw [show l.toArray.size = l'.toArray.size by simp [hl']]; exact Array.extract_size
    have e2 : l.toArray.extract 0 l.toArray.size = l.toArray := Array.extract_size
    rw [e1, e2] at h1
    simpa using h1
  have hsort : l'.Pairwise fun x y => numK x ≤ numK y := by
    refine List.pairwise_iff_getElem.2 fun i j hi hj hij => ?_
    have h1 := hs i j (Nat.zero_le _) hij (by simp; omega)
    rw [ltN, decide_eq_false_iff_not] at h1
    simp [hi, hj] at h1
    omega
  refine ⟨_, rfl, l', ⟨hperm, hsort⟩, rfl, hM.turn (hr l' hl') rfl rfl rfl ?_ (fun k hk hkb => ?_) ?_ (by simp [A.grow, Value.ownBlock]) (fun b' hb' => .inl (by simpa [A.grow, Value.ownBlock] using hb'))⟩
  · simp [sortWorldK, Go.Sort.putRowK, Go.Sort.grow, Go.Sort.putRow, Go.Sort.mapBlock, Go.Sort.ahead]
  · have hkb' : ¬ b = k := fun e => hkb (by subst e; simp [A.grow, Value.ownBlock])
    have hs1 : (Go.Sort.putRow id (Go.Sort.ahead w n) b 0 (Go.Sort.flatK rcells 15 l'.toArray)).heap.size = w.heap.size := by simp [Go.Sort.putRow, Go.Sort.mapBlock, Go.Sort.ahead]
    show ((Go.Sort.putRow id (Go.Sort.ahead w n) b 0 (Go.Sort.flatK rcells 15 l'.toArray)).heap ++ os)[k]? = _
    rw [Array.getElem?_append, if_pos (by rw [hs1]; exact hk)]
    show (w.heap.modify b _)[k]? = _
    rw [Array.getElem?_modify, if_neg hkb']
  · rw [hl']
    refine ⟨by rw [rcl_len, hl'], .inr ⟨b, c, Go.Sort.putCells id 0 (Go.Sort.flatK rcells 15 l'.toArray) cur, rfl, Nat.zero_le _, ?_, hnc, hcm, by simp [Go.Sort.putCells, hcs], ?_⟩⟩
    · have hm : (Go.Sort.putRow id (Go.Sort.ahead w n) b 0 (Go.Sort.flatK rcells 15 l'.toArray)).heap[b]? = some (.cells (Go.Sort.putCells id 0 (Go.Sort.flatK rcells 15 l'.toArray) cur) 36 (0, 0)) := by
        simp [Go.Sort.putRow, Go.Sort.mapBlock, Go.Sort.ahead, Array.getElem?_modify, hg, Go.Sort.onCells]
      have hs1 : (Go.Sort.putRow id (Go.Sort.ahead w n) b 0 (Go.Sort.flatK rcells 15 l'.toArray)).heap.size = w.heap.size := by simp [Go.Sort.putRow, Go.Sort.mapBlock, Go.Sort.ahead]
      show ((Go.Sort.putRow id (Go.Sort.ahead w n) b 0 (Go.Sort.flatK rcells 15 l'.toArray)).heap ++ os)[b]? = _
      rw [Array.getElem?_append, if_pos (by rw [hs1]; exact hlt), hm]
    · have h1 := putCells_id (Go.Sort.flatK rcells 15 l'.toArray) cur (by rw [hfs, hcs, hl']; exact Nat.mul_le_mul_right _ hnc)
      rw [hfs, hl', flatK_rcl] at h1
      exact h1
end Go.Sx
/- Chapter 21: Of: what is known on a day. -/
namespace Go.Sx
open Go Go.Proofs Go.RowKit
theorem hwXR {G G2 : Prop} (x : G2) (hwq : Hold G2 → G := by
    intro hQq
    repeat' (first | apply HL.fold | apply HA.fold | apply HL.nil | apply HX.n_then | apply HC.seq | apply HC.region | refine HL.pa ?_ | refine HL.ga rfl ?_ | refine HL.na rfl ?_ | refine HL.nu rfl rfl ?_ | apply HC.block | apply HC.skip | apply HC.exit | apply HC.ret | apply HX.e_block | refine HX.e_other rfl ?_ | apply HX.e_then | apply HX.e_again | apply HX.n_block | apply HX.r_then | apply HX.r_block | apply HX.r_again | refine HC.cond_yes rfl ?_ | refine HC.cond_no rfl ?_ | refine HL.one (H1.ldb rfl memA rfl rfl ?_) | refine HC.cond rfl (fun hc => ?_) (fun hc => ?_) | refine HC.cond_b rfl (fun hc => ?_) (fun hc => ?_))
    exact hQq.get) : G := hwq ⟨x⟩
theorem hbXR {G G2 : Prop} (x : G2) (hwq : Hold G2 → G := by
    intro hQq
    repeat' (first | apply HL.fold | apply HA.fold | apply HL.nil | apply HX.n_then | apply HC.seq | apply HC.region | refine HL.pa ?_ | refine HL.ga rfl ?_ | refine HL.na rfl ?_ | refine HL.nu rfl rfl ?_ | apply HC.skip | apply HC.exit | apply HC.ret | apply HX.e_block | refine HX.e_other rfl ?_ | apply HX.e_then | apply HX.e_again | apply HX.n_block | apply HX.r_then | apply HX.r_block | apply HX.r_again | refine HC.cond_yes rfl ?_ | refine HC.cond_no rfl ?_ | refine HL.one (H1.ldb rfl memA rfl rfl ?_) | refine HC.cond rfl (fun hc => ?_) (fun hc => ?_) | refine HC.cond_b rfl (fun hc => ?_) (fun hc => ?_))
    exact hQq.get) : G := hwq ⟨x⟩
theorem nodup_len {α : Type} : ∀ {L l : List α}, L.Nodup → (∀ x ∈ L, x ∈ l) → L.length ≤ l.length
  | [], _, _, _ => Nat.zero_le _
  | a :: L, l, h, hs => by
    obtain ⟨s, t, rfl⟩ := List.append_of_mem (hs a (List.mem_cons_self ..))
    have h1 := List.nodup_cons.1 h
    have h2 := nodup_len (l := s ++ t) h1.2 fun x hx => by
      rcases List.mem_append.1 (hs x (List.mem_cons_of_mem _ hx)) with h3 | h3
      · exact List.mem_append_left _ h3
      · rcases List.mem_cons.1 h3 with rfl | h3
        · exact absurd hx h1.1
        · exact List.mem_append_right _ h3
    simp only [List.length_append, List.length_cons] at h2 ⊢
    omega
abbrev Slot := Option Addr × Nat × List Rc
def slot (x : Slot) : Value := .slice x.1 x.2.2.length x.2.1
def slotA (x : Slot) : Atom := A.grow 36 15 x.1 x.2.1 x.2.2.length (rcl x.2.2)
def slots (q : Nat → Slot) : List Atom := (List.range 8).map fun i => slotA (q i)
def updQ (q : Nat → Slot) (i : Nat) (x : Slot) : Nat → Slot := fun j => if j = i then x else q j
theorem rpl_map {f f' : Nat → Atom} {i : Nat} (hne : ∀ j, j ≠ i → f j = f' j) : ∀ {L : List Nat}, L.Nodup → i ∈ L → Rpl (f i) (f' i) (L.map f) (L.map f')
  | [], _, h => absurd h (by simp)
  | j :: L, hn, h => by
    have h1 := List.nodup_cons.1 hn
    by_cases e : j = i
    · subst e
      rw [List.map_cons, List.map_cons]
      have : L.map f = L.map f' := List.map_congr_left fun x hx => hne x fun e => h1.1 (e ▸ hx)
      rw [this]; exact Rpl.here
    · rw [List.map_cons, List.map_cons, hne j e]
      exact Rpl.there (rpl_map hne h1.2 ((List.mem_cons.1 h).resolve_left fun e2 => e e2.symm))
theorem rpl_slots (q : Nat → Slot) {i : Nat} (h : i < 8) (x : Slot) : Rpl (slotA (q i)) (slotA x) (slots q) (slots (updQ q i x)) := by
  have := rpl_map (f := fun j => slotA (q j)) (f' := fun j => slotA (updQ q i x j)) (i := i) (fun j hj => by show slotA (q j) = slotA (updQ q i x j); rw [show updQ q i x j = q j from if_neg hj]) (L := List.range 8) List.nodup_range (List.mem_range.2 h)
  simp only [updQ, if_true] at this
  exact this
theorem slot_upd (q : Nat → Slot) (i : Nat) (x : Slot) : (row 8 fun j => slot (q j)).set i (slot x) = row 8 fun j => slot (updQ q i x j) :=
  row_step (by show slot (updQ q i x i) = slot x; rw [show updQ q i x i = x from if_pos rfl]) fun j hj => by
    show slot (q j) = slot (updQ q i x j)
    rw [show updQ q i x j = q j from if_neg hj]
theorem recV_inj {r s : Rc} (h : recV r = recV s) : r = s := by
  have h1 : rcells r = rcells s := by
    injection h with h
    exact List.toArray_inj h
  unfold rcells at h1
  simp only [List.cons.injEq, Value.int.injEq, Value.bool.injEq, Value.string.injEq, true_and, and_true] at h1
  obtain ⟨h1, h2, h3, h4, h5, h6, h7, h8, h9, h10, h11, h12, h13, h14, h15⟩ := h1
  cases r; cases s
  simp only at h1 h2 h3 h4 h5 h6 h7 h8 h9 h10 h11 h12 h13 h14 h15
  subst h1 h2 h3 h4 h5 h6 h7 h8 h9 h10 h11 h12 h13 h14 h15
  rfl
/-- A base, as it reads. -/
def BaseV (w : World) (v : Value) (B : Nat → List Rc) : Prop := ∃ s : Nat → Value, v = .agg (row 8 s).toArray ∧ ∀ i, i < 8 → RdR w (s i) (B i)
theorem BaseV.ext {w w' : World} {v : Value} {B : Nat → List Rc} (h : BaseV w v B) (k : Ext w w') : BaseV w' v B := by
  obtain ⟨s, h1, h2⟩ := h
  exact ⟨s, h1, fun i hi => (h2 i hi).ext k⟩
theorem isOf_sorted {l : List Rc} {day : Int} {i : Nat} {L : List Rc} (hn : L.Nodup) (hs : L.Pairwise fun x y => numK x ≤ numK y) (hm : ∀ r, r ∈ L ↔ r.kind = (i : Int) + 1 ∧ Top l day r ∧ r.gone = false) : IsOf l day ((i : Int) + 1) L := by
  refine ⟨?_, fun r => by rw [hm]; exact ⟨fun h => ⟨⟨h.2.1, h.2.2⟩, h.1⟩, fun h => ⟨h.2, h.1.1, h.1.2⟩⟩⟩
  refine (hs.and hn).imp_of_mem fun {a b} ha hb h => ?_
  rw [numK_numR, numK_numR] at h
  have h1 := (hm a).1 ha
  have h2 := (hm b).1 hb
  have hne : numR a ≠ numR b := fun e => h.2 (top_uniq h1.2.1 h2.2.1 (by
    unfold keyR
    unfold numR at e
    rw [e, h1.1, h2.1]))
  omega
/-- A base that lies in slices of the call's own: its value, its atom, its lists. -/
abbrev bsV (q : Nat → Slot) : Value := .agg (row 8 fun i => slot (q i)).toArray
def bsA (q : Nat → Slot) : Atom := A.all (slots q)
def bsL (q : Nat → Slot) (i : Nat) : List Rc := (q i).2.2
theorem Mm.base {w0 w : World} {q : Nat → Slot} {H : List Atom} (h : Mm w0 H w) (hm : bsA q ∈ H) : BaseV w (bsV q) (bsL q) := by
  have hp : ∀ x ∈ slots q, x.p w := h.all _ hm
  exact ⟨_, rfl, fun i hi => RdR.of_owns (hp _ (List.mem_map.2 ⟨i, List.mem_range.2 hi, rfl⟩))⟩
def q0 : Nat → Slot := fun _ => (none, 0, [])
section
variable {P : Program} {r : Option Nat} {N : Nat} {ds : List Deferred} {Q : Post} {E : Env} {w0 : World} {H : List Atom}
theorem Mm.slots0 {w : World} (h : Mm w0 H w) : Mm w0 (slots q0 ++ H) w :=
  (((((((h.grow0 36 15).grow0 36 15).grow0 36 15).grow0 36 15).grow0 36 15).grow0 36 15).grow0 36 15).grow0 36 15
theorem HC.slots0 {co : Code} (h : HC P r N ds co Q E w0 (slots q0 ++ H)) : HC P r N ds co Q E w0 H := fun w hM => h w hM.slots0
end
/-- What the lists hold while the map is ranged over. -/
structure SlotI (es : Array MapEntry) (seen : Array Nat) (q : Nat → Slot) : Prop where
  nd : ∀ i, i < 8 → (q i).2.2.Nodup
  mem : ∀ i, i < 8 → ∀ r, r ∈ (q i).2.2 ↔ r.kind = (i : Int) + 1 ∧ ∃ e ∈ es.toList, e.born ∈ seen ∧ e.val = recV r
theorem SlotI.nil (es : Array MapEntry) : SlotI es #[] q0 := ⟨fun _ _ => List.nodup_nil, fun i hi r => by
  constructor
  · intro h; exact absurd h (by simp [q0])
  · rintro ⟨-, e, -, h, -⟩; exact absurd h (by simp)⟩
theorem SlotI.push {l : List Rc} {day : Int} {m : List (List UInt8 × Rc)} {es : Array MapEntry} {clk : Nat} {seen : Array Nat} {q : Nat → Slot} (h : SlotI es seen q) (hG : EffG l day m) (hms : MS (liftM m) es clk) {e : MapEntry} (he : e ∈ es.toList) (hne : e.born ∉ seen) {r : Rc}
    (hv : e.val = recV r) {k : Nat} (hk8 : k < 8) (hk : r.kind = (k : Int) + 1) (a : Option Addr) (c : Nat) : SlotI es (seen.push e.born) (updQ q k (a, c, (q k).2.2 ++ [r])) := by
  have huniq : ∀ e' ∈ es.toList, e'.val = recV r → e' = e := fun e' he' hv' => by
    obtain ⟨x, hx, h1, h2⟩ := hms.ent he
    obtain ⟨y, hy, h3, h4⟩ := hms.ent he'
    obtain ⟨p, hp, rfl⟩ := List.mem_map.1 hx
    obtain ⟨p', hp', rfl⟩ := List.mem_map.1 hy
    dsimp only at h1 h2 h3 h4
    have e1 : p.2 = r := recV_inj (h2.symm.trans hv)
    have e2 : p'.2 = r := recV_inj (h4.symm.trans hv')
    have e3 : p'.1 = p.1 := by rw [hG.key p hp, hG.key p' hp', e1, e2]
    obtain ⟨i, hi⟩ := List.mem_iff_getElem?.1 (show e ∈ es.toList from he)
    obtain ⟨j, hj⟩ := List.mem_iff_getElem?.1 (show e' ∈ es.toList from he')
    have hi2 : ((liftM m).map Prod.fst)[i]? = some ⟨p.1.toArray⟩ := by
      have h5 := congrArg (fun l => l[i]?) hms.ents
      simp only [List.getElem?_map, hi, Option.map_some] at h5
      cases h6 : (liftM m)[i]? with
      | none => rw [h6] at h5; cases h5
      | some z =>
        rw [h6] at h5
        simp only [Option.map_some, Option.some.injEq, Prod.mk.injEq] at h5
        rw [List.getElem?_map, h6, Option.map_some]
        rw [h1] at h5
        injection h5.1 with h7
        rw [h7]
    have hj2 : ((liftM m).map Prod.fst)[j]? = some ⟨p.1.toArray⟩ := by
      have h5 := congrArg (fun l => l[j]?) hms.ents
      simp only [List.getElem?_map, hj, Option.map_some] at h5
      cases h6 : (liftM m)[j]? with
      | none => rw [h6] at h5; cases h5
      | some z =>
        rw [h6] at h5
        simp only [Option.map_some, Option.some.injEq, Prod.mk.injEq] at h5
        rw [List.getElem?_map, h6, Option.map_some]
        rw [h3, e3] at h5
        injection h5.1 with h7
        rw [h7]
    have hnd : ((liftM m).map Prod.fst).Nodup := by
      have := hG.nd
      unfold liftM
      rw [List.map_map]
      have e4 : (m.map (Prod.fst ∘ fun p : List UInt8 × Rc => ((⟨p.1.toArray⟩ : ByteArray), recV p.2))) = (m.map Prod.fst).map fun x => (⟨x.toArray⟩ : ByteArray) := by rw [List.map_map]; rfl
      rw [e4]
      exact this.map _ fun x y hxy e5 => hxy (ba_inj e5)
    have hlt : i < ((liftM m).map Prod.fst).length := (List.getElem?_eq_some_iff.1 hi2).1
    have e5 := (List.getElem?_inj hlt hnd).1 (hi2.trans hj2.symm)
    subst e5
    rw [hi] at hj
    exact (Option.some.inj hj).symm
  have hno : r ∉ (q k).2.2 := fun hr => by
    obtain ⟨-, e', he', hs', hv'⟩ := (h.mem k hk8 r).1 hr
    rw [huniq e' he' hv'] at hs'
    exact hne hs'
  refine ⟨fun i hi => ?_, fun i hi s => ?_⟩
  · unfold updQ
    split
    · rename_i e1
      subst e1
      refine List.nodup_append.2 ⟨h.nd i hi, by simp, fun a ha b hb e2 => ?_⟩
      obtain rfl := List.mem_singleton.1 hb
      exact hno (e2 ▸ ha)
    · exact h.nd i hi
  · unfold updQ
    split
    · rename_i e1
      subst e1
      rw [List.mem_append, List.mem_singleton, h.mem i hi s]
      constructor
      · rintro (⟨h1, e', he', hs', hv'⟩ | rfl)
        · exact ⟨h1, e', he', Array.mem_push.2 (.inl hs'), hv'⟩
        · exact ⟨hk, e, he, Array.mem_push.2 (.inr rfl), hv⟩
      · rintro ⟨h1, e', he', hs', hv'⟩
        rcases Array.mem_push.1 hs' with h2 | h2
        · exact .inl ⟨h1, e', he', h2, hv'⟩
        · have e2 := stamp_inj hms.nd he' he h2
          subst e2
          exact .inr (recV_inj (hv'.symm.trans hv))
    · rename_i e1
      rw [h.mem i hi s]
      constructor
      · rintro ⟨h1, e', he', hs', hv'⟩
        exact ⟨h1, e', he', Array.mem_push.2 (.inl hs'), hv'⟩
      · rintro ⟨h1, e', he', hs', hv'⟩
        rcases Array.mem_push.1 hs' with h2 | h2
        · exact ⟨h1, e', he', h2, hv'⟩
        · have e2 := stamp_inj hms.nd he' he h2
          subst e2
          have e3 := recV_inj (hv'.symm.trans hv)
          subst e3
          exact absurd (by omega) e1
theorem slot_one (q : Nat → Slot) : ∀ u ∈ (row 8 fun i => slot (q i)), u.oneCell' = true := fun u hu => by
  obtain ⟨i, -, rfl⟩ := List.mem_map.1 hu
  rfl
theorem rpl_push (q : Nat → Slot) {k : Nat} (h : k < 8) (r : Rc) (a' : Option Addr) (c' : Nat) :
    Rpl (A.grow 36 15 (q k).1 (q k).2.1 (q k).2.2.length (rcl (q k).2.2)) (A.grow 36 15 a' c' ((q k).2.2.length + 1) (rcl (q k).2.2 ++ rcells r)) (slots q) (slots (updQ q k (a', c', (q k).2.2 ++ [r]))) := by
  have h1 := rpl_slots q h (a', c', (q k).2.2 ++ [r])
  have h2 : slotA (a', c', (q k).2.2 ++ [r]) = A.grow 36 15 a' c' ((q k).2.2.length + 1) (rcl (q k).2.2 ++ rcells r) := by
    unfold slotA
    dsimp only
    rw [List.length_append, rcl_app]
    simp [rcl]
  rw [h2] at h1
  exact h1
theorem slot_push (q : Nat → Slot) (k : Nat) (r : Rc) (a' : Option Addr) (c' : Nat) : (row 8 fun i => slot (q i)).set k (.slice a' ((q k).2.2.length + 1) c') = row 8 fun j => slot (updQ q k (a', c', (q k).2.2 ++ [r]) j) := by
  rw [← slot_upd]
  congr 1
  unfold slot
  dsimp only
  rw [List.length_append]; rfl
theorem slot_same (q : Nat → Slot) (k : Nat) {l' : List Rc} (h : l'.length = (q k).2.2.length) : (row 8 fun i => slot (q i)) = row 8 fun j => slot (updQ q k ((q k).1, (q k).2.1, l') j) :=
  row_congr fun i _ => by
    unfold updQ
    split
    · rename_i e
      subst e
      unfold slot
      dsimp only
      rw [h]
    · rfl
attribute [local irreducible] WC WL WX POp Then Again Fn NX W1 WA WO QL RP RA Yld LoopAt HC HL HX HN H1 HA HO HQ HB HP A.blk A.grow A.rd A.obj A.mp AgainH CutH
attribute [local irreducible] A.ms A.mx A.mit slots
set_option maxHeartbeats 2000000 in
theorem of_fn (a : Option Addr) (c : Nat) (l : List Rc) (hl : l.length ≤ 1000000) (hok : ∀ r ∈ l, RcOk r) (day : Int) (w : World) (hR : RdR w (.slice a l.length c) l) :
    Fn Tryz.prog 11 #[.slice a l.length c, zv day] w fun v w' => ∃ q, (∀ i : Nat, i < 8 → IsOf l day ((i : Int) + 1) (bsL q i)) ∧ v = bsV q ∧ Mm w [bsA q] w' := by
  refine enterH (l := [_, _]) rfl Tryz.ntmps11 rfl ?_
  refine hwXR ?_
  refine HL.one (H1.alloc (cs := row 8 fun i => slot (q0 i)) rfl rfl (fun b4 => ?_))
  refine hwXR ?_
  refine HL.one (H1.callz1 (α := Nat × List (List UInt8 × Rc)) (V := fun z => .map (some z.1)) (An := fun z => A.ms z.1 (liftM z.2)) (I := fun z => EffG l day z.2) (vs := [.slice a l.length c, zv day]) rfl rfl (fun w' hM => effect_fn a c l hl hok day w' (hR.ext hM.ext)) ?_)
  rintro ⟨bm, m⟩ hG
  dsimp only at hG ⊢
  apply HL.fold
  refine HL.openms fun es clk hms => ?_
  refine HL.one (H1.mqrange (es := es) (clk := clk) rfl (fun w' hM => hM.mx (.head _)) rfl (fun it => ?_))
  refine hbXR ?_
  refine HC.slots0 ?_
  refine HC.cut (α := Nat → Slot) (fun _ => [(4, .pointer (some ⟨b4, 0, none⟩))]) (fun q => A.blk b4 (row 8 fun i => slot (q i)) 38 :: slots q)
    (fun q => ∀ i : Nat, i < 8 → (q i).2.2.Nodup ∧ ∀ r, r ∈ (q i).2.2 ↔ r.kind = (i : Int) + 1 ∧ Top l day r ∧ r.gone = false) ?_ ?_
  · refine hwXR ?_
    refine HC.loop (α := Array Nat × (Nat → Slot)) (fun _ => [(4, .pointer (some ⟨b4, 0, none⟩)), (12, .pointer (some ⟨it, 0, none⟩))])
      (fun z => A.mit it bm clk z.1 :: A.mx bm es clk :: A.blk b4 (row 8 fun i => slot (z.2 i)) 38 :: slots z.2) (fun z => SlotI es z.1 z.2) (fun z => mleft es z.1) (#[], q0) (SlotI.nil es) esA ⟨[], by rw [List.append_nil]; exact List.perm_append_comm⟩ ?_
    rintro ⟨seen, q⟩ hI
    dsimp only at hI ⊢
    have hall : ∀ r, (∃ e ∈ es.toList, e.val = recV r) ↔ Top l day r ∧ r.gone = false := fun r => by
      rw [← hG.mem]
      constructor
      · rintro ⟨e, he, hv⟩
        obtain ⟨x, hx, h1, h2⟩ := hms.ent he
        obtain ⟨p, hp, rfl⟩ := List.mem_map.1 hx
        exact ⟨p, hp, recV_inj (h2.symm.trans hv)⟩
      · rintro ⟨p, hp, rfl⟩
        obtain ⟨e, he, h1, h2⟩ := hms.of (List.mem_map.2 ⟨p, hp, rfl⟩)
        exact ⟨e, he, h2⟩
    refine hwXR ?_
    refine HL.one (H1.mqnext (H' := fun s => A.mit it bm clk s :: A.mx bm es clk :: A.blk b4 (row 8 fun i => slot (q i)) 38 :: slots q) rfl (fun w' hM => hM.mx (.tail _ (.head _))) hms.born (fun s => Rpl.here) rfl (fun hseen => ?_) (fun e he hne => ?_))
    · refine hwXR ?_
      refine HX.cut q (fun i hi => ⟨hI.nd i hi, fun r => ?_⟩) esA (Hs.refl _).skip.skip
      rw [hI.mem i hi r, ← hall r]
      exact ⟨fun h => ⟨h.1, by obtain ⟨e, he, -, hv⟩ := h.2; exact ⟨e, he, hv⟩⟩, fun h => ⟨h.1, by obtain ⟨e, he, hv⟩ := h.2; exact ⟨e, he, hseen e he, hv⟩⟩⟩
    obtain ⟨x, hx, hkey, hval⟩ := hms.ent he
    obtain ⟨p, hp, rfl⟩ := List.mem_map.1 hx
    dsimp only at hkey hval
    obtain ⟨r, hr⟩ : ∃ r, r = p.2 := ⟨_, rfl⟩
    rw [← hr] at hval
    have htop := ((hall r).1 ⟨e, he, hval⟩).1
    obtain ⟨k, hk, hk8⟩ : ∃ k : Nat, r.kind = (k : Int) + 1 ∧ k < 8 := ⟨(r.kind - 1).toNat, by have := htop.now.1.kind; omega, by have := htop.now.1.kind; omega⟩
    have hpush := hI.push hG hms he hne hval hk8 hk
    have hlen : (q k).2.2.length + 1 ≤ 1000000 := by
      have h1 := (hpush none 0).nd k hk8
      have h2 := (hpush none 0).mem k hk8
      simp only [updQ, if_true] at h1 h2
      have h3 := nodup_len (l := l) h1 fun s hs => by
        obtain ⟨-, e', he', -, hv'⟩ := (h2 s).1 hs
        exact ((hall s).1 ⟨e', he', hv'⟩).1.mem
      rw [List.length_append, List.length_singleton] at h3
      omega
    rw [hkey, hval]
    refine hwXR ?_
    refine HL.one (H1.mqentry (e := e) rfl (fun w' hM => hM.mx (.tail _ (.head _))) he hms.nd (.head _) rfl ?_)
    rw [hkey, hval]
    refine hwXR ?_
    refine HL.one (H1.alloc (cs := rcells rcZ) rfl rfl (fun b6 => ?_))
    refine hwXR ?_
    refine HL.one (H1.stAgg (cs := rcells rcZ) (vs := rcells r) rfl rfl rfl (rcells_one _) rplA rfl ?_)
    refine hwXR ?_
    refine HL.one (H1.callx (vs := [.pointer (some ⟨b4, 0, none⟩), zv r.kind]) rfl rfl (fun w' _ => by rw [hk]; exact list_fn b4 k hk8 w') ?_)
    refine hwXR ?_
    refine HC.any rfl ?_
    refine HA.pa 0 rfl ?_
    refine HA.pa 1 rfl ?_
    refine HA.pa 2 rfl ?_ (POp.nilCheck rfl)
    refine HA.all [3, 4] (by kernel_rfl) rfl ⟨⟨_, rfl, ?_⟩, ⟨_, rfl, ?_⟩, trivial⟩
    · refine HO.one ?_
      refine H1.ldb (cs := row 8 fun i => slot (q i)) (v := slot (q k)) rfl memA (row_get _ hk8) rfl ?_
      apply HA.fold
      refine HA.all [4] (by kernel_rfl) rfl ⟨⟨_, rfl, ?_⟩, trivial⟩
      refine HO.one ?_
      refine H1.ldAgg (vs := rcells r) rfl (.head _) rfl (fun i v hv => by rw [Nat.zero_add]; exact hv) rfl ?_
      apply HA.fold
      refine HA.all [5] (by kernel_rfl) rfl ⟨⟨_, rfl, ?_⟩, trivial⟩
      refine HO.one ?_
      refine H1.lit (cs := rcells r) rfl rfl rfl rfl rfl rfl (fun b8 => ?_)
      apply HA.fold
      refine HA.all [6] (by kernel_rfl) rfl ⟨⟨_, rfl, ?_⟩, trivial⟩
      refine HO.one ?_
      refine H1.app (e := 36) (sz := 15) (m := 1) (n := (q k).2.2.length) (a := (q k).1) (c := (q k).2.1) (xs := rcl (q k).2.2) (news := rcells r) rfl (by decide) rfl rfl (fun a' c' => Rpl.there (Rpl.there (Rpl.there (Rpl.there (Rpl.there (rpl_push q hk8 r a' c')))))) rfl (fun w hM j u hu => by rw [add_lit, Nat.zero_add]; exact (hM.blk (.head _)).cell hu) (rcells_one r) hlen (by decide) rfl (fun a' c' _ => ?_)
      apply HA.fold
      refine HA.pa 7 rfl ?_ (POp.nilCheck rfl)
      refine HA.all [8] (by kernel_rfl) rfl ⟨⟨_, rfl, ?_⟩, trivial⟩
      refine HO.one ?_
      refine H1.st (b := b4) (i := k) rfl rfl (by intro _ h; cases h) (by intro _ h; cases h) (Rpl.there (Rpl.there (Rpl.there (Rpl.there Rpl.here)))) (by rw [row_len]; exact hk8) ?_
      rw [slot_push]
      apply HA.fold
      refine HA.done (by kernel_rfl) ?_
      refine hwXR ?_
      exact HX.again (seen.push e.born, updQ q k (a', c', (q k).2.2 ++ [r])) (hpush a' c') (mleft_lt he hne) esA (Hs.refl _).skip.skip
    · refine HO.one ?_
      refine H1.ldAgg (vs := rcells r) rfl (.head _) rfl (fun i v hv => by rw [Nat.zero_add]; exact hv) rfl ?_
      apply HA.fold
      refine HA.all [3, 5] (by kernel_rfl) rfl ⟨⟨_, rfl, ?_⟩, ⟨_, rfl, ?_⟩, trivial⟩
      · refine HO.one ?_
        refine H1.ldb (cs := row 8 fun i => slot (q i)) (v := slot (q k)) rfl memA (row_get _ hk8) rfl ?_
        apply HA.fold
        refine HA.all [5] (by kernel_rfl) rfl ⟨⟨_, rfl, ?_⟩, trivial⟩
        refine HO.one ?_
        refine H1.lit (cs := rcells r) rfl rfl rfl rfl rfl rfl (fun b8 => ?_)
        apply HA.fold
        refine HA.all [6] (by kernel_rfl) rfl ⟨⟨_, rfl, ?_⟩, trivial⟩
        refine HO.one ?_
        refine H1.app (e := 36) (sz := 15) (m := 1) (n := (q k).2.2.length) (a := (q k).1) (c := (q k).2.1) (xs := rcl (q k).2.2) (news := rcells r) rfl (by decide) rfl rfl (fun a' c' => Rpl.there (Rpl.there (Rpl.there (Rpl.there (Rpl.there (rpl_push q hk8 r a' c')))))) rfl (fun w hM j u hu => by rw [add_lit, Nat.zero_add]; exact (hM.blk (.head _)).cell hu) (rcells_one r) hlen (by decide) rfl (fun a' c' _ => ?_)
        apply HA.fold
        refine HA.pa 7 rfl ?_ (POp.nilCheck rfl)
        refine HA.all [8] (by kernel_rfl) rfl ⟨⟨_, rfl, ?_⟩, trivial⟩
        refine HO.one ?_
        refine H1.st (b := b4) (i := k) rfl rfl (by intro _ h; cases h) (by intro _ h; cases h) (Rpl.there (Rpl.there (Rpl.there (Rpl.there Rpl.here)))) (by rw [row_len]; exact hk8) ?_
        rw [slot_push]
        apply HA.fold
        refine HA.done (by kernel_rfl) ?_
        refine hwXR ?_
        exact HX.again (seen.push e.born, updQ q k (a', c', (q k).2.2 ++ [r])) (hpush a' c') (mleft_lt he hne) esA (Hs.refl _).skip.skip
      · refine HO.one ?_
        refine H1.lit (cs := rcells r) rfl rfl rfl rfl rfl rfl (fun b8 => ?_)
        apply HA.fold
        refine HA.all [3] (by kernel_rfl) rfl ⟨⟨_, rfl, ?_⟩, trivial⟩
        refine HO.one ?_
        refine H1.ldb (cs := row 8 fun i => slot (q i)) (v := slot (q k)) rfl memA (row_get _ hk8) rfl ?_
        apply HA.fold
        refine HA.all [6] (by kernel_rfl) rfl ⟨⟨_, rfl, ?_⟩, trivial⟩
        refine HO.one ?_
        refine H1.app (e := 36) (sz := 15) (m := 1) (n := (q k).2.2.length) (a := (q k).1) (c := (q k).2.1) (xs := rcl (q k).2.2) (news := rcells r) rfl (by decide) rfl rfl (fun a' c' => Rpl.there (Rpl.there (Rpl.there (Rpl.there (Rpl.there (rpl_push q hk8 r a' c')))))) rfl (fun w hM j u hu => by rw [add_lit, Nat.zero_add]; exact (hM.blk (.head _)).cell hu) (rcells_one r) hlen (by decide) rfl (fun a' c' _ => ?_)
        apply HA.fold
        refine HA.pa 7 rfl ?_ (POp.nilCheck rfl)
        refine HA.all [8] (by kernel_rfl) rfl ⟨⟨_, rfl, ?_⟩, trivial⟩
        refine HO.one ?_
        refine H1.st (b := b4) (i := k) rfl rfl (by intro _ h; cases h) (by intro _ h; cases h) (Rpl.there (Rpl.there (Rpl.there (Rpl.there Rpl.here)))) (by rw [row_len]; exact hk8) ?_
        rw [slot_push]
        apply HA.fold
        refine HA.done (by kernel_rfl) ?_
        refine hwXR ?_
        exact HX.again (seen.push e.born, updQ q k (a', c', (q k).2.2 ++ [r])) (hpush a' c') (mleft_lt he hne) esA (Hs.refl _).skip.skip
  intro q hq
  refine hwXR ?_
  refine HC.loop (α := Nat × (Nat → Slot)) (fun z => [(4, .pointer (some ⟨b4, 0, none⟩)), (28, zv (z.1 : Int))]) (fun z => A.blk b4 (row 8 fun i => slot (z.2 i)) 38 :: slots z.2)
    (fun z => z.1 ≤ 8 ∧ ∀ i : Nat, i < 8 → ((z.2 i).2.2.Nodup ∧ ∀ r, r ∈ (z.2 i).2.2 ↔ r.kind = (i : Int) + 1 ∧ Top l day r ∧ r.gone = false) ∧ (i < z.1 → (z.2 i).2.2.Pairwise fun x y => numK x ≤ numK y)) (fun z => 8 - z.1) (0, q)
    ⟨Nat.zero_le _, fun i hi => ⟨hq i hi, fun h => absurd h (Nat.not_lt_zero _)⟩⟩ esA (Hs.refl _) ?_
  clear hq q
  rintro ⟨j, q⟩ ⟨hj, hI⟩
  dsimp only at hj hI ⊢
  by_cases hlt : j < 8
  · have hjI : ((j : Int) < 8) := by omega
    have hjq := hI j hlt
    have hlen : (q j).2.2.length ≤ 1000000 := by
      have := nodup_len (l := l) hjq.1.1 fun s hs => ((hjq.1.2 s).1 hs).2.1.mem
      omega
    refine hwXR ?_
    refine HL.one (H1.callx (vs := [.pointer (some ⟨b4, 0, none⟩), zv ((j : Int) + 1)]) rfl rfl (fun w' _ => list_fn b4 j hlt w') ?_)
    refine hwXR ?_
    refine HL.pa ?_ (POp.nilCheck rfl)
    refine HL.one (H1.ldb (v := slot (q j)) rfl (.head _) (row_get _ hlt) rfl ?_)
    refine hwXR ?_
    refine HL.one (H1.callk (α := List Rc) (V := fun _ => .tuple #[]) (I := fun l' => l'.Perm (q j).2.2 ∧ l'.Pairwise fun x y => numK x ≤ numK y) (H' := fun l' => A.blk b4 (row 8 fun i => slot (q i)) 38 :: slots (updQ q j ((q j).1, (q j).2.1, l'))) (vs := [slot (q j), fnV 34]) rfl rfl
      (fun w' hM => sortFunc_fn hM hlen (fun l' hl' => Rpl.there (rpl_slots q hlt ((q j).1, (q j).2.1, l')))) ?_)
    rintro l' ⟨hp, hs⟩
    rw [slot_same q j hp.length_eq]
    refine hwXR ?_
    refine HX.again (j + 1, updQ q j ((q j).1, (q j).2.1, l')) ⟨hlt, fun i hi => ?_⟩ (by show 8 - (j + 1) < 8 - j; omega) esA (Hs.refl _)
    dsimp only [updQ]
    by_cases e : i = j
    · subst e
      rw [if_pos rfl]
      dsimp only
      exact ⟨⟨hp.nodup_iff.2 hjq.1.1, fun r => by rw [hp.mem_iff]; exact hjq.1.2 r⟩, fun _ => hs⟩
    · rw [if_neg e]
      exact ⟨(hI i hi).1, fun h => (hI i hi).2 (by omega)⟩
  obtain rfl : j = 8 := by omega
  refine hwXR ?_
  refine HL.one (H1.ldAgg (vs := row 8 fun i => slot (q i)) rfl (.head _) rfl (fun i v hv => by rw [Nat.zero_add]; exact hv) rfl ?_)
  refine hwXR ?_
  refine HL.one (H1.stAgg (cs := row 8 fun i => slot (q i)) (vs := row 8 fun i => slot (q i)) rfl rfl rfl (slot_one q) Rpl.here rfl ?_)
  refine hwXR ?_
  exact HX.retc1 (cs := row 8 fun i => slot (q i)) rfl rfl (.head _) rfl fun w' hM => ⟨q, fun i hi => isOf_sorted (hI i hi).1.1 ((hI i hi).2 hi) (hI i hi).1.2, rfl, hM.tail.pack1⟩
end Go.Sx
/- Chapter 21: questions; conditions on records as closures; slices.ContainsFunc at records. -/
namespace Go.Sx
open Go Go.Proofs Go.RowKit
theorem hwXT {G G2 : Prop} (x : G2) (hwq : Hold G2 → G := by
    intro hQq
    repeat' (first | apply HL.fold | apply HA.fold | apply HL.nil | apply HX.n_then | apply HC.seq | apply HC.region | refine HL.pa ?_ | refine HL.ga rfl ?_ | refine HL.na rfl ?_ | refine HL.nu rfl rfl ?_ | apply HC.block | apply HC.skip | apply HC.exit | apply HC.ret | apply HX.e_block | refine HX.e_other rfl ?_ | apply HX.e_then | apply HX.e_again | apply HX.n_block | apply HX.r_then | apply HX.r_block | apply HX.r_again | refine HC.cond_yes rfl ?_ | refine HC.cond_no rfl ?_ | refine HL.one (H1.ldb rfl memA rfl rfl ?_) | refine HC.cond rfl (fun hc => ?_) (fun hc => ?_) | refine HC.cond_b rfl (fun hc => ?_) (fun hc => ?_))
    exact hQq.get) : G := hwq ⟨x⟩
section
variable {P : Program} {r : Option Nat} {N : Nat} {ds : List Deferred} {Q : Post} {E : Env} {w0 w : World} {H : List Atom} {next : Act → World → Prop} {g : Option (Nat × Bool)}
variable {d : Nat} {t t' ty e : TypeId} {pos : String} {af : Array Edge} {x y : Operand}
/-- A function value that answers a question about records. -/
def Pr (P : Program) (w : World) (fv : Value) (l : List Rc) (p : Rc → Bool) : Prop :=
  ∃ (f : FuncId) (pre cap : List Value), fv = .func (.func f) pre.toArray cap.toArray ∧ CallOk P f ∧ ∀ w', Ext w w' → ∀ r ∈ l, Fn P f (pre ++ [recV r] ++ cap).toArray w' fun v w'' => v = .bool (p r) ∧ Ext w' w''
theorem Pr.ext {w' : World} {fv : Value} {l : List Rc} {p : Rc → Bool} (h : Pr P w fv l p) (k : Ext w w') : Pr P w' fv l p := by
  obtain ⟨f, pre, cap, h1, h2, h3⟩ := h
  exact ⟨f, pre, cap, h1, h2, fun w'' hx => h3 w'' (k.trans hx)⟩
theorem W1.callvp {d : Option Nat} {x : Operand} {f : FuncId} {pre cap : List Value} {args : List Operand} {ats : Array TypeId} {ty : TypeId} {pos : String} {af : Array Edge} {g : Option (Nat × Bool)} {vs : List Value} {R : Value → World → Prop}
    (hf : CallOk P f) (hd : dOk d N = true) (hx : Env.ev E x = some (.func (.func f) pre.toArray cap.toArray)) (ha : Env.evs E args = some vs) (hc : Fn P f (pre ++ vs ++ cap).toArray w R)
    (h : ∀ v w', R v w' → NX N ds next (putE d v E) w') :
    W1 P r N ds next ⟨d, .call ⟨.value x, args.toArray, ats⟩, ty, pos, af, g⟩ Q E w :=
  W1.enter hd (fun a hr => by
    have hm : Array.map a.eval args.toArray = vs.toArray := by simp [hr.evs ha]
    simp [execOp, resolve, hm, hr.ev hx, Deferred.ofValue, invoke, hf.run]) hc h
theorem H1.callpr {d : Option Nat} {l : List Rc} {p : Rc → Bool} {fv : Value} {rc : Rc} {ats : Array TypeId} (hp : ∀ w, Mm w0 H w → Pr P w fv l p) (hl : rc ∈ l) (hd : dOk d N = true) (hx : Env.ev E x = some fv) (ha : Env.evs E [y] = some [recV rc])
    (h : HN N ds next (putE d (.bool (p rc)) E) w0 H) : H1 P r N ds next ⟨d, .call ⟨.value x, [y].toArray, ats⟩, ty, pos, af, g⟩ Q E w0 H := fun w hM => by
  obtain ⟨f, pre, cap, rfl, hf, hc⟩ := hp w hM
  exact W1.callvp hf hd hx ha (hc w (Ext.refl w) rc hl) (by
    rintro v w' ⟨rfl, hx'⟩; exact h _ (hM.more hx'))
end
abbrev qV (a b d : Int) : Value := .agg #[zv a, zv b, zv d]
def qc (a b d : Int) : List Value := [zv a, zv b, zv d]
def nowB (d : Int) (r : Rc) : Bool := decide (r.start ≤ d) && decide (d ≤ r.stop)
def aboutB (a b d : Int) (r : Rc) : Bool := decide (r.pack = a) && ((decide (r.purpose = 0) || decide (r.purpose = b)) && nowB d r)
def hasB (a b d : Int) (r : Rc) : Bool := decide (r.person = a) && (decide (r.role = b) && nowB d r)
def embB (a d : Int) (r : Rc) : Bool := decide (r.pack = a) && nowB d r
def overB (i d : Int) (x : Rc) : Bool := decide (x.party = i) && decide (x.start ≤ d)
def heldB (rel : List Rc) (a d : Int) (r : Rc) : Bool := (decide (r.pack = 0) || decide (r.pack = a)) && (nowB d r && !(rel.any (overB r.id d)))
theorem ldRec {w0 w : World} {H : List Atom} {b : Nat} {cs : List Value} (hc : ∀ i v, cs[i]? = some v → w0.cell? ⟨b, i, none⟩ = some v) (hM : Mm w0 H w) : ∀ i v, cs[i]? = some v → w.cell? ⟨b, 0 + i, none⟩ = some v := fun i v hv => by
  rw [Nat.zero_add]; exact cell_ext hM.ext (hc i v hv)
attribute [local irreducible] WC WL WX POp Then Again Fn NX W1 WA WO QL RP RA Yld LoopAt HC HL HX HN H1 HA HO HQ HB HP A.blk A.grow A.rd A.obj A.mp AgainH CutH
theorem isNow_fn (a b d : Int) (r : Rc) (w : World) : Fn Tryz.prog 115 #[qV a b d, recV r] w fun v w' => v = .bool (nowB d r) ∧ Ext w w' := by
  refine enterH (l := [_, _]) rfl Tryz.ntmps115 rfl ?_
  refine hwXT ?_
  refine HL.one (H1.boxAgg (cs := qc a b d) rfl rfl (fun b2 => ?_))
  refine hwXT ?_
  refine HL.one (H1.boxAgg (cs := rcells r) rfl rfl (fun b3 => ?_))
  by_cases h1 : r.start ≤ d
  · refine hwXT ?_
    exact HX.ret1 rfl rfl fun w' hM => ⟨by unfold nowB; rw [decide_eq_true h1, Bool.true_and], hM.ext⟩
  · refine hwXT ?_
    exact HX.ret1 rfl rfl fun w' hM => ⟨by unfold nowB; rw [decide_eq_false h1, Bool.false_and], hM.ext⟩
theorem isAbout_fn (a b d : Int) (r : Rc) (w : World) : Fn Tryz.prog 57 #[qV a b d, recV r] w fun v w' => v = .bool (aboutB a b d r) ∧ Ext w w' := by
  refine enterH (l := [_, _]) rfl Tryz.ntmps57 rfl ?_
  refine hwXT ?_
  refine HL.one (H1.boxAgg (cs := qc a b d) rfl rfl (fun b2 => ?_))
  refine hwXT ?_
  refine HL.one (H1.boxAgg (cs := rcells r) rfl rfl (fun b3 => ?_))
  by_cases h1 : r.pack = a
  rotate_left
  · refine hwXT ?_
    exact HX.ret1 rfl rfl fun w' hM => ⟨by unfold aboutB; rw [decide_eq_false h1, Bool.false_and], hM.ext⟩
  by_cases h2 : r.purpose = 0
  · refine hwXT ?_
    refine HL.one (H1.ldAgg (vs := qc a b d) rfl memA rfl (fun i v hv => by rw [Nat.zero_add]; exact hv) rfl ?_)
    refine hwXT ?_
    refine HL.one (H1.ldAgg (vs := rcells r) rfl memA rfl (fun i v hv => by rw [Nat.zero_add]; exact hv) rfl ?_)
    refine hwXT ?_
    refine HL.one (H1.callx (vs := [qV a b d, recV r]) rfl rfl (fun w' _ => isNow_fn a b d r w') ?_)
    refine hwXT ?_
    exact HX.ret1 rfl rfl fun w' hM => ⟨by unfold aboutB; rw [decide_eq_true h1, decide_eq_true h2, Bool.true_and, Bool.true_or, Bool.true_and], hM.ext⟩
  by_cases h3 : r.purpose = b
  rotate_left
  · refine hwXT ?_
    exact HX.ret1 rfl rfl fun w' hM => ⟨by unfold aboutB; rw [decide_eq_true h1, decide_eq_false h2, decide_eq_false h3]; rfl, hM.ext⟩
  · refine hwXT ?_
    refine HL.one (H1.ldAgg (vs := qc a b d) rfl memA rfl (fun i v hv => by rw [Nat.zero_add]; exact hv) rfl ?_)
    refine hwXT ?_
    refine HL.one (H1.ldAgg (vs := rcells r) rfl memA rfl (fun i v hv => by rw [Nat.zero_add]; exact hv) rfl ?_)
    refine hwXT ?_
    refine HL.one (H1.callx (vs := [qV a b d, recV r]) rfl rfl (fun w' _ => isNow_fn a b d r w') ?_)
    refine hwXT ?_
    exact HX.ret1 rfl rfl fun w' hM => ⟨by unfold aboutB; rw [decide_eq_true h1, decide_eq_false h2, decide_eq_true h3, Bool.true_and, Bool.or_true, Bool.true_and], hM.ext⟩
theorem has1_fn (r : Rc) (bp br bq : Nat) (a b d x y : Int) (w : World) (hp : w.cell? ⟨bp, 0, none⟩ = some (zv a)) (hr : w.cell? ⟨br, 0, none⟩ = some (zv b)) (hq : ∀ i v, (qc x y d)[i]? = some v → w.cell? ⟨bq, i, none⟩ = some v) :
    Fn Tryz.prog 234 #[recV r, .pointer (some ⟨bp, 0, none⟩), .pointer (some ⟨br, 0, none⟩), .pointer (some ⟨bq, 0, none⟩)] w fun v w' => v = .bool (hasB a b d r) ∧ Ext w w' := by
  refine enterH (l := [_, _, _, _]) rfl Tryz.ntmps234 rfl ?_
  refine hwXT ?_
  refine HL.one (H1.boxAgg (cs := rcells r) rfl rfl (fun b4 => ?_))
  refine hwXT ?_
  refine HL.one (H1.ld0 rfl hp rfl ?_)
  by_cases h1 : r.person = a
  rotate_left
  · refine hwXT ?_
    exact HX.ret1 rfl rfl fun w' hM => ⟨by unfold hasB; rw [decide_eq_false h1, Bool.false_and], hM.ext⟩
  refine hwXT ?_
  refine HL.one (H1.ld0 rfl hr rfl ?_)
  by_cases h2 : r.role = b
  rotate_left
  · refine hwXT ?_
    exact HX.ret1 rfl rfl fun w' hM => ⟨by unfold hasB; rw [decide_eq_false h2, Bool.false_and, Bool.and_false], hM.ext⟩
  refine hwXT ?_
  refine HL.one (H1.ldAggw (vs := qc x y d) rfl rfl (fun w' hM => ldRec hq hM) rfl ?_)
  refine hwXT ?_
  refine HL.one (H1.ldAgg (vs := rcells r) rfl memA rfl (fun i v hv => by rw [Nat.zero_add]; exact hv) rfl ?_)
  refine hwXT ?_
  refine HL.one (H1.callx (vs := [qV x y d, recV r]) rfl rfl (fun w' _ => isNow_fn x y d r w') ?_)
  refine hwXT ?_
  exact HX.ret1 rfl rfl fun w' hM => ⟨by unfold hasB; rw [decide_eq_true h1, decide_eq_true h2, Bool.true_and, Bool.true_and], hM.ext⟩
theorem emb1_fn (r : Rc) (bp bq : Nat) (a d x y : Int) (w : World) (hp : w.cell? ⟨bp, 0, none⟩ = some (zv a)) (hq : ∀ i v, (qc x y d)[i]? = some v → w.cell? ⟨bq, i, none⟩ = some v) :
    Fn Tryz.prog 164 #[recV r, .pointer (some ⟨bp, 0, none⟩), .pointer (some ⟨bq, 0, none⟩)] w fun v w' => v = .bool (embB a d r) ∧ Ext w w' := by
  refine enterH (l := [_, _, _]) rfl Tryz.ntmps164 rfl ?_
  refine hwXT ?_
  refine HL.one (H1.boxAgg (cs := rcells r) rfl rfl (fun b4 => ?_))
  refine hwXT ?_
  refine HL.one (H1.ld0 rfl hp rfl ?_)
  by_cases h1 : r.pack = a
  rotate_left
  · refine hwXT ?_
    exact HX.ret1 rfl rfl fun w' hM => ⟨by unfold embB; rw [decide_eq_false h1, Bool.false_and], hM.ext⟩
  refine hwXT ?_
  refine HL.one (H1.ldAggw (vs := qc x y d) rfl rfl (fun w' hM => ldRec hq hM) rfl ?_)
  refine hwXT ?_
  refine HL.one (H1.ldAgg (vs := rcells r) rfl memA rfl (fun i v hv => by rw [Nat.zero_add]; exact hv) rfl ?_)
  refine hwXT ?_
  refine HL.one (H1.callx (vs := [qV x y d, recV r]) rfl rfl (fun w' _ => isNow_fn x y d r w') ?_)
  refine hwXT ?_
  exact HX.ret1 rfl rfl fun w' hM => ⟨by unfold embB; rw [decide_eq_true h1, Bool.true_and], hM.ext⟩
theorem id1_fn (r : Rc) (w : World) : Fn Tryz.prog 165 #[recV r] w fun v w' => v = zv r.id ∧ Ext w w' := by
  refine enterH (l := [_]) rfl Tryz.ntmps165 rfl ?_
  refine hwXT ?_
  refine HL.one (H1.boxAgg (cs := rcells r) rfl rfl (fun b1 => ?_))
  refine hwXT ?_
  exact HX.ret1 rfl rfl fun w' hM => ⟨rfl, hM.ext⟩
theorem indexFunc_fn (a : Option Addr) (c : Nat) (l : List Rc) (p : Rc → Bool) (fv : Value) (hl : l.length ≤ 1000000) (w : World) (hR : RdR w (.slice a l.length c) l) (hp : Pr Tryz.prog w fv l p) :
    Fn Tryz.prog 173 #[.slice a l.length c, fv] w fun v w' => ∃ k : Int, (0 ≤ k ↔ l.any p = true) ∧ v = zv k ∧ Ext w w' := by
  refine enterH (l := [_, _]) rfl Tryz.ntmps173 rfl ?_
  refine hwXT ?_
  refine HC.loop (α := Nat) (fun j => [(0, .slice a l.length c), (1, fv), (7, zv (l.length : Int)), (8, zv (j : Int))]) (fun _ => []) (fun j => j ≤ l.length ∧ (l.take j).any p = false) (fun j => l.length - j) 0 ⟨Nat.zero_le _, rfl⟩ esA (Hs.refl _) ?_
  rintro j ⟨hj, hI⟩
  by_cases hlt : j < l.length
  · obtain ⟨r, hr⟩ : ∃ r, l[j]? = some r := ⟨_, List.getElem?_eq_getElem hlt⟩
    have hrm := List.mem_of_getElem? hr
    have htk : l.take (j + 1) = l.take j ++ [r] := by rw [List.take_add_one, hr]; rfl
    obtain ⟨bl, off, rfl, -, hcell⟩ := hR.at (fun e => by rw [e] at hlt; exact absurd hlt (Nat.not_lt_zero _))
    have hcl := hcell j r hr
    clear hcell
    refine hwXT ?_
    refine HL.one (H1.ldAggw (vs := rcells r) rfl rfl (fun w' hM i v hv => cell_ext hM.ext (hcl i v hv)) rfl ?_)
    refine hwXT ?_
    refine HL.one (H1.callpr (y := .tmp 15) (fun w' hM => hp.ext hM.ext) hrm rfl rfl rfl ?_)
    cases hpr : p r
    · refine hwXT ?_
      exact HX.again (j + 1) ⟨hlt, by rw [htk, List.any_append, hI]; simp [hpr]⟩ (by omega) esA (Hs.refl _)
    · refine hwXT ?_
      exact HX.ret1 rfl rfl fun w' hM => ⟨j, ⟨fun _ => List.any_eq_true.2 ⟨r, hrm, hpr⟩, fun _ => Int.natCast_nonneg j⟩, rfl, hM.ext⟩
  obtain rfl : j = l.length := by omega
  rw [List.take_length] at hI
  refine hwXT ?_
  exact HX.ret1 rfl rfl fun w' hM => ⟨-1, ⟨fun h => absurd h (by decide), fun h => by rw [hI] at h; cases h⟩, rfl, hM.ext⟩
theorem containsFunc_fn (a : Option Addr) (c : Nat) (l : List Rc) (p : Rc → Bool) (fv : Value) (hl : l.length ≤ 1000000) (w : World) (hR : RdR w (.slice a l.length c) l) (hp : Pr Tryz.prog w fv l p) :
    Fn Tryz.prog 166 #[.slice a l.length c, fv] w fun v w' => v = .bool (l.any p) ∧ Ext w w' := by
  refine enterH (l := [_, _]) rfl Tryz.ntmps166 rfl ?_
  refine hwXT ?_
  refine HL.one (H1.callp (α := Int) (V := zv) (I := fun k => 0 ≤ k ↔ l.any p = true) (vs := [.slice a l.length c, fv]) rfl rfl (fun w' hM => indexFunc_fn a c l p fv hl w' (hR.ext hM.ext) (hp.ext hM.ext)) ?_)
  intro k hk
  refine hwXT ?_
  exact HX.ret1 rfl rfl fun w' hM => ⟨congrArg Value.bool (by rw [Bool.eq_iff_iff, decide_eq_true_eq]; exact hk), hM.ext⟩
end Go.Sx
