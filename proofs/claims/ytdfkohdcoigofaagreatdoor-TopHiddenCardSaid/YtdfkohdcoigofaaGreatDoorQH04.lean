/- content.Value at the fixed example of the top laws: the walk. -/
import Derived.Test.YtdfkohdcoigofaaGreatDoorQH03
import Derived.Laws.OwnMore
import Derived.DeepKeys
namespace Go.Sx
open Go Go.Proofs Go.RowKit
theorem hwF2 {G G2 : Prop} (x : G2) (hwq : Hold G2 → G := by
    intro hQq
    repeat' (first | refine HL.pa ?_ (POp.nilCheck rfl) | apply HL.fold | apply HA.fold | apply HL.nil | apply HX.n_then | apply HC.seq | apply HC.region | refine HL.pa ?_ | refine HL.ga rfl ?_ | refine HL.na rfl ?_ | refine HL.nu rfl rfl ?_ | apply HC.block | apply HC.skip | apply HC.exit | apply HC.ret | apply HX.e_block | refine HX.e_other rfl ?_ | apply HX.e_then | apply HX.e_again | apply HX.n_block | apply HX.r_then | apply HX.r_block | apply HX.r_again | refine HC.cond_yes rfl ?_ | refine HC.cond_no rfl ?_ | refine HL.one (H1.ldb rfl memA rfl rfl ?_) | refine HC.cond rfl (fun hc => ?_) (fun hc => ?_) | refine HC.cond_b rfl (fun hc => ?_) (fun hc => ?_))
    exact hQq.get) : G := hwq ⟨x⟩
def xpC (i : Nat) : Cl := if i = 0 then ⟨0, 0, false, 5, 0, 0⟩ else if i = 1 then ⟨0, 1, false, 7, 0, 0⟩ else ⟨1, 1, true, 0, 0, 0⟩
def xpAb : ByteArray := ⟨#[65, 98]⟩
def xpL (_ : Nat) : ByteArray × Int := (xpAb, 2)
theorem xpAb_text : Lib.idxFunc notText true xpAb = -1 := by decide +kernel
theorem xpL_ok (i : Nat) : LnOk (xpL i) := ⟨by show 2 ≤ 80; decide, xpAb_text, by show (0 : Int) ≤ 2 ∧ (2 : Int) ≤ 7; decide⟩
theorem xpC_ok (i : Nat) : ClOk (xpC i) := by
  unfold xpC
  by_cases h0 : i = 0
  · rw [if_pos h0]
    exact ⟨by decide, by decide, fun h => (by cases h), fun _ => by decide⟩
  · rw [if_neg h0]
    by_cases h1 : i = 1
    · rw [if_pos h1]
      exact ⟨by decide, by decide, fun h => (by cases h), fun _ => by decide⟩
    · rw [if_neg h1]
      exact ⟨by decide, by decide, fun _ => by decide, fun h => (by cases h)⟩
theorem xpC_asc : ClAsc xpC 3 := fun i hi => by
  match i, hi with
  | 0, _ => exact .inr ⟨rfl, by decide⟩
  | 1, _ => exact .inl (by decide)
  | n + 2, h => omega
def xpV : List Int := [5, 7, 12]
attribute [local irreducible] WC WL WX POp Then Again Fn NX W1 WA WO QL RP RA Yld LoopAt HC HL HX HN H1 HA HO HQ HB HP A.blk A.grow A.rd A.obj A.mp AgainH CutH
attribute [local irreducible] A.mq A.mit
theorem value1_fn (x : Cl) (b4 b5 : Nat) (r c : Int) (w : World) (h4 : w.cell? ⟨b4, 0, none⟩ = some (zv r)) (h5 : w.cell? ⟨b5, 0, none⟩ = some (zv c)) :
    Fn Tryz.prog 65 #[.agg (clC x).toArray, .pointer (some ⟨b4, 0, none⟩), .pointer (some ⟨b5, 0, none⟩)] w fun u w' => u = .bool (decide (x.row = r) && decide (x.col = c)) ∧ Ext w w' := by
  refine enterH (l := [_, _, _]) rfl Tryz.ntmps65 rfl ?_
  unfold clC
  refine hwF2 ?_
  refine HL.one (H1.boxAgg (cs := [zv x.row, zv x.col, .bool x.sum, zv x.val, zv x.top, zv x.left]) rfl rfl (fun b3 => ?_))
  refine hwF2 ?_
  refine HL.one (H1.ld0 rfl h4 rfl ?_)
  by_cases h : x.row = r
  · refine hwF2 ?_
    refine HL.one (H1.ld0 rfl h5 rfl ?_)
    refine hwF2 ?_
    exact HX.ret1 rfl rfl fun w' hM => ⟨by rw [decide_eq_true h]; rfl, hM.ext⟩
  · refine hwF2 ?_
    exact HX.ret1 rfl rfl fun w' hM => ⟨by rw [decide_eq_false h]; rfl, hM.ext⟩
set_option maxHeartbeats 4000000 in
theorem values_fn (vl vc : Value) (hl1 : vl.oneCell' = true) (w : World) (hR : RdK w vc 3 6 fun i => clC (xpC i)) :
    Fn Tryz.prog 66 #[.agg #[vl, vc, zv 0, .string ⟨#[]⟩]] w fun u w' => ∃ z : Option Addr × Nat, True ∧ u = .slice z.1 3 z.2 ∧ Mm w [A.grow 3 1 z.1 z.2 3 (ints xpV)] w' := by
  obtain ⟨ac, cc, rfl, hcc, -⟩ := id hR
  obtain ⟨bc, offc, rfl, hb⟩ := hR.cell (show 0 < 3 by decide)
  refine enterH (l := [_]) rfl Tryz.ntmps66 rfl ?_
  refine hwF2 ?_
  refine HL.one (H1.boxAgg (cs := [vl, .slice (some ⟨bc, offc, none⟩) 3 cc, zv 0, .string ⟨#[]⟩]) rfl rfl (fun b1 => ?_))
  refine hwF2 ?_
  refine HC.grow0 3 1 ?_
  refine HC.loop (α := Nat × Option Addr × Nat) (fun q => [(1, .pointer (some ⟨b1, 0, none⟩)), (3, .slice q.2.1 q.1 q.2.2), (11, .slice (some ⟨bc, offc, none⟩) 3 cc), (12, zv 3), (13, zv (q.1 : Int))]) (fun q => [A.grow 3 1 q.2.1 q.2.2 q.1 (ints (xpV.take q.1)), A.blk b1 [vl, .slice (some ⟨bc, offc, none⟩) 3 cc, zv 0, .string ⟨#[]⟩] 140]) (fun q => q.1 ≤ 3 ∧ (0 < q.1 → ∃ b, q.2.1 = some ⟨b, 0, none⟩)) (fun q => 3 - q.1) (0, none, 0) ⟨Nat.zero_le _, fun h => absurd h (Nat.lt_irrefl _)⟩ esA (by repeat (first | exact Hs.nil _ | (refine Hs.cons pickA ?_))) ?_
  rintro ⟨k, a, c⟩ ⟨hk, hka⟩
  dsimp only at hk hka ⊢
  by_cases hlt : k < 3
  rotate_left
  · have hn : ¬ ((k : Nat) : Int) < 3 := by omega
    obtain rfl : k = 3 := by omega
    refine hwF2 ?_
    exact HX.ret1 rfl rfl fun w' hM => ⟨(a, c), trivial, rfl, hM.sub (by repeat (first | exact Hs.nil _ | (refine Hs.cons pickA ?_)))⟩
  have hn : ((k : Nat) : Int) < 3 := by omega
  have hx := hb k hlt
  by_cases hk2 : k = 2
  · subst hk2
    obtain ⟨ba, rfl⟩ := hka (by decide)
    have hex : xpC 2 = ⟨1, 1, true, 0, 0, 0⟩ := rfl
    rw [hex] at hx
    refine hwF2 ?_
    refine HL.one (H1.ldAggw (b := bc) (off := offc + 2 * 6) (vs := clC ⟨1, 1, true, 0, 0, 0⟩) rfl rfl (fun w' hM i u hu => cell_ext hM.ext (hx i u hu)) rfl ?_)
    refine hwF2 ?_
    refine HL.one (H1.alloc (cs := [zv 0, zv 0, .bool false, zv 0, zv 0, zv 0]) rfl rfl (fun b5 => ?_))
    refine hwF2 ?_
    refine HL.one (H1.stAgg (b := b5) (cs := [zv 0, zv 0, .bool false, zv 0, zv 0, zv 0]) (vs := clC ⟨1, 1, true, 0, 0, 0⟩) rfl rfl rfl (clC_one _) rplA rfl ?_)
    unfold clC
    refine hwF2 ?_
    refine HC.loop (α := Nat) (fun j => [(1, .pointer (some ⟨b1, 0, none⟩)), (3, .slice (some ⟨ba, 0, none⟩) 2 c), (4, zv 2), (5, .pointer (some ⟨b5, 0, none⟩)), (6, zv (if j = 0 then 0 else if j = 1 then 5 else 12)), (11, .slice (some ⟨bc, offc, none⟩) 3 cc), (12, zv 3), (13, zv 2), (26, .slice (some ⟨bc, offc, none⟩) 2 cc), (27, zv 2), (28, zv (j : Int))]) (fun _ => [A.blk b5 [zv 1, zv 1, .bool true, zv 0, zv 0, zv 0] 72, A.grow 3 1 (some ⟨ba, 0, none⟩) c 2 (ints (xpV.take 2)), A.blk b1 [vl, .slice (some ⟨bc, offc, none⟩) 3 cc, zv 0, .string ⟨#[]⟩] 140]) (fun j => j ≤ 2) (fun j => 2 - j) 0 (Nat.zero_le _) esA (by repeat (first | exact Hs.nil _ | (refine Hs.cons pickA ?_))) ?_
    intro j hj
    match j, hj with
    | 0, _ =>
      have hy := hb 0 (by decide)
      have hey : xpC 0 = ⟨0, 0, false, 5, 0, 0⟩ := rfl
      rw [hey] at hy
      refine hwF2 ?_
      refine HL.one (H1.ldAggw (b := bc) (off := offc + 0 * 6) (vs := clC ⟨0, 0, false, 5, 0, 0⟩) rfl rfl (fun w' hM i u hu => cell_ext hM.ext (hy i u hu)) rfl ?_)
      refine hwF2 ?_
      refine HL.one (H1.alloc (cs := [zv 0, zv 0, .bool false, zv 0, zv 0, zv 0]) rfl rfl (fun b8 => ?_))
      refine hwF2 ?_
      refine HL.one (H1.stAgg (b := b8) (cs := [zv 0, zv 0, .bool false, zv 0, zv 0, zv 0]) (vs := clC ⟨0, 0, false, 5, 0, 0⟩) rfl rfl rfl (clC_one _) rplA rfl ?_)
      unfold clC
      refine hwF2 ?_
      refine HL.one (H1.callx (vs := [_, _, _]) rfl rfl (fun w' _ => cwithin_yes (by decide) (by decide) w') ?_)
      refine hwF2 ?_
      refine HL.one (H1.callx (vs := [_, _, _]) rfl rfl (fun w' _ => cwithin_yes (by decide) (by decide) w') ?_)
      refine hwF2 ?_
      refine HL.one (H1.ldg (b := ba) (c := c) (n := 2) (vs := ints (xpV.take 2)) (v := zv 5) rfl memA rfl rfl ?_)
      refine hwF2 ?_
      exact HX.again 1 (by decide) (by decide) esA (by repeat (first | exact Hs.nil _ | (refine Hs.cons pickA ?_)))
    | 1, _ =>
      have hy := hb 1 (by decide)
      have hey : xpC 1 = ⟨0, 1, false, 7, 0, 0⟩ := rfl
      rw [hey] at hy
      refine hwF2 ?_
      refine HL.one (H1.ldAggw (b := bc) (off := offc + 1 * 6) (vs := clC ⟨0, 1, false, 7, 0, 0⟩) rfl rfl (fun w' hM i u hu => cell_ext hM.ext (hy i u hu)) rfl ?_)
      refine hwF2 ?_
      refine HL.one (H1.alloc (cs := [zv 0, zv 0, .bool false, zv 0, zv 0, zv 0]) rfl rfl (fun b8 => ?_))
      refine hwF2 ?_
      refine HL.one (H1.stAgg (b := b8) (cs := [zv 0, zv 0, .bool false, zv 0, zv 0, zv 0]) (vs := clC ⟨0, 1, false, 7, 0, 0⟩) rfl rfl rfl (clC_one _) rplA rfl ?_)
      unfold clC
      refine hwF2 ?_
      refine HL.one (H1.callx (vs := [_, _, _]) rfl rfl (fun w' _ => cwithin_yes (by decide) (by decide) w') ?_)
      refine hwF2 ?_
      refine HL.one (H1.callx (vs := [_, _, _]) rfl rfl (fun w' _ => cwithin_yes (by decide) (by decide) w') ?_)
      refine hwF2 ?_
      refine HL.one (H1.ldg (b := ba) (c := c) (n := 2) (vs := ints (xpV.take 2)) (v := zv 7) rfl memA rfl rfl ?_)
      refine hwF2 ?_
      exact HX.again 2 (by decide) (by decide) esA (by repeat (first | exact Hs.nil _ | (refine Hs.cons pickA ?_)))
    | 2, _ =>
      refine hwF2 ?_
      refine HL.one (H1.lit (cs := [zv 12]) rfl rfl rfl rfl rfl rfl (fun b8 => ?_))
      refine hwF2 ?_
      refine HL.one (H1.app1 (u := zv 12) rfl rfl (fun _ _ => by first | ((repeat (first | with_reducible exact Rpl.here | with_reducible apply Rpl.there)); done) | (repeat (first | exact Rpl.here | apply Rpl.there))) memA rfl rfl (by decide) rfl rfl (fun a2 c2 => ?_))
      refine hwF2 ?_
      exact HX.again (3, some ⟨a2, 0, none⟩, c2) ⟨Nat.le_refl _, fun _ => ⟨a2, rfl⟩⟩ (by show 3 - 3 < 3 - 2; decide) esA (by repeat (first | exact Hs.nil _ | (refine Hs.cons pickA ?_)))
    | n + 3, h => omega
  · obtain ⟨v, hv, hx2⟩ : ∃ v : Int, (v = 5 ∧ k = 0 ∨ v = 7 ∧ k = 1) ∧ ∃ cl, xpC k = ⟨0, cl, false, v, 0, 0⟩ := by
      match k, hlt with
      | 0, _ => exact ⟨5, .inl ⟨rfl, rfl⟩, 0, rfl⟩
      | 1, _ => exact ⟨7, .inr ⟨rfl, rfl⟩, 1, rfl⟩
      | 2, _ => exact absurd rfl hk2
      | n + 3, h => omega
    obtain ⟨cl, hx2⟩ := hx2
    rw [hx2] at hx
    have happ : ints (xpV.take k) ++ [zv v] = ints (xpV.take (k + 1)) := by
      rcases hv with ⟨rfl, rfl⟩ | ⟨rfl, rfl⟩ <;> rfl
    have hmm : min (max v (-1000000000000)) 1000000000000 = v := by omega
    refine hwF2 ?_
    refine HL.one (H1.ldAggw (b := bc) (off := offc + k * 6) (vs := clC ⟨0, cl, false, v, 0, 0⟩) rfl rfl (fun w' hM i u hu => cell_ext hM.ext (hx i u hu)) rfl ?_)
    refine hwF2 ?_
    refine HL.one (H1.alloc (cs := [zv 0, zv 0, .bool false, zv 0, zv 0, zv 0]) rfl rfl (fun b5 => ?_))
    refine hwF2 ?_
    refine HL.one (H1.stAgg (b := b5) (cs := [zv 0, zv 0, .bool false, zv 0, zv 0, zv 0]) (vs := clC ⟨0, cl, false, v, 0, 0⟩) rfl rfl rfl (clC_one _) rplA rfl ?_)
    unfold clC
    refine hwF2 ?_
    rw [hmm]
    refine HL.one (H1.lit (cs := [zv v]) rfl rfl rfl rfl rfl rfl (fun b8 => ?_))
    refine hwF2 ?_
    refine HL.one (H1.app1 (u := zv v) rfl rfl (fun _ _ => by first | ((repeat (first | with_reducible exact Rpl.here | with_reducible apply Rpl.there)); done) | (repeat (first | exact Rpl.here | apply Rpl.there))) memA rfl rfl (by omega) rfl rfl (fun a2 c2 => ?_))
    rw [happ]
    refine hwF2 ?_
    exact HX.again (k + 1, some ⟨a2, 0, none⟩, c2) ⟨hlt, fun _ => ⟨a2, rfl⟩⟩ (by show 3 - (k + 1) < 3 - k; omega) esA (by repeat (first | exact Hs.nil _ | (refine Hs.cons pickA ?_)))
set_option maxHeartbeats 2000000 in
theorem cvalue_fn (vl vc : Value) (w : World) (hRl : RdK w vl 1 2 fun i => lnC (xpL i)) (hRc : RdK w vc 3 6 fun i => clC (xpC i)) :
    Fn Tryz.prog 23 #[.agg #[vl, vc, zv 0, .string ⟨#[]⟩], zv 1, zv 1] w fun u w' => u = .tuple #[zv 12, .bool true] ∧ Ext w w' := by
  obtain ⟨al, cl, rfl, -, -⟩ := id hRl
  obtain ⟨ac, cc, rfl, -, -⟩ := id hRc
  refine enterH (l := [_, _, _]) rfl Tryz.ntmps23 rfl ?_
  refine hwF2 ?_
  refine HL.one (H1.boxAgg (cs := [.slice al 1 cl, .slice ac 3 cc, zv 0, .string ⟨#[]⟩]) rfl rfl (fun b3 => ?_))
  refine hwF2 ?_
  refine HL.one (H1.box rfl rfl rfl (fun b4 => ?_))
  refine hwF2 ?_
  refine HL.one (H1.box rfl rfl rfl (fun b5 => ?_))
  refine hwF2 ?_
  refine HL.one (H1.callx (u := zv 2) (vs := [.slice ac 3 cc, .func (.func 65) #[] #[.pointer (some ⟨b4, 0, none⟩), .pointer (some ⟨b5, 0, none⟩)]]) rfl rfl (fun w' hM => (indexCl_fn (p := fun i => decide ((xpC i).row = 1) && decide ((xpC i).col = 1)) (by decide) (fun _ => rfl) w' (hRc.ext hM.ext) ⟨_, [], [.pointer (some ⟨b4, 0, none⟩), .pointer (some ⟨b5, 0, none⟩)], rfl, inferInstance, fun w2 hx i _ => value1_fn (xpC i) b4 b5 1 1 w2 (cell_ext hx ((hM.blk (b := b4) (cs := [zv 1]) memA).cell (i := 0) rfl)) (cell_ext hx ((hM.blk (b := b5) (cs := [zv 1]) memA).cell (i := 0) rfl))⟩).mono fun u w'' h => by
    obtain ⟨k, h1, h2, h3⟩ := h
    refine ⟨?_, h3⟩
    rw [h2]
    rcases h1 with ⟨-, h1⟩ | ⟨j, rfl, hj, h4, h5⟩
    · have := h1 2 (by decide); cases this
    · match j, hj with
      | 0, _ => cases h5
      | 1, _ => cases h5
      | 2, _ => rfl
      | n + 3, h => omega) ?_)
  refine hwF2 ?_
  refine HL.one (H1.ldAgg (b := b3) (vs := [.slice al 1 cl, .slice ac 3 cc, zv 0, .string ⟨#[]⟩]) rfl memA rfl (fun i v hv => by rw [Nat.zero_add]; exact hv) rfl ?_)
  refine hwF2 ?_
  refine HL.one (H1.callx (vs := [_]) rfl rfl (fun w' hM => cvalid_fn (by decide) (by decide) (fun i _ => xpL_ok i) (fun i _ => xpC_ok i) xpC_asc w' (hRl.ext hM.ext) (hRc.ext hM.ext)) ?_)
  refine hwF2 ?_
  refine HL.one (H1.ldAgg (b := b3) (vs := [.slice al 1 cl, .slice ac 3 cc, zv 0, .string ⟨#[]⟩]) rfl memA rfl (fun i v hv => by rw [Nat.zero_add]; exact hv) rfl ?_)
  refine hwF2 ?_
  refine HL.build (cs := [.slice al 1 cl, .slice ac 3 cc, zv 0, .string ⟨#[]⟩]) rfl rfl rfl ?_
  refine hwF2 ?_
  refine HL.one (H1.callz (vs := [_]) rfl rfl (fun w' hM => (values_fn (.slice al 1 cl) (.slice ac 3 cc) rfl w' (hRc.ext hM.ext)).shapedF) ?_)
  rintro ⟨az, cz⟩ hz
  dsimp only at hz ⊢
  obtain ⟨bz, rfl⟩ := hz.resolve_left (by decide)
  refine hwF2 ?_
  refine HL.one (H1.ldg (b := bz) (c := cz) (n := 3) (vs := ints xpV) (v := zv 12) rfl memA rfl rfl ?_)
  refine hwF2 ?_
  exact HX.ret2 rfl rfl rfl fun w' hM => ⟨rfl, hM.ext⟩
end Go.Sx
/- Plain, chapter 20: records, which of them are valid, how they are encoded. -/
namespace Go.Sx
open Go
/-- A number, seven bits at a time. -/
def vint (z : Nat) : List UInt8 := if h : z < 128 then [UInt8.ofNat z] else UInt8.ofNat (z % 128 + 128) :: vint (z / 128)
termination_by z
decreasing_by omega
theorem vint_lt {z : Nat} (h : z < 128) : vint z = [UInt8.ofNat z] := by rw [vint, dif_pos h]
theorem vint_ge {z : Nat} (h : ¬ z < 128) : vint z = UInt8.ofNat (z % 128 + 128) :: vint (z / 128) := by rw [vint, dif_neg h]
theorem u8_inj {a b : Nat} (ha : a < 256) (hb : b < 256) (h : UInt8.ofNat a = UInt8.ofNat b) : a = b := by
  have := congrArg UInt8.toNat h
  simp only [UInt8.toNat_ofNat'] at this
  omega
theorem vint_inj : ∀ (n a b : Nat), a ≤ n → ∀ {x y : List UInt8}, vint a ++ x = vint b ++ y → a = b ∧ x = y
  | n, a, b, hn, x, y, h => by
    by_cases ha : a < 128
    · rw [vint_lt ha] at h
      by_cases hb : b < 128
      · rw [vint_lt hb] at h
        simp only [List.cons_append, List.nil_append, List.cons.injEq] at h
        exact ⟨u8_inj (by omega) (by omega) h.1, h.2⟩
      · rw [vint_ge hb] at h
        simp only [List.cons_append, List.nil_append, List.cons.injEq] at h
        have := u8_inj (by omega) (by omega) h.1
        omega
    · rw [vint_ge ha] at h
      by_cases hb : b < 128
      · rw [vint_lt hb] at h
        simp only [List.cons_append, List.nil_append, List.cons.injEq] at h
        have := u8_inj (by omega) (by omega) h.1
        omega
      · rw [vint_ge hb] at h
        simp only [List.cons_append, List.cons.injEq] at h
        have h1 := u8_inj (by omega) (by omega) h.1
        match n, hn with
        | 0, hn => omega
        | n + 1, hn =>
          have h2 := vint_inj n (a / 128) (b / 128) (by omega) h.2
          exact ⟨by omega, h2.2⟩
/-- A number that is not negative, as it is encoded. -/
def putN (n : Nat) : List UInt8 := vint (2 * n)
theorem putN_inj {a b : Nat} {x y : List UInt8} (h : putN a ++ x = putN b ++ y) : a = b ∧ x = y := by
  have := vint_inj (2 * a) _ _ (Nat.le_refl _) h
  exact ⟨by omega, this.2⟩
structure Rc where
  kind : Int
  id : Int
  version : Int
  day : Int
  gone : Bool
  start : Int
  stop : Int
  pack : Int
  person : Int
  role : Int
  purpose : Int
  clause : Int
  adm : Bool
  party : Int
  text : ByteArray
def b01 (b : Bool) : Int := if b = true then 1 else 0
def Rc.get (r : Rc) : Nat → Int
  | 0 => r.id
  | 1 => r.start
  | 2 => r.stop
  | 3 => r.pack
  | 4 => r.person
  | 5 => r.role
  | 6 => r.purpose
  | 7 => r.clause
  | 8 => b01 r.adm
  | 9 => r.party
  | _ => 0
/-- The fields of a kind, with their limits, in their order. -/
def specF (k : Int) : List (Nat × Int × Int) :=
  if k = 1 then [(0, 1, 1000000), (1, 0, 100000), (2, 0, 100000), (4, 1, 1000000), (5, 1, 1000000)]
  else if k = 2 then [(7, 1, 1000000), (1, 0, 100000), (2, 0, 100000), (3, 0, 1000000), (5, 0, 1000000), (6, 0, 1000000), (8, 0, 1), (9, 0, 1000000)]
  else if k = 3 then [(0, 1, 1000000), (1, 0, 100000), (2, 0, 100000), (3, 1, 1000000), (6, 0, 1000000), (9, 1, 1000000)]
  else if k = 4 then [(0, 1, 1000000), (1, 0, 100000), (2, 0, 100000), (3, 1, 1000000)]
  else if k = 5 then [(0, 1, 1000000), (1, 0, 100000), (2, 0, 100000), (3, 0, 1000000)]
  else if k = 6 then [(9, 1, 1000000), (1, 0, 100000)]
  else if k = 7 then [(0, 1, 1000000), (1, 0, 100000), (2, 0, 100000), (3, 1, 1000000), (6, 0, 1000000), (7, 0, 63)]
  else if k = 8 then [(0, 1, 1000000), (1, 0, 100000), (3, 1, 1000000), (7, 1, 1000000)]
  else []
/-- Which field is the key. -/
def keyF (k : Int) : Nat := if k = 2 then 7 else if k = 6 then 9 else 0
def restP (r : Rc) : Prop := (r.kind ≠ 6 → r.kind ≠ 8 → r.start ≤ r.stop) ∧ (r.kind = 2 → r.clause ≠ r.party)
structure ValidR (r : Rc) : Prop where
  kind : 1 ≤ r.kind ∧ r.kind ≤ 8
  ver : 1 ≤ r.version ∧ r.version ≤ 1000000
  day : 0 ≤ r.day ∧ r.day ≤ 100000
  text : r.text.size ≤ 200
  rest : restP r
  lim : ∀ p ∈ specF r.kind, p.2.1 ≤ r.get p.1 ∧ r.get p.1 ≤ p.2.2
  zero : ∀ i, i < 10 → i ∉ (specF r.kind).map Prod.fst → r.get i = 0
theorem b01_inj {a b : Bool} (h : b01 a = b01 b) : a = b := by
  cases a <;> cases b <;> first | rfl | (exfalso; revert h; decide)
theorem ByteArray_ext' {a b : ByteArray} (h : a.data.toList = b.data.toList) : a = b := by
  cases a; cases b
  congr 1
  exact Array.toList_inj.1 h
/-- A record is what its fields are. -/
theorem Rc.ext_get {r s : Rc} (hk : r.kind = s.kind) (hv : r.version = s.version) (hd : r.day = s.day) (hg : r.gone = s.gone) (ht : r.text = s.text) (h : ∀ i, i < 10 → r.get i = s.get i) : r = s := by
  cases r; cases s
  simp only at hk hv hd hg ht
  have h0 := h 0 (by decide)
  have h1 := h 1 (by decide)
  have h2 := h 2 (by decide)
  have h3 := h 3 (by decide)
  have h4 := h 4 (by decide)
  have h5 := h 5 (by decide)
  have h6 := h 6 (by decide)
  have h7 := h 7 (by decide)
  have h8 := h 8 (by decide)
  have h9 := h 9 (by decide)
  simp only [Rc.get] at h0 h1 h2 h3 h4 h5 h6 h7 h8 h9
  have h8' := b01_inj h8
  subst hk hv hd hg ht h0 h1 h2 h3 h4 h5 h6 h7 h8' h9
  rfl
def encF (r : Rc) (l : List (Nat × Int × Int)) : List UInt8 := (l.map fun p => putN (r.get p.1).toNat).flatten
/-- The encoding of a valid record. -/
def encR (r : Rc) : List UInt8 := putN r.kind.toNat ++ (putN r.version.toNat ++ (putN r.day.toNat ++ (putN (b01 r.gone).toNat ++ (encF r (specF r.kind) ++ (putN r.text.size ++ r.text.data.toList)))))
def keyR (r : Rc) : List UInt8 := putN r.kind.toNat ++ putN (r.get (keyF r.kind)).toNat
theorem encF_inj {r s : Rc} : ∀ (l : List (Nat × Int × Int)), (∀ p ∈ l, 0 ≤ r.get p.1 ∧ 0 ≤ s.get p.1) → ∀ {x y : List UInt8}, encF r l ++ x = encF s l ++ y → (∀ p ∈ l, r.get p.1 = s.get p.1) ∧ x = y
  | [], _, x, y, h => ⟨fun p hp => absurd hp (by simp), h⟩
  | p :: l, h0, x, y, h => by
    have e : ∀ r : Rc, encF r (p :: l) = putN (r.get p.1).toNat ++ encF r l := fun r => rfl
    rw [e r, e s, List.append_assoc, List.append_assoc] at h
    obtain ⟨h1, h2⟩ := putN_inj h
    obtain ⟨h3, h4⟩ := encF_inj l (fun q hq => h0 q (List.mem_cons_of_mem _ hq)) h2
    have h5 := h0 p (List.mem_cons_self ..)
    refine ⟨fun q hq => ?_, h4⟩
    rcases List.mem_cons.1 hq with rfl | hq
    · omega
    · exact h3 q hq
theorem spec_lo {k : Int} {p : Nat × Int × Int} (h : p ∈ specF k) : 0 ≤ p.2.1 ∧ p.1 < 10 := by
  unfold specF at h
  repeat' split at h
  all_goals (simp only [List.mem_cons, List.not_mem_nil, or_false] at h)
  all_goals (first | (rcases h with rfl | rfl | rfl | rfl | rfl | rfl | rfl | rfl <;> decide) | (rcases h with rfl | rfl | rfl | rfl | rfl | rfl <;> decide) | (rcases h with rfl | rfl | rfl | rfl | rfl <;> decide) | (rcases h with rfl | rfl | rfl | rfl <;> decide) | (rcases h with rfl | rfl <;> decide))
theorem enc_inj {r s : Rc} (hr : ValidR r) (hs : ValidR s) (h : encR r = encR s) : r = s := by
  unfold encR at h
  obtain ⟨h1, h⟩ := putN_inj h
  obtain ⟨h2, h⟩ := putN_inj h
  obtain ⟨h3, h⟩ := putN_inj h
  obtain ⟨h4, h⟩ := putN_inj h
  have hk : r.kind = s.kind := by have := hr.kind; have := hs.kind; omega
  rw [← hk] at h
  obtain ⟨h5, h⟩ := encF_inj _ (fun p hp => ⟨by have := (hr.lim p hp).1; have := (spec_lo hp).1; omega, by have := (hs.lim p (hk ▸ hp)).1; have := (spec_lo hp).1; omega⟩) h
  obtain ⟨h6, h⟩ := putN_inj h
  have hb : ∀ b, 0 ≤ b01 b := fun b => by cases b <;> decide
  refine Rc.ext_get hk (by have := hr.ver; have := hs.ver; omega) (by have := hr.day; have := hs.day; omega) (b01_inj (by have := hb r.gone; have := hb s.gone; omega)) (ByteArray_ext' h) fun i hi => ?_
  by_cases hm : i ∈ (specF r.kind).map Prod.fst
  · obtain ⟨p, hp, rfl⟩ := List.mem_map.1 hm
    exact h5 p hp
  · rw [hr.zero i hi hm, hs.zero i hi (hk ▸ hm)]
end Go.Sx
/-
  The layer with atoms: maps whose keys are strings.
-/
namespace Go.Sx
open Go Go.RowKit
theorem ba_beq (a b : ByteArray) : (a == b) = decide (a = b) := by
  rw [Bool.eq_iff_iff, Go.MapKept.bytes_beq, decide_eq_true_eq]
def msetS : List (ByteArray × Value) → ByteArray → Value → List (ByteArray × Value)
  | [], x, v => [(x, v)]
  | (y, u) :: l, x, v => if x = y then (x, v) :: l else (y, u) :: msetS l x v
def mgetS : List (ByteArray × Value) → ByteArray → Option Value
  | [], _ => none
  | (y, u) :: l, x => if x = y then some u else mgetS l x
def midxS : List (ByteArray × Value) → ByteArray → Option (Nat × Value)
  | [], _ => none
  | (y, u) :: l, x => if x = y then some (0, u) else (midxS l x).map fun p => (p.1 + 1, p.2)
theorem findNow_str (x : ByteArray) : ∀ (es : List MapEntry) (l : List (ByteArray × Value)) (i : Nat), es.map (fun e => (e.key, e.val)) = l.map (fun p => (Value.string p.1, p.2)) →
    Instr.findNow (.string) (.string x) es i = some ((midxS l x).map fun p => (p.1 + i, p.2))
  | [], [], i, _ => rfl
  | [], _ :: _, _, h => by simp at h
  | _ :: _, [], _, h => by simp at h
  | e :: es, (y, u) :: l, i, h => by
    simp only [List.map_cons, List.cons.injEq, Prod.mk.injEq] at h
    obtain ⟨⟨h1, h2⟩, h3⟩ := h
    unfold Instr.findNow
    rw [h1]
    simp only [Instr.sameNow, midxS]
    rw [ba_beq]
    by_cases hxy : x = y
    · subst hxy
      simp [h2]
    · rw [decide_eq_false hxy, if_neg hxy]
      simp only
      rw [findNow_str x es l (i + 1) h3]
      cases midxS l x with
      | none => rfl
      | some p => simp; omega
theorem midxS_none {l : List (ByteArray × Value)} {x : ByteArray} (v : Value) (h : midxS l x = none) : msetS l x v = l ++ [(x, v)] := by
  induction l with
  | nil => rfl
  | cons p l ih =>
    obtain ⟨y, u⟩ := p
    simp only [midxS] at h
    by_cases hxy : x = y
    · rw [if_pos hxy] at h; cases h
    · rw [if_neg hxy] at h
      simp only [msetS, if_neg hxy, List.cons_append]
      rw [ih (by simpa using h)]
theorem midxS_some {l : List (ByteArray × Value)} {x : ByteArray} (v : Value) {i : Nat} {u : Value} (h : midxS l x = some (i, u)) : msetS l x v = l.set i (x, v) ∧ i < l.length ∧ l[i]? = some (x, u) := by
  induction l generalizing i u with
  | nil => cases h
  | cons p l ih =>
    obtain ⟨y, u'⟩ := p
    simp only [midxS] at h
    by_cases hxy : x = y
    · rw [if_pos hxy] at h
      cases h
      simp [msetS, hxy]
    · rw [if_neg hxy] at h
      rw [Option.map_eq_some_iff] at h
      obtain ⟨⟨j, u2⟩, h1, h2⟩ := h
      cases h2
      obtain ⟨h3, h4, h5⟩ := ih h1
      simp only [msetS, if_neg hxy, h3]
      exact ⟨by simp, by simpa using h4, by simpa using h5⟩
theorem run_checkKey_str {P : Program} {w : World} {k : TypeId} (hk : P.underlying k = some (.string)) (e : Bool) (n : Nat) (x : ByteArray) : (Instr.checkKey e (n + 1) k (.string x)).run P w = .ok () w := by
  unfold Instr.checkKey
  simp only [Sem.run_bind, run_underlying hk, Result.andThen]
  rfl
theorem run_keyStaysS {P : Program} {w : World} (x : ByteArray) : (Instr.keyThatStays (.string x) (.string x)).run P w = .ok (.string x) w := by
  have : Instr.sameBits 10000 (.string x) (.string x) = true := by unfold Instr.sameBits; rw [ba_beq, decide_eq_true rfl]
  unfold Instr.keyThatStays
  rw [this]; rfl
theorem run_findKey_str {P : Program} {w : World} {k : TypeId} (hk : P.underlying k = some (.string)) (x : ByteArray) (es : List MapEntry) (l : List (ByteArray × Value)) (hes : es.map (fun e => (e.key, e.val)) = l.map (fun p => (Value.string p.1, p.2))) :
    (Instr.findKey k (.string x) es).run P w = .ok (midxS l x) w := by
  unfold Instr.findKey
  simp only [Sem.run_bind, run_underlying hk, Result.andThen, findNow_str x es l 0 hes, Sem.run_pure]
  cases midxS l x <;> rfl
theorem midxS_get (l : List (ByteArray × Value)) (x : ByteArray) : (midxS l x).map (·.2) = mgetS l x := by
  induction l with
  | nil => rfl
  | cons p l ih =>
    obtain ⟨y, u⟩ := p
    simp only [midxS, mgetS]
    split
    · rfl
    · rw [← ih]; cases midxS l x <;> rfl
/-- A map that may be ranged over: what it holds, in the order in which it came; no stamp twice. -/
structure MS (l : List (ByteArray × Value)) (es : Array MapEntry) (clk : Nat) : Prop where
  ents : es.toList.map (fun e => (e.key, e.val)) = l.map fun p => (Value.string p.1, p.2)
  born : ∀ e ∈ es.toList, e.born < clk
  nd : (es.toList.map (·.born)).Nodup
theorem MS.nil : MS [] #[] 0 := ⟨rfl, by simp, by simp⟩
theorem MS.ent {l : List (ByteArray × Value)} {es : Array MapEntry} {clk : Nat} (h : MS l es clk) {e : MapEntry} (he : e ∈ es.toList) : ∃ p ∈ l, e.key = .string p.1 ∧ e.val = p.2 := by
  have h1 : (e.key, e.val) ∈ es.toList.map (fun e => (e.key, e.val)) := List.mem_map.2 ⟨e, he, rfl⟩
  rw [h.ents] at h1
  obtain ⟨p, hp, e1⟩ := List.mem_map.1 h1
  simp only [Prod.mk.injEq] at e1
  exact ⟨p, hp, e1.1.symm, e1.2.symm⟩
theorem MS.of {l : List (ByteArray × Value)} {es : Array MapEntry} {clk : Nat} (h : MS l es clk) {p : ByteArray × Value} (hp : p ∈ l) : ∃ e ∈ es.toList, e.key = .string p.1 ∧ e.val = p.2 := by
  have h1 : (Value.string p.1, p.2) ∈ l.map fun p => (Value.string p.1, p.2) := List.mem_map.2 ⟨p, hp, rfl⟩
  rw [← h.ents] at h1
  obtain ⟨e, he, e1⟩ := List.mem_map.1 h1
  simp only [Prod.mk.injEq] at e1
  exact ⟨e, he, e1.1, e1.2⟩
def msP (l : List (ByteArray × Value)) (o : Obj) : Prop := ∃ es clk, o = .map es clk ∧ MS l es clk
def A.ms (b : Nat) (l : List (ByteArray × Value)) : Atom := A.obj b (msP l)
section
variable {P : Program} {w : World} {t k e : TypeId} {b : Nat} {l : List (ByteArray × Value)} {o : Obj} {z : Value} {sz bb : Nat}
theorem run_lookup_ms2 (ht : P.underlying t = some (.map k e)) (hk : P.underlying k = some (.string)) [hi : ITy P e z sz bb] (hb : w.heap[b]? = some o) (ho : msP l o) (x : ByteArray) :
    (Instr.lookup t (.map (some b)) (.string x) true).run P w = .ok (.tuple #[(mgetS l x).getD z, .bool (mgetS l x).isSome]) w := by
  obtain ⟨es, clk, rfl, h⟩ := ho
  have hf := run_findKey_str (P := P) (w := w) hk x es.toList l h.ents
  unfold Instr.lookup
  simp only [Sem.run_bind, run_underlying ht, Result.andThen, run_getMap hb, Sem.run_pure, run_checkKey_str hk _ 9999 x, hf]
  rw [← midxS_get]
  cases midxS l x with
  | none => simp [run_zeroValue (h := hi)]
  | some p => simp
theorem run_mapUpdate_ms (ht : P.underlying t = some (.map k e)) (hk : P.underlying k = some (.string)) (hb : w.heap[b]? = some o) (ho : msP l o) (x : ByteArray) (v : Value) :
    ∃ o', (Instr.mapUpdate t (.map (some b)) (.string x) v).run P w = .ok () (w.putObj b o') ∧ msP (msetS l x v) o' := by
  obtain ⟨es, clk, rfl, h⟩ := ho
  have hes := h.ents
  have hf := run_findKey_str (P := P) (w := w) hk x es.toList l hes
  have hlen : es.size = l.length := by have := congrArg List.length hes; simpa using this
  cases hm : midxS l x with
  | none =>
    refine ⟨.map (es.push { key := .string x, val := v, born := clk }) (clk + 1), ?_, ?_⟩
    · rw [hm] at hf
      unfold Instr.mapUpdate
      simp only [Sem.run_bind, run_underlying ht, Result.andThen, run_getMap hb, run_checkKey_str hk _ 9999 x, hf, run_setMap _ hb]
    · refine ⟨_, _, rfl, ?_, ?_, ?_⟩
      · rw [midxS_none v hm]
        simp [hes]
      · intro y hy
        rw [Array.toList_push] at hy
        rcases List.mem_append.1 hy with hy | hy
        · exact Nat.lt_succ_of_lt (h.born y hy)
        · rw [List.mem_singleton] at hy; subst hy; exact Nat.lt_succ_self _
      · rw [Array.toList_push, List.map_append]
        refine List.nodup_append.2 ⟨h.nd, by simp, fun a ha c hc e => ?_⟩
        obtain ⟨y, hy, rfl⟩ := List.mem_map.1 ha
        simp only [List.map_cons, List.map_nil, List.mem_singleton] at hc
        have := h.born y hy
        omega
  | some p =>
    obtain ⟨i, u⟩ := p
    obtain ⟨h1, h2, h3⟩ := midxS_some v hm
    have hi : i < es.size := by omega
    have hkey : es[i].key = .string x := by
      have := congrArg (fun l => l[i]?) hes
      simp [h3, hi] at this
      exact this.1
    have hb2 : (es.modify i fun e => { e with key := .string x, val := v }).toList.map (·.born) = es.toList.map (·.born) := by
      apply List.ext_getElem?
      intro j
      simp only [List.getElem?_map, Array.getElem?_toList]
      rw [Array.getElem?_modify]
      by_cases e : i = j
      · subst e; simp [hi]
      · simp [e]
    refine ⟨.map (es.modify i fun e => { e with key := .string x, val := v }) clk, ?_, ?_⟩
    · rw [hm] at hf
      have hk2 : ((es[i]?).map (·.key)).getD (.string x) = .string x := by simp [hi, hkey]
      unfold Instr.mapUpdate
      simp only [Sem.run_bind, run_underlying ht, Result.andThen, run_getMap hb, run_checkKey_str hk _ 9999 x, hf, hk2, run_keyStaysS, run_setMap _ hb]
    · refine ⟨_, _, rfl, ?_, ?_, ?_⟩
      · rw [h1]
        apply List.ext_getElem?
        intro j
        have hj := congrArg (fun l => l[j]?) hes
        simp only [List.getElem?_map, Array.getElem?_toList] at hj ⊢
        rw [Array.getElem?_modify, List.getElem?_set]
        by_cases e : i = j
        · subst e
          simp [hi, h2]
        · simp only [if_neg e]
          exact hj
      · intro y hy
        have h4 : y.born ∈ (es.modify i fun e => { e with key := .string x, val := v }).toList.map (·.born) := List.mem_map.2 ⟨y, hy, rfl⟩
        rw [hb2] at h4
        obtain ⟨y0, h5, h6⟩ := List.mem_map.1 h4
        rw [← h6]; exact h.born y0 h5
      · rw [hb2]; exact h.nd
end
section
variable {P : Program} {r : Option Nat} {N : Nat} {ds : List Deferred} {ol rest : List Oper} {Q : Post} {E : Env} {w0 : World} {H : List Atom} {next : Act → World → Prop} {g : Option (Nat × Bool)}
variable {d : Nat} {t ty : TypeId} {pos : String} {af : Array Edge} {x y z : Operand}
theorem H1.mkms (hd : Nat.blt d N = true) (h : ∀ b, HN N ds next ((d, .map (some b)) :: E) w0 (A.ms b [] :: H)) : H1 P r N ds next ⟨some d, .makeMap t none, ty, pos, af, g⟩ Q E w0 H := fun w hM =>
  W1.run (v := .map (some w.heap.size)) (w' := w.alloc (.map #[] 0)) (fun _ _ => rfl) rfl hd (h _ _ (by
    refine (hM.more (Ext.alloc w _)).cons ⟨_, World.alloc_heap_new w _, _, _, rfl, MS.nil⟩ (by simp [A.ms, A.obj]) fun b hb => ?_
    have hb' : b = w.heap.size := by simpa [A.ms, A.obj] using hb
    subst hb'
    refine ⟨fun hm => ?_, hM.ext.size, by simp⟩
    have := (hM.rng _ hm).2
    omega))
theorem H1.msget2 {b : Nat} {k e : TypeId} {l : List (ByteArray × Value)} {n : ByteArray} {zv : Value} {sz bb : Nat} [ht : UTy P t (.map k e)] [hk : UTy P k (.string)] [hi : ITy P e zv sz bb] (hx : Env.ev E x = some (.map (some b))) (hy : Env.ev E y = some (.string n))
    (hm : A.ms b l ∈ H) (hd : Nat.blt d N = true) (h : HN N ds next ((d, .tuple #[(mgetS l n).getD zv, .bool (mgetS l n).isSome]) :: E) w0 H) : H1 P r N ds next ⟨some d, .lookup t x y true, ty, pos, af, g⟩ Q E w0 H := fun w hM => by
  obtain ⟨o, h1, h2⟩ : ∃ o, w.heap[b]? = some o ∧ msP l o := hM.all _ hm
  refine W1.run (v := .tuple #[(mgetS l n).getD zv, .bool (mgetS l n).isSome]) (w' := w) (fun a ha' => ?_) rfl hd (h w hM)
  simp only [execOp, ha'.ev hx, ha'.ev hy, Sem.run_bind, run_lookup_ms2 ht.is hk.is h1 h2 n, Result.andThen, Sem.run_pure]
theorem H1.msset {b : Nat} {k e : TypeId} {l : List (ByteArray × Value)} {n : ByteArray} {v : Value} {H' : List Atom} [ht : UTy P t (.map k e)] [hk : UTy P k (.string)] (hx : Env.ev E x = some (.map (some b))) (hy : Env.ev E y = some (.string n)) (hz : Env.ev E z = some v)
    (hr : Rpl (A.ms b l) (A.ms b (msetS l n v)) H H') (h : HN N ds next E w0 H') : H1 P r N ds next ⟨none, .mapUpdate t x y z, ty, pos, af, g⟩ Q E w0 H := fun w hM => by
  obtain ⟨o, hb, ho⟩ : ∃ o, w.heap[b]? = some o ∧ msP l o := hM.all _ hr.mem
  obtain ⟨o', hrun, ho'⟩ := run_mapUpdate_ms (P := P) ht.is hk.is hb ho n v
  have hlt := (Array.getElem?_eq_some_iff.1 hb).1
  refine W1.skip (w' := w.putObj b o') (fun a ha => ?_) rfl rfl (h _ (hM.turn hr rfl rfl rfl (by simp) (fun k _ hk' => ?_) ⟨o', World.putObj_heap_same hlt, ho'⟩ (by simp [A.ms, A.obj]) fun b' hb' => .inl hb'))
  · simp only [execOp, ha.ev hx, ha.ev hy, ha.ev hz, Sem.run_bind, hrun, Result.andThen, Sem.run_pure]
  · exact World.putObj_heap_other (by simpa [A.ms, A.obj] using hk')
end
theorem Mm.head {w0 w : World} {a a' : Atom} {H : List Atom} (h : Mm w0 (a :: H) w) (hfp : a'.fp = a.fp) (hp : a'.p w) : Mm w0 (a' :: H) w := by
  refine ⟨h.ext, fun x hx => ?_, ?_, fun b hb => ?_⟩
  · rcases List.mem_cons.1 hx with rfl | hx
    · exact hp
    · exact h.all x (List.mem_cons_of_mem _ hx)
  · have := h.nd
    rw [fps_cons] at this ⊢
    rwa [hfp]
  · refine h.rng b ?_
    rw [fps_cons] at hb ⊢
    rwa [hfp] at hb
/-- A map whose entries are known one by one. -/
def A.mx (b : Nat) (es : Array MapEntry) (clk : Nat) : Atom := A.obj b fun o => o = .map es clk
theorem Mm.mx {w0 w : World} {b clk : Nat} {es : Array MapEntry} {H : List Atom} (h : Mm w0 H w) (hm : A.mx b es clk ∈ H) : w.heap[b]? = some (.map es clk) := by
  obtain ⟨o, h1, rfl⟩ : ∃ o, w.heap[b]? = some o ∧ o = .map es clk := h.all _ hm
  exact h1
theorem stamp_inj : ∀ {es : List MapEntry}, (es.map (·.born)).Nodup → ∀ {e e' : MapEntry}, e ∈ es → e' ∈ es → e.born = e'.born → e = e'
  | [], _, _, _, he, _, _ => absurd he (by simp)
  | x :: es, h, e, e', he, he', hb => by
    rw [List.map_cons, List.nodup_cons] at h
    rcases List.mem_cons.1 he with h1 | h1 <;> rcases List.mem_cons.1 he' with h2 | h2
    · rw [h1, h2]
    · exact absurd (List.mem_map.2 ⟨e', h2, by rw [← hb, h1]⟩) h.1
    · exact absurd (List.mem_map.2 ⟨e, h1, by rw [hb, h2]⟩) h.1
    · exact stamp_inj h.2 h1 h2 hb
theorem map_eraseIdx {α β : Type} (f : α → β) : ∀ (l : List α) (i : Nat), (l.map f).eraseIdx i = (l.eraseIdx i).map f
  | [], _ => rfl
  | _ :: _, 0 => rfl
  | a :: l, i + 1 => by
    simp only [List.map_cons, List.eraseIdx_cons_succ]
    rw [map_eraseIdx f l i]
theorem mleft_erase (es : Array MapEntry) (i : Nat) (seen : Array Nat) : mleft (es.eraseIdxIfInBounds i) seen ≤ mleft es seen := by
  unfold mleft
  rw [Array.toList_eraseIdxIfInBounds]
  exact ((List.eraseIdx_sublist _ i).filter _).length_le
end Go.Sx
/- Plain, chapter 21: which record prevails; what is in effect. -/
namespace Go.Sx
open Go
theorem less_irr : ∀ x : List UInt8, Op.bytesLess x x = false
  | [] => rfl
  | a :: x => by
    simp only [Op.bytesLess, Bool.or_eq_false_iff, Bool.and_eq_false_iff, decide_eq_false_iff_not]
    exact ⟨UInt8.lt_irrefl a, .inr (less_irr x)⟩
theorem less_tri : ∀ x y : List UInt8, x ≠ y → Op.bytesLess x y = true ∨ Op.bytesLess y x = true
  | [], [], h => absurd rfl h
  | [], _ :: _, _ => .inl rfl
  | _ :: _, [], _ => .inr rfl
  | a :: x, b :: y, h => by
    simp only [Op.bytesLess, Bool.or_eq_true, Bool.and_eq_true, decide_eq_true_eq, beq_iff_eq]
    by_cases e : a = b
    · subst e
      rcases less_tri x y (fun e => h (by rw [e])) with h1 | h1
      · exact .inl (.inr ⟨rfl, h1⟩)
      · exact .inr (.inr ⟨rfl, h1⟩)
    · rcases UInt8.lt_or_lt_of_ne e with h1 | h1
      · exact .inl (.inl h1)
      · exact .inr (.inl h1)
theorem less_trans : ∀ x y z : List UInt8, Op.bytesLess x y = true → Op.bytesLess y z = true → Op.bytesLess x z = true
  | _, [], _, h, _ => by simp [Op.bytesLess] at h
  | _, _ :: _, [], _, h => by simp [Op.bytesLess] at h
  | [], _ :: _, _ :: _, _, _ => rfl
  | a :: x, b :: y, c :: z, h1, h2 => by
    simp only [Op.bytesLess, Bool.or_eq_true, Bool.and_eq_true, decide_eq_true_eq, beq_iff_eq] at h1 h2 ⊢
    rcases h1 with h1 | ⟨rfl, h1⟩
    · rcases h2 with h2 | ⟨rfl, h2⟩
      · exact .inl (UInt8.lt_trans h1 h2)
      · exact .inl h1
    · rcases h2 with h2 | ⟨rfl, h2⟩
      · exact .inl h2
      · exact .inr ⟨rfl, less_trans x y z h1 h2⟩
/-- One record counts rather than another one. -/
def Prev (a b : Rc) : Prop := (ValidR a ∧ ValidR b ∧ keyR a = keyR b) ∧ (b.version < a.version ∨ a.version = b.version ∧ Op.bytesLess (encR b) (encR a) = true)
theorem prev_irr (a : Rc) : ¬ Prev a a := fun h => by
  rcases h.2 with h1 | ⟨-, h1⟩
  · omega
  · rw [less_irr] at h1; cases h1
theorem prev_trans {a b c : Rc} (h1 : Prev a b) (h2 : Prev b c) : Prev a c := by
  refine ⟨⟨h1.1.1, h2.1.2.1, h1.1.2.2.trans h2.1.2.2⟩, ?_⟩
  rcases h1.2 with h3 | ⟨h3, h4⟩
  · rcases h2.2 with h5 | ⟨h5, h6⟩
    · exact .inl (by omega)
    · exact .inl (by omega)
  · rcases h2.2 with h5 | ⟨h5, h6⟩
    · exact .inl (by omega)
    · exact .inr ⟨by omega, less_trans _ _ _ h6 h4⟩
theorem prev_tri {a b : Rc} (ha : ValidR a) (hb : ValidR b) (hk : keyR a = keyR b) (h : a ≠ b) : Prev a b ∨ Prev b a := by
  by_cases h1 : a.version = b.version
  · rcases less_tri (encR b) (encR a) (fun e => h (enc_inj ha hb e.symm)) with h2 | h2
    · exact .inl ⟨⟨ha, hb, hk⟩, .inr ⟨h1, h2⟩⟩
    · exact .inr ⟨⟨hb, ha, hk.symm⟩, .inr ⟨h1.symm, h2⟩⟩
  · by_cases h2 : b.version < a.version
    · exact .inl ⟨⟨ha, hb, hk⟩, .inl h2⟩
    · exact .inr ⟨⟨hb, ha, hk.symm⟩, .inl (by omega)⟩
/-- A record that counts, by what is known on a day. -/
def Now (day : Int) (r : Rc) : Prop := ValidR r ∧ r.day ≤ day
structure Top (l : List Rc) (day : Int) (r : Rc) : Prop where
  mem : r ∈ l
  now : Now day r
  top : ∀ s ∈ l, s.day ≤ day → ¬ Prev s r
/-- What a map of keys holds behind some records. -/
structure EffM (l : List Rc) (day : Int) (m : List (List UInt8 × Rc)) : Prop where
  nd : (m.map Prod.fst).Nodup
  top : ∀ p ∈ m, p.1 = keyR p.2 ∧ Top l day p.2
  all : ∀ r ∈ l, Now day r → ∃ p ∈ m, p.1 = keyR r
theorem EffM.nil (day : Int) : EffM [] day [] := ⟨by simp, by simp, by simp⟩
theorem top_uniq {l : List Rc} {day : Int} {r s : Rc} (hr : Top l day r) (hs : Top l day s) (hk : keyR r = keyR s) : r = s := by
  apply Classical.byContradiction
  intro h
  rcases prev_tri hr.now.1 hs.now.1 hk h with h1 | h1
  · exact hs.top r hr.mem hr.now.2 h1
  · exact hr.top s hs.mem hs.now.2 h1
theorem EffM.has {l : List Rc} {day : Int} {m : List (List UInt8 × Rc)} (h : EffM l day m) (r : Rc) : (∃ p ∈ m, p.2 = r) ↔ Top l day r := by
  constructor
  · rintro ⟨p, hp, rfl⟩
    exact (h.top p hp).2
  · intro hr
    obtain ⟨p, hp, e⟩ := h.all r hr.mem hr.now
    have h1 := h.top p hp
    exact ⟨p, hp, top_uniq h1.2 hr (by rw [← h1.1, e])⟩
theorem top_snoc {l : List Rc} {day : Int} {r s : Rc} (h : Top l day r) (hs : ¬ (s.day ≤ day ∧ Prev s r)) : Top (l ++ [s]) day r :=
  ⟨List.mem_append_left _ h.mem, h.now, fun t ht hd hp => by
    rcases List.mem_append.1 ht with ht | ht
    · exact h.top t ht hd hp
    · obtain rfl := List.mem_singleton.1 ht
      exact hs ⟨hd, hp⟩⟩
/-- One that does not count. -/
theorem EffM.skip {l : List Rc} {day : Int} {m : List (List UInt8 × Rc)} (h : EffM l day m) {r : Rc} (hr : ¬ Now day r) : EffM (l ++ [r]) day m :=
  ⟨h.nd, fun p hp => ⟨(h.top p hp).1, top_snoc (h.top p hp).2 fun e => hr ⟨e.2.1.1, e.1⟩⟩, fun s hs hn => by
    rcases List.mem_append.1 hs with hs | hs
    · exact h.all s hs hn
    · obtain rfl := List.mem_singleton.1 hs
      exact absurd hn hr⟩
/-- One that does not prevail. -/
theorem EffM.keep {l : List Rc} {day : Int} {m : List (List UInt8 × Rc)} (h : EffM l day m) {r : Rc} {p : List UInt8 × Rc} (hp : p ∈ m) (hk : p.1 = keyR r) (hn : ¬ Prev r p.2) : EffM (l ++ [r]) day m :=
  ⟨h.nd, fun q hq => ⟨(h.top q hq).1, top_snoc (h.top q hq).2 fun e => by
    have h1 := (h.top q hq).1
    have h2 := (h.top p hp).1
    have h3 : q.2 = p.2 := top_uniq (h.top q hq).2 (h.top p hp).2 (by rw [← h1, ← h2, hk, h1]; exact e.2.1.2.2.symm)
    rw [h3] at e
    exact hn e.2⟩, fun s hs hs2 => by
    rcases List.mem_append.1 hs with hs | hs
    · exact h.all s hs hs2
    · obtain rfl := List.mem_singleton.1 hs
      exact ⟨p, hp, hk⟩⟩
/-- A new key. -/
theorem EffM.add {l : List Rc} {day : Int} {m : List (List UInt8 × Rc)} (h : EffM l day m) {r : Rc} (hr : Now day r) (hk : ∀ p ∈ m, p.1 ≠ keyR r) : EffM (l ++ [r]) day (m ++ [(keyR r, r)]) := by
  have hno : ∀ s ∈ l, Now day s → keyR s ≠ keyR r := fun s hs hn e => by
    obtain ⟨p, hp, e2⟩ := h.all s hs hn
    exact hk p hp (e2.trans e)
  refine ⟨?_, fun q hq => ?_, fun s hs hs2 => ?_⟩
  · rw [List.map_append]
    refine List.nodup_append.2 ⟨h.nd, by simp, fun a ha b hb e => ?_⟩
    obtain ⟨p, hp, rfl⟩ := List.mem_map.1 ha
    simp only [List.map_cons, List.map_nil, List.mem_singleton] at hb
    exact hk p hp (e.trans hb)
  · rcases List.mem_append.1 hq with hq | hq
    · have h1 := h.top q hq
      exact ⟨h1.1, top_snoc h1.2 fun e => hk q hq (by rw [h1.1]; exact e.2.1.2.2.symm)⟩
    · obtain rfl := List.mem_singleton.1 hq
      refine ⟨rfl, List.mem_append_right _ (List.mem_singleton.2 rfl), hr, fun t ht hd hp => ?_⟩
      rcases List.mem_append.1 ht with ht | ht
      · exact hno t ht ⟨hp.1.1, hd⟩ hp.1.2.2
      · obtain rfl := List.mem_singleton.1 ht
        exact prev_irr _ hp
  · rcases List.mem_append.1 hs with hs | hs
    · obtain ⟨p, hp, e⟩ := h.all s hs hs2
      exact ⟨p, List.mem_append_left _ hp, e⟩
    · obtain rfl := List.mem_singleton.1 hs
      exact ⟨_, List.mem_append_right _ (List.mem_singleton.2 rfl), rfl⟩
/-- One that prevails stands where the other one stood. -/
theorem EffM.put {l : List Rc} {day : Int} {m : List (List UInt8 × Rc)} (h : EffM l day m) {r : Rc} (hr : Now day r) {i : Nat} {s : Rc} (hi : m[i]? = some (keyR r, s)) (hp : Prev r s) : EffM (l ++ [r]) day (m.set i (keyR r, r)) := by
  have hlt : i < m.length := (List.getElem?_eq_some_iff.1 hi).1
  have hmi : (keyR r, s) ∈ m := List.mem_of_getElem? hi
  have hts := (h.top _ hmi).2
  have hfst : (m.set i (keyR r, r)).map Prod.fst = m.map Prod.fst := by
    rw [List.map_set]
    apply List.ext_getElem?
    intro j
    rw [List.getElem?_set]
    by_cases e : i = j
    · subst e
      rw [List.getElem?_eq_getElem hlt] at hi
      have e2 := Option.some.inj hi
      simp [hlt, e2]
    · simp [e]
  have hmem : ∀ q, q ∈ m.set i (keyR r, r) → q = (keyR r, r) ∨ (q ∈ m ∧ q.1 ≠ keyR r) := fun q hq => by
    obtain ⟨j, hj⟩ := List.mem_iff_getElem?.1 hq
    rw [List.getElem?_set] at hj
    by_cases e : i = j
    · subst e
      simp [hlt] at hj
      exact .inl hj.symm
    · rw [if_neg e] at hj
      refine .inr ⟨List.mem_of_getElem? hj, fun e2 => e ?_⟩
      have hjl : j < m.length := (List.getElem?_eq_some_iff.1 hj).1
      have n1 : (m.map Prod.fst)[i]? = some (keyR r) := by simp [hi]
      have n2 : (m.map Prod.fst)[j]? = some (keyR r) := by simp [hj, e2]
      exact (List.getElem?_inj (by simpa using hlt) h.nd).1 (n1.trans n2.symm)
  refine ⟨by rw [hfst]; exact h.nd, fun q hq => ?_, fun t ht hn => ?_⟩
  · rcases hmem q hq with rfl | ⟨hq, hne⟩
    · refine ⟨rfl, List.mem_append_right _ (List.mem_singleton.2 rfl), hr, fun t ht hd hpt => ?_⟩
      rcases List.mem_append.1 ht with ht | ht
      · exact hts.top t ht hd (prev_trans hpt hp)
      · obtain rfl := List.mem_singleton.1 ht
        exact prev_irr _ hpt
    · have h1 := h.top q hq
      exact ⟨h1.1, top_snoc h1.2 fun e => hne (by rw [h1.1]; exact e.2.1.2.2.symm)⟩
  · have hin : (keyR r, r) ∈ m.set i (keyR r, r) := List.mem_set hlt _
    rcases List.mem_append.1 ht with ht | ht
    · obtain ⟨p, hpm, e⟩ := h.all t ht hn
      obtain ⟨j, hj⟩ := List.mem_iff_getElem?.1 hpm
      by_cases e2 : i = j
      · subst e2
        rw [hi] at hj
        cases hj
        exact ⟨_, hin, e⟩
      · refine ⟨p, List.mem_of_getElem? (i := j) ?_, e⟩
        rw [List.getElem?_set, if_neg e2]; exact hj
    · obtain rfl := List.mem_singleton.1 ht
      exact ⟨_, hin, rfl⟩
/-- The number that is a record's key. -/
def numR (r : Rc) : Int := r.get (keyF r.kind)
def asK (L : List Rc) : Prop := L.Pairwise fun a b => numR a < numR b
/-- What is in effect by what is known on a day, of a kind: ascending. -/
structure IsOf (l : List Rc) (day : Int) (k : Int) (L : List Rc) : Prop where
  asc : asK L
  mem : ∀ r, r ∈ L ↔ (Top l day r ∧ r.gone = false) ∧ r.kind = k
end Go.Sx
/-
  The layer with atoms: many atoms as one; append of a list that may be nil.
-/
namespace Go.Sx
open Go Go.RowKit
/-- Some atoms as one. -/
def A.all (K : List Atom) : Atom := ⟨fps K, fun w => ∀ x ∈ K, x.p w, fun w w' hs h hp x hx => x.loc w w' hs (fun b hb => h b (mem_fps hx hb)) (hp x hx)⟩
theorem Mm.pack {w0 w : World} {K H : List Atom} (h : Mm w0 (K ++ H) w) : Mm w0 (A.all K :: H) w := by
  refine ⟨h.ext, fun x hx => ?_, ?_, fun b hb => ?_⟩
  · rcases List.mem_cons.1 hx with rfl | hx
    · exact fun y hy => h.all y (List.mem_append_left _ hy)
    · exact h.all x (List.mem_append_right _ hx)
  · have := h.nd; rwa [fps_append] at this
  · refine h.rng b ?_
    rw [fps_append]; exact hb
theorem Mm.pack1 {w0 w : World} {K : List Atom} (h : Mm w0 K w) : Mm w0 [A.all K] w := Mm.pack (H := []) (by simpa using h)
theorem Rpl.same {x : Atom} {H H' : List Atom} (h : Rpl x x H H') : H = H' := by
  generalize hy : x = y at h
  induction h with
  | here => rfl
  | there _ ih => rw [ih]
/-- A guarded operation, a call at that, that is not performed. -/
theorem HO.drop_a {P : Program} {N : Nat} {ds : List Deferred} {ol : List Oper} {Q : Post} {E : Env} {w0 : World} {H : List Atom} {fuel : Nat} {listed : Array Bool} {ty : TypeId} {pos : String} {af : Array Edge} {op : Op} {d : Option Nat} {i j : Nat} {want b : Bool} (hj : guardE ol E j = some b)
    (h : HA P N ds ol fuel (listed.setIfInBounds i true) Q (putE d undef E) w0 H)
    (hb : b = !want := by
      first | with_reducible rfl | assumption | (simp only [Bool.not_true, Bool.not_false]; done) | (simp only [decide_eq_true_eq, decide_eq_false_iff_not, Bool.not_true, Bool.not_false, not_true_eq_false, not_false_eq_true, reduceCtorEq]; first | done | assumption | omega)) (hd : dOk d N = true := by exact rfl) : HO P N ds ol fuel listed i ⟨d, op, ty, pos, af, some (j, want)⟩ Q E w0 H := fun w hM a ha => by
  have hy := guardE_spec hj ha
  have hne : ((some (!want) : Option Bool) == some want) = false := by cases want <;> rfl
  simp only [Region.wanted, hy, hb, hne, Bool.false_eq_true, if_false]
  exact h w hM _ (ha.putO hd undef)
section
variable {l : List (Addr × Value)} {w0 : World} {H : List Atom}
variable {P : Program} {N : Nat} {ds : List Deferred} {ol : List Oper} {Q : Post} {E : Env} {fuel : Nat} {listed : Array Bool} {ty : TypeId} {pos : String} {af : Array Edge}
end
end Go.Sx
/-
  More operations that ask nothing of the world: quotients and shifts of any number; a slice from an index on.
-/
namespace Go.Sx
open Go Go.RowKit
section
variable {P : Program} {N : Nat} {ds : List Deferred} {E : Env} {t ty t' : TypeId} {x y lo : Operand} {m n : Int} {k' : IntKind}
theorem tdiv_abs {m n : Int} (h : 0 < n) (h1 : -9223372036854775808 ≤ m) (h2 : m ≤ 9223372036854775807) : -9223372036854775808 ≤ m.tdiv n ∧ m.tdiv n ≤ 9223372036854775807 := by
  by_cases hm : 0 ≤ m
  · rw [Int.tdiv_eq_ediv_of_nonneg hm]
    have h3 := Int.ediv_le_self n hm
    have h4 := Int.ediv_nonneg hm (Int.le_of_lt h)
    omega
  · have e : m.tdiv n = -((-m) / n) := by
      rw [← Int.tdiv_eq_ediv_of_nonneg (by omega), Int.neg_tdiv, Int.neg_neg]
    have h3 := Int.ediv_le_self n (show 0 ≤ -m by omega)
    have h4 := Int.ediv_nonneg (show 0 ≤ -m by omega) (Int.le_of_lt h)
    omega
theorem POp.quoT (hx : Env.ev E x = some (.int .i64 m)) (hy : Env.ev E y = some (.int .i64 n)) (h0 : -9223372036854775808 ≤ m) (h1 : m ≤ 9223372036854775807) (h2 : 0 < n) :
    POp P N ds E (.binOp .quo t x y t') ty (.int .i64 (m.tdiv n)) := POp.bin hx hy guard_int fun w => by
  have e : n ≠ 0 := by omega
  rw [binOp_quo]
  simp only [Op.intDiv, e, if_false]
  have h3 := tdiv_abs h2 h0 h1
  rw [IntWalk.i64_in _ ⟨h3.1, h3.2⟩]; rfl
theorem shr_abs {m : Int} (n : Nat) (h1 : -9223372036854775808 ≤ m) (h2 : m ≤ 9223372036854775807) : -9223372036854775808 ≤ m / 2 ^ n ∧ m / 2 ^ n ≤ 9223372036854775807 := by
  have hp : (0 : Int) < 2 ^ n := Int.pow_pos (by decide)
  constructor
  · refine Int.le_ediv_of_mul_le hp ?_
    have : (1 : Int) ≤ 2 ^ n := hp
    generalize (2 : Int) ^ n = q at *
    omega
  · by_cases h : 0 ≤ m
    · have := Int.ediv_le_self (2 ^ n) h
      omega
    · have := Int.ediv_neg_of_neg_of_pos (show m < 0 by omega) hp
      omega
theorem POp.shrI {b : Nat} (hx : Env.ev E x = some (.int .i64 m)) (hy : Env.ev E y = some (.int k' n)) (en : n = (b : Int)) (h1 : b < 64) :
    POp P N ds E (.binOp .shr t x y t') ty (.int .i64 (m / 2 ^ b)) := POp.bin hx hy guard_int fun w => by
  subst en
  rw [binOp_shr, shift_shr_i64 k' m b (by omega) (by omega)]
  simp
theorem POp.cut_l {e : TypeId} {b off l c : Nat} {z : Value} {sz bb : Nat} [h : UTy P t (.slice e)] [hi' : ITy P e z sz bb] (hx : Env.ev E x = some (.slice (some ⟨b, off, none⟩) l c))
    (hl : Env.ev E lo = some (.int k' m)) (h0 : 0 ≤ m) (h1 : m ≤ l) (hne : m < c) :
    POp P N ds E (.slice t x (some lo) none none) ty (.slice (some ⟨b, off + m.toNat * sz, none⟩) (l - m.toNat) (c - m.toNat)) := fun a ha d pos af g w => by
  have hc : ¬ c = m.toNat := by omega
  simp [execOp, ha.ev hx, ha.ev hl, Instr.sliceAt, Instr.slice, run_underlying h.is, Instr.sliceBounds, run_bound h0 h1, Sem.run_bind, run_sizeOf, hc, add_lit]
end
end Go.Sx
/- Chapter 20: records as they lie in the memory; equality of records. -/
namespace Go.Sx
open Go Go.Proofs
def rcells (r : Rc) : List Value := [zv r.kind, zv r.id, zv r.version, zv r.day, .bool r.gone, zv r.start, zv r.stop, zv r.pack, zv r.person, zv r.role, zv r.purpose, zv r.clause, .bool r.adm, zv r.party, .string r.text]
abbrev recV (r : Rc) : Value := .agg (rcells r).toArray
def i64W (x : Int) : Prop := -9223372036854775808 ≤ x ∧ x ≤ 9223372036854775807
theorem i64W.wf {x : Int} (h : i64W x) : (Lit.int .i64 x).wf = true := by
  obtain ⟨h1, h2⟩ := h
  have e1 : IntKind.i64.min = -9223372036854775808 := rfl
  have e2 : IntKind.i64.max = 9223372036854775807 := rfl
  simp only [Lit.wf, Bool.and_eq_true, decide_eq_true_eq, e1, e2]
  omega
/-- A record whose numbers are numbers of the machine. -/
structure RcOk (r : Rc) : Prop where
  kind : i64W r.kind
  id : i64W r.id
  version : i64W r.version
  day : i64W r.day
  start : i64W r.start
  stop : i64W r.stop
  pack : i64W r.pack
  person : i64W r.person
  role : i64W r.role
  purpose : i64W r.purpose
  clause : i64W r.clause
  party : i64W r.party
  text : r.text.size ≤ maxLen
def rlits (r : Rc) : List Lit := [.int .i64 r.kind, .int .i64 r.id, .int .i64 r.version, .int .i64 r.day, .bool r.gone, .int .i64 r.start, .int .i64 r.stop, .int .i64 r.pack, .int .i64 r.person, .int .i64 r.role, .int .i64 r.purpose, .int .i64 r.clause, .bool r.adm, .int .i64 r.party, .string r.text.data.toList]
theorem rlits_inj {r s : Rc} (h : rlits r = rlits s) : r = s := by
  unfold rlits at h
  simp only [List.cons.injEq, Lit.int.injEq, Lit.bool.injEq, Lit.string.injEq, true_and, and_true] at h
  obtain ⟨h1, h2, h3, h4, h5, h6, h7, h8, h9, h10, h11, h12, h13, h14, h15⟩ := h
  cases r; cases s
  simp only at h1 h2 h3 h4 h5 h6 h7 h8 h9 h10 h11 h12 h13 h14 h15
  have h15' := ByteArray_ext' h15
  subst h1 h2 h3 h4 h5 h6 h7 h8 h9 h10 h11 h12 h13 h14 h15'
  rfl
theorem keyLits_rec {r : Rc} (h : RcOk r) : Tryz.prog.keyLits 3 36 (rcells r) = some (rlits r) := by
  have c1 : Tryz.prog.cellsOf 3 = 1 := by kernel_rfl
  have c2 : Tryz.prog.cellsOf 4 = 1 := by kernel_rfl
  have c3 : Tryz.prog.cellsOf 9 = 1 := by kernel_rfl
  have c4 : Tryz.prog.cellsOf 36 = 15 := by kernel_rfl
  have w1 := h.kind.wf
  have w2 := h.id.wf
  have w3 := h.version.wf
  have w4 := h.day.wf
  have w5 := h.start.wf
  have w6 := h.stop.wf
  have w7 := h.pack.wf
  have w8 := h.person.wf
  have w9 := h.role.wf
  have w10 := h.purpose.wf
  have w11 := h.clause.wf
  have w12 := h.party.wf
  have w13 := h.text
  simp [Program.keyLits, Tryz.underlying36, Tryz.underlying3, Tryz.underlying4, Tryz.underlying9, c1, c2, c3, c4, rcells, rlits, w1, w2, w3, w4, w5, w6, w7, w8, w9, w10, w11, w12, w13]
theorem formed_rec (r : Rc) : (recV r).formed Tryz.prog 36 = true := by
  have c4 : Tryz.prog.cellsOf 36 = 15 := by kernel_rfl
  simp [Value.formed, Tryz.underlying36, c4, rcells]
open Classical in
theorem run_eqRec {r s : Rc} (hr : RcOk r) (hs : RcOk s) (w : World) : (Op.equal 36 (recV r) (recV s)).run Tryz.prog w = .ok (decide (r = s)) w := by
  have hk : Tryz.prog.keyTypeAt 3 36 = true := by kernel_rfl
  obtain ⟨b, h1, h2⟩ := run_equalIn_deep (P := Tryz.prog) 9997 3 36 hk w 3 3 (recV r) (recV s) (rlits r) (rlits s) (formed_rec r) (formed_rec s) (by simpa [Value.cells] using keyLits_rec hr) (by simpa [Value.cells] using keyLits_rec hs)
  have e : b = decide (r = s) := by
    rw [Bool.eq_iff_iff, h2, decide_eq_true_eq]
    exact ⟨rlits_inj, fun e => by rw [e]⟩
  rw [← e]; exact h1
open Classical in
theorem POp.eqRec {N : Nat} {ds : List Deferred} {E : Env} {x y : Operand} {t' ty : TypeId} {r s : Rc} (hx : Env.ev E x = some (recV r)) (hy : Env.ev E y = some (recV s)) (hr : RcOk r) (hs : RcOk s) :
    POp Tryz.prog N ds E (.binOp .eql 36 x y t') ty (.bool (decide (r = s))) :=
  POp.bin hx hy (fun w => run_eqGuard_agg w _ _ _ _ _ _ (by kernel_rfl)) fun w => by
    have h := run_eqRec hr hs w
    simp only [Go.binOp, Sem.run_bind, h, Result.andThen, Sem.run_pure]
end Go.Sx
/- Chapter 20: the shapes of records. -/
namespace Go.Sx
open Go Go.Proofs Go.RowKit
theorem hwXD {G G2 : Prop} (x : G2) (hwq : Hold G2 → G := by
    intro hQq
    repeat' (first | apply HL.fold | apply HA.fold | apply HL.nil | apply HX.n_then | apply HC.seq | apply HC.region | refine HL.pa ?_ | refine HL.ga rfl ?_ | refine HL.na rfl ?_ | refine HL.nu rfl rfl ?_ | apply HC.block | apply HC.skip | apply HC.exit | apply HC.ret | apply HX.e_block | refine HX.e_other rfl ?_ | apply HX.e_then | apply HX.e_again | apply HX.n_block | apply HX.r_then | apply HX.r_block | apply HX.r_again | refine HC.cond_yes rfl ?_ | refine HC.cond_no rfl ?_ | refine HL.one (H1.ldb rfl memA rfl rfl ?_) | refine HC.cond rfl (fun hc => ?_) (fun hc => ?_) | refine HC.cond_b rfl (fun hc => ?_) (fun hc => ?_))
    exact hQq.get) : G := hwq ⟨x⟩
/-- A literal, as a slice that may grow. -/
theorem Mm.blkGrow {w0 w : World} {b n sz : Nat} {cs : List Value} {e : TypeId} {H : List Atom} (h : Mm w0 (A.blk b cs e :: H) w) (hl : cs.length = n * sz) (hn : n ≤ 1000000) : Mm w0 (A.grow e sz (some ⟨b, 0, none⟩) n n cs :: H) w := by
  refine ⟨h.ext, fun x hx => ?_, h.nd, h.rng⟩
  rcases List.mem_cons.1 hx with rfl | hx
  · refine ⟨hl, .inr ⟨b, n, cs.toArray, rfl, Nat.zero_le _, h.blk (List.Mem.head _), Nat.le_refl _, by simp only [maxLen]; omega, by simpa using hl, ?_⟩⟩
    rw [← hl, List.take_of_length_le (by simp)]
  · exact h.all x (List.mem_cons_of_mem _ hx)
theorem HL.blkGrow {P : Program} {r : Option Nat} {N : Nat} {ds : List Deferred} {ol l : List Oper} {Q : Post} {E : Env} {w0 : World} {H : List Atom} {b n sz : Nat} {cs : List Value} {e : TypeId} (hl : cs.length = n * sz) (hn : n ≤ 1000000)
    (h : HL P r N ds ol l Q E w0 (A.grow e sz (some ⟨b, 0, none⟩) n n cs :: H)) : HL P r N ds ol l Q E w0 (A.blk b cs e :: H) := fun w hM => h w (hM.blkGrow hl hn)
abbrev fnV (f : Nat) : Value := .func (.func f) #[] #[]
/-- The function that finds a field, and where it is. -/
def fid : Nat → Nat
  | 0 => 227
  | 1 => 219
  | 2 => 220
  | 3 => 222
  | 4 => 215
  | 5 => 216
  | 6 => 223
  | 7 => 217
  | 9 => 224
  | _ => 0
def fpos : Nat → Nat
  | 0 => 1
  | 1 => 5
  | 2 => 6
  | 3 => 7
  | 4 => 8
  | 5 => 9
  | 6 => 10
  | 7 => 11
  | 8 => 12
  | 9 => 13
  | _ => 0
def fcells (p : Nat × Int × Int) : List Value := if p.1 = 8 then [.nilFunc, zv 0, zv 0] else [fnV (fid p.1), zv p.2.1, zv p.2.2]
def fcl (l : List (Nat × Int × Int)) : List Value := l.flatMap fcells
theorem fcells_len (p : Nat × Int × Int) : (fcells p).length = 3 := by unfold fcells; split <;> rfl
theorem fcl_len : ∀ l : List (Nat × Int × Int), (fcl l).length = l.length * 3
  | [] => rfl
  | p :: l => by
    have := fcl_len l
    unfold fcl at this ⊢
    rw [List.flatMap_cons, List.length_append, fcells_len, this, List.length_cons]; omega
theorem fcells_one (p : Nat × Int × Int) : ∀ u ∈ fcells p, u.oneCell' = true := by
  unfold fcells
  intro u hu
  split at hu <;> (simp only [List.mem_cons, List.not_mem_nil, or_false] at hu; rcases hu with rfl | rfl | rfl <;> rfl)
theorem fcl_one (l : List (Nat × Int × Int)) : ∀ u ∈ fcl l, u.oneCell' = true := fun u hu => by
  obtain ⟨p, -, h⟩ := List.mem_flatMap.1 hu
  exact fcells_one p u h
def baseF : List (Nat × Int × Int) := [(0, 1, 1000000), (1, 0, 100000), (2, 0, 100000)]
attribute [local irreducible] WC WL WX POp Then Again Fn NX W1 WA WO QL RP RA Yld LoopAt HC HL HX HN H1 HA HO HQ HB HP A.blk A.grow A.rd A.obj A.mp AgainH CutH
theorem id_fn (b : Nat) (w : World) : Fn Tryz.prog 227 #[.pointer (some ⟨b, 0, none⟩)] w fun v w' => v = .pointer (some ⟨b, 1, none⟩) ∧ w = w' := by
  refine enter (l := [_]) rfl Tryz.ntmps227 rfl ?_
  repeat' (first | apply WL.fold | apply WA.fold | apply WL.nil | apply WX.n_then | apply WC.seq | apply WC.region | refine WL.pa ?_ | refine WL.ga rfl ?_ | refine WL.na rfl ?_ | refine WL.nu rfl rfl ?_ | apply WC.block | apply WC.skip | apply WC.exit | apply WC.ret | apply WX.e_block | refine WX.e_other rfl ?_ | apply WX.e_then | apply WX.e_again | apply WX.n_block | apply WX.r_then | apply WX.r_block | apply WX.r_again | refine WC.cond_yes rfl ?_ | refine WC.cond_no rfl ?_ | refine WC.cond rfl (fun hc => ?_) (fun hc => ?_) | refine WC.cond_b rfl (fun hc => ?_) (fun hc => ?_))
  refine WL.pa ?_ (POp.nilCheck rfl)
  repeat' (first | apply WL.fold | apply WA.fold | apply WL.nil | apply WX.n_then | apply WC.seq | apply WC.region | refine WL.pa ?_ | refine WL.ga rfl ?_ | refine WL.na rfl ?_ | refine WL.nu rfl rfl ?_ | apply WC.block | apply WC.skip | apply WC.exit | apply WC.ret | apply WX.e_block | refine WX.e_other rfl ?_ | apply WX.e_then | apply WX.e_again | apply WX.n_block | apply WX.r_then | apply WX.r_block | apply WX.r_again | refine WC.cond_yes rfl ?_ | refine WC.cond_no rfl ?_ | refine WC.cond rfl (fun hc => ?_) (fun hc => ?_) | refine WC.cond_b rfl (fun hc => ?_) (fun hc => ?_))
  exact WX.ret1 rfl rfl ⟨rfl, rfl⟩
theorem from_fn (b : Nat) (w : World) : Fn Tryz.prog 219 #[.pointer (some ⟨b, 0, none⟩)] w fun v w' => v = .pointer (some ⟨b, 5, none⟩) ∧ w = w' := by
  refine enter (l := [_]) rfl Tryz.ntmps219 rfl ?_
  repeat' (first | apply WL.fold | apply WA.fold | apply WL.nil | apply WX.n_then | apply WC.seq | apply WC.region | refine WL.pa ?_ | refine WL.ga rfl ?_ | refine WL.na rfl ?_ | refine WL.nu rfl rfl ?_ | apply WC.block | apply WC.skip | apply WC.exit | apply WC.ret | apply WX.e_block | refine WX.e_other rfl ?_ | apply WX.e_then | apply WX.e_again | apply WX.n_block | apply WX.r_then | apply WX.r_block | apply WX.r_again | refine WC.cond_yes rfl ?_ | refine WC.cond_no rfl ?_ | refine WC.cond rfl (fun hc => ?_) (fun hc => ?_) | refine WC.cond_b rfl (fun hc => ?_) (fun hc => ?_))
  refine WL.pa ?_ (POp.nilCheck rfl)
  repeat' (first | apply WL.fold | apply WA.fold | apply WL.nil | apply WX.n_then | apply WC.seq | apply WC.region | refine WL.pa ?_ | refine WL.ga rfl ?_ | refine WL.na rfl ?_ | refine WL.nu rfl rfl ?_ | apply WC.block | apply WC.skip | apply WC.exit | apply WC.ret | apply WX.e_block | refine WX.e_other rfl ?_ | apply WX.e_then | apply WX.e_again | apply WX.n_block | apply WX.r_then | apply WX.r_block | apply WX.r_again | refine WC.cond_yes rfl ?_ | refine WC.cond_no rfl ?_ | refine WC.cond rfl (fun hc => ?_) (fun hc => ?_) | refine WC.cond_b rfl (fun hc => ?_) (fun hc => ?_))
  exact WX.ret1 rfl rfl ⟨rfl, rfl⟩
theorem until_fn (b : Nat) (w : World) : Fn Tryz.prog 220 #[.pointer (some ⟨b, 0, none⟩)] w fun v w' => v = .pointer (some ⟨b, 6, none⟩) ∧ w = w' := by
  refine enter (l := [_]) rfl Tryz.ntmps220 rfl ?_
  repeat' (first | apply WL.fold | apply WA.fold | apply WL.nil | apply WX.n_then | apply WC.seq | apply WC.region | refine WL.pa ?_ | refine WL.ga rfl ?_ | refine WL.na rfl ?_ | refine WL.nu rfl rfl ?_ | apply WC.block | apply WC.skip | apply WC.exit | apply WC.ret | apply WX.e_block | refine WX.e_other rfl ?_ | apply WX.e_then | apply WX.e_again | apply WX.n_block | apply WX.r_then | apply WX.r_block | apply WX.r_again | refine WC.cond_yes rfl ?_ | refine WC.cond_no rfl ?_ | refine WC.cond rfl (fun hc => ?_) (fun hc => ?_) | refine WC.cond_b rfl (fun hc => ?_) (fun hc => ?_))
  refine WL.pa ?_ (POp.nilCheck rfl)
  repeat' (first | apply WL.fold | apply WA.fold | apply WL.nil | apply WX.n_then | apply WC.seq | apply WC.region | refine WL.pa ?_ | refine WL.ga rfl ?_ | refine WL.na rfl ?_ | refine WL.nu rfl rfl ?_ | apply WC.block | apply WC.skip | apply WC.exit | apply WC.ret | apply WX.e_block | refine WX.e_other rfl ?_ | apply WX.e_then | apply WX.e_again | apply WX.n_block | apply WX.r_then | apply WX.r_block | apply WX.r_again | refine WC.cond_yes rfl ?_ | refine WC.cond_no rfl ?_ | refine WC.cond rfl (fun hc => ?_) (fun hc => ?_) | refine WC.cond_b rfl (fun hc => ?_) (fun hc => ?_))
  exact WX.ret1 rfl rfl ⟨rfl, rfl⟩
theorem pack_fn (b : Nat) (w : World) : Fn Tryz.prog 222 #[.pointer (some ⟨b, 0, none⟩)] w fun v w' => v = .pointer (some ⟨b, 7, none⟩) ∧ w = w' := by
  refine enter (l := [_]) rfl Tryz.ntmps222 rfl ?_
  repeat' (first | apply WL.fold | apply WA.fold | apply WL.nil | apply WX.n_then | apply WC.seq | apply WC.region | refine WL.pa ?_ | refine WL.ga rfl ?_ | refine WL.na rfl ?_ | refine WL.nu rfl rfl ?_ | apply WC.block | apply WC.skip | apply WC.exit | apply WC.ret | apply WX.e_block | refine WX.e_other rfl ?_ | apply WX.e_then | apply WX.e_again | apply WX.n_block | apply WX.r_then | apply WX.r_block | apply WX.r_again | refine WC.cond_yes rfl ?_ | refine WC.cond_no rfl ?_ | refine WC.cond rfl (fun hc => ?_) (fun hc => ?_) | refine WC.cond_b rfl (fun hc => ?_) (fun hc => ?_))
  refine WL.pa ?_ (POp.nilCheck rfl)
  repeat' (first | apply WL.fold | apply WA.fold | apply WL.nil | apply WX.n_then | apply WC.seq | apply WC.region | refine WL.pa ?_ | refine WL.ga rfl ?_ | refine WL.na rfl ?_ | refine WL.nu rfl rfl ?_ | apply WC.block | apply WC.skip | apply WC.exit | apply WC.ret | apply WX.e_block | refine WX.e_other rfl ?_ | apply WX.e_then | apply WX.e_again | apply WX.n_block | apply WX.r_then | apply WX.r_block | apply WX.r_again | refine WC.cond_yes rfl ?_ | refine WC.cond_no rfl ?_ | refine WC.cond rfl (fun hc => ?_) (fun hc => ?_) | refine WC.cond_b rfl (fun hc => ?_) (fun hc => ?_))
  exact WX.ret1 rfl rfl ⟨rfl, rfl⟩
theorem person_fn (b : Nat) (w : World) : Fn Tryz.prog 215 #[.pointer (some ⟨b, 0, none⟩)] w fun v w' => v = .pointer (some ⟨b, 8, none⟩) ∧ w = w' := by
  refine enter (l := [_]) rfl Tryz.ntmps215 rfl ?_
  repeat' (first | apply WL.fold | apply WA.fold | apply WL.nil | apply WX.n_then | apply WC.seq | apply WC.region | refine WL.pa ?_ | refine WL.ga rfl ?_ | refine WL.na rfl ?_ | refine WL.nu rfl rfl ?_ | apply WC.block | apply WC.skip | apply WC.exit | apply WC.ret | apply WX.e_block | refine WX.e_other rfl ?_ | apply WX.e_then | apply WX.e_again | apply WX.n_block | apply WX.r_then | apply WX.r_block | apply WX.r_again | refine WC.cond_yes rfl ?_ | refine WC.cond_no rfl ?_ | refine WC.cond rfl (fun hc => ?_) (fun hc => ?_) | refine WC.cond_b rfl (fun hc => ?_) (fun hc => ?_))
  refine WL.pa ?_ (POp.nilCheck rfl)
  repeat' (first | apply WL.fold | apply WA.fold | apply WL.nil | apply WX.n_then | apply WC.seq | apply WC.region | refine WL.pa ?_ | refine WL.ga rfl ?_ | refine WL.na rfl ?_ | refine WL.nu rfl rfl ?_ | apply WC.block | apply WC.skip | apply WC.exit | apply WC.ret | apply WX.e_block | refine WX.e_other rfl ?_ | apply WX.e_then | apply WX.e_again | apply WX.n_block | apply WX.r_then | apply WX.r_block | apply WX.r_again | refine WC.cond_yes rfl ?_ | refine WC.cond_no rfl ?_ | refine WC.cond rfl (fun hc => ?_) (fun hc => ?_) | refine WC.cond_b rfl (fun hc => ?_) (fun hc => ?_))
  exact WX.ret1 rfl rfl ⟨rfl, rfl⟩
theorem role_fn (b : Nat) (w : World) : Fn Tryz.prog 216 #[.pointer (some ⟨b, 0, none⟩)] w fun v w' => v = .pointer (some ⟨b, 9, none⟩) ∧ w = w' := by
  refine enter (l := [_]) rfl Tryz.ntmps216 rfl ?_
  repeat' (first | apply WL.fold | apply WA.fold | apply WL.nil | apply WX.n_then | apply WC.seq | apply WC.region | refine WL.pa ?_ | refine WL.ga rfl ?_ | refine WL.na rfl ?_ | refine WL.nu rfl rfl ?_ | apply WC.block | apply WC.skip | apply WC.exit | apply WC.ret | apply WX.e_block | refine WX.e_other rfl ?_ | apply WX.e_then | apply WX.e_again | apply WX.n_block | apply WX.r_then | apply WX.r_block | apply WX.r_again | refine WC.cond_yes rfl ?_ | refine WC.cond_no rfl ?_ | refine WC.cond rfl (fun hc => ?_) (fun hc => ?_) | refine WC.cond_b rfl (fun hc => ?_) (fun hc => ?_))
  refine WL.pa ?_ (POp.nilCheck rfl)
  repeat' (first | apply WL.fold | apply WA.fold | apply WL.nil | apply WX.n_then | apply WC.seq | apply WC.region | refine WL.pa ?_ | refine WL.ga rfl ?_ | refine WL.na rfl ?_ | refine WL.nu rfl rfl ?_ | apply WC.block | apply WC.skip | apply WC.exit | apply WC.ret | apply WX.e_block | refine WX.e_other rfl ?_ | apply WX.e_then | apply WX.e_again | apply WX.n_block | apply WX.r_then | apply WX.r_block | apply WX.r_again | refine WC.cond_yes rfl ?_ | refine WC.cond_no rfl ?_ | refine WC.cond rfl (fun hc => ?_) (fun hc => ?_) | refine WC.cond_b rfl (fun hc => ?_) (fun hc => ?_))
  exact WX.ret1 rfl rfl ⟨rfl, rfl⟩
theorem purpose_fn (b : Nat) (w : World) : Fn Tryz.prog 223 #[.pointer (some ⟨b, 0, none⟩)] w fun v w' => v = .pointer (some ⟨b, 10, none⟩) ∧ w = w' := by
  refine enter (l := [_]) rfl Tryz.ntmps223 rfl ?_
  repeat' (first | apply WL.fold | apply WA.fold | apply WL.nil | apply WX.n_then | apply WC.seq | apply WC.region | refine WL.pa ?_ | refine WL.ga rfl ?_ | refine WL.na rfl ?_ | refine WL.nu rfl rfl ?_ | apply WC.block | apply WC.skip | apply WC.exit | apply WC.ret | apply WX.e_block | refine WX.e_other rfl ?_ | apply WX.e_then | apply WX.e_again | apply WX.n_block | apply WX.r_then | apply WX.r_block | apply WX.r_again | refine WC.cond_yes rfl ?_ | refine WC.cond_no rfl ?_ | refine WC.cond rfl (fun hc => ?_) (fun hc => ?_) | refine WC.cond_b rfl (fun hc => ?_) (fun hc => ?_))
  refine WL.pa ?_ (POp.nilCheck rfl)
  repeat' (first | apply WL.fold | apply WA.fold | apply WL.nil | apply WX.n_then | apply WC.seq | apply WC.region | refine WL.pa ?_ | refine WL.ga rfl ?_ | refine WL.na rfl ?_ | refine WL.nu rfl rfl ?_ | apply WC.block | apply WC.skip | apply WC.exit | apply WC.ret | apply WX.e_block | refine WX.e_other rfl ?_ | apply WX.e_then | apply WX.e_again | apply WX.n_block | apply WX.r_then | apply WX.r_block | apply WX.r_again | refine WC.cond_yes rfl ?_ | refine WC.cond_no rfl ?_ | refine WC.cond rfl (fun hc => ?_) (fun hc => ?_) | refine WC.cond_b rfl (fun hc => ?_) (fun hc => ?_))
  exact WX.ret1 rfl rfl ⟨rfl, rfl⟩
theorem clause_fn (b : Nat) (w : World) : Fn Tryz.prog 217 #[.pointer (some ⟨b, 0, none⟩)] w fun v w' => v = .pointer (some ⟨b, 11, none⟩) ∧ w = w' := by
  refine enter (l := [_]) rfl Tryz.ntmps217 rfl ?_
  repeat' (first | apply WL.fold | apply WA.fold | apply WL.nil | apply WX.n_then | apply WC.seq | apply WC.region | refine WL.pa ?_ | refine WL.ga rfl ?_ | refine WL.na rfl ?_ | refine WL.nu rfl rfl ?_ | apply WC.block | apply WC.skip | apply WC.exit | apply WC.ret | apply WX.e_block | refine WX.e_other rfl ?_ | apply WX.e_then | apply WX.e_again | apply WX.n_block | apply WX.r_then | apply WX.r_block | apply WX.r_again | refine WC.cond_yes rfl ?_ | refine WC.cond_no rfl ?_ | refine WC.cond rfl (fun hc => ?_) (fun hc => ?_) | refine WC.cond_b rfl (fun hc => ?_) (fun hc => ?_))
  refine WL.pa ?_ (POp.nilCheck rfl)
  repeat' (first | apply WL.fold | apply WA.fold | apply WL.nil | apply WX.n_then | apply WC.seq | apply WC.region | refine WL.pa ?_ | refine WL.ga rfl ?_ | refine WL.na rfl ?_ | refine WL.nu rfl rfl ?_ | apply WC.block | apply WC.skip | apply WC.exit | apply WC.ret | apply WX.e_block | refine WX.e_other rfl ?_ | apply WX.e_then | apply WX.e_again | apply WX.n_block | apply WX.r_then | apply WX.r_block | apply WX.r_again | refine WC.cond_yes rfl ?_ | refine WC.cond_no rfl ?_ | refine WC.cond rfl (fun hc => ?_) (fun hc => ?_) | refine WC.cond_b rfl (fun hc => ?_) (fun hc => ?_))
  exact WX.ret1 rfl rfl ⟨rfl, rfl⟩
theorem party_fn (b : Nat) (w : World) : Fn Tryz.prog 224 #[.pointer (some ⟨b, 0, none⟩)] w fun v w' => v = .pointer (some ⟨b, 13, none⟩) ∧ w = w' := by
  refine enter (l := [_]) rfl Tryz.ntmps224 rfl ?_
  repeat' (first | apply WL.fold | apply WA.fold | apply WL.nil | apply WX.n_then | apply WC.seq | apply WC.region | refine WL.pa ?_ | refine WL.ga rfl ?_ | refine WL.na rfl ?_ | refine WL.nu rfl rfl ?_ | apply WC.block | apply WC.skip | apply WC.exit | apply WC.ret | apply WX.e_block | refine WX.e_other rfl ?_ | apply WX.e_then | apply WX.e_again | apply WX.n_block | apply WX.r_then | apply WX.r_block | apply WX.r_again | refine WC.cond_yes rfl ?_ | refine WC.cond_no rfl ?_ | refine WC.cond rfl (fun hc => ?_) (fun hc => ?_) | refine WC.cond_b rfl (fun hc => ?_) (fun hc => ?_))
  refine WL.pa ?_ (POp.nilCheck rfl)
  repeat' (first | apply WL.fold | apply WA.fold | apply WL.nil | apply WX.n_then | apply WC.seq | apply WC.region | refine WL.pa ?_ | refine WL.ga rfl ?_ | refine WL.na rfl ?_ | refine WL.nu rfl rfl ?_ | apply WC.block | apply WC.skip | apply WC.exit | apply WC.ret | apply WX.e_block | refine WX.e_other rfl ?_ | apply WX.e_then | apply WX.e_again | apply WX.n_block | apply WX.r_then | apply WX.r_block | apply WX.r_again | refine WC.cond_yes rfl ?_ | refine WC.cond_no rfl ?_ | refine WC.cond rfl (fun hc => ?_) (fun hc => ?_) | refine WC.cond_b rfl (fun hc => ?_) (fun hc => ?_))
  exact WX.ret1 rfl rfl ⟨rfl, rfl⟩
theorem getter_ok {i : Nat} (h : i < 10) (h8 : i ≠ 8) : CallOk Tryz.prog (fid i) ∧ ∀ (b : Nat) (w : World), Fn Tryz.prog (fid i) #[.pointer (some ⟨b, 0, none⟩)] w fun v w' => v = .pointer (some ⟨b, fpos i, none⟩) ∧ w = w' := by
  rcases (show i = 0 ∨ i = 1 ∨ i = 2 ∨ i = 3 ∨ i = 4 ∨ i = 5 ∨ i = 6 ∨ i = 7 ∨ i = 9 by omega) with rfl | rfl | rfl | rfl | rfl | rfl | rfl | rfl | rfl
  · exact ⟨inferInstanceAs (CallOk Tryz.prog 227), id_fn⟩
  · exact ⟨inferInstanceAs (CallOk Tryz.prog 219), from_fn⟩
  · exact ⟨inferInstanceAs (CallOk Tryz.prog 220), until_fn⟩
  · exact ⟨inferInstanceAs (CallOk Tryz.prog 222), pack_fn⟩
  · exact ⟨inferInstanceAs (CallOk Tryz.prog 215), person_fn⟩
  · exact ⟨inferInstanceAs (CallOk Tryz.prog 216), role_fn⟩
  · exact ⟨inferInstanceAs (CallOk Tryz.prog 223), purpose_fn⟩
  · exact ⟨inferInstanceAs (CallOk Tryz.prog 217), clause_fn⟩
  · exact ⟨inferInstanceAs (CallOk Tryz.prog 224), party_fn⟩
theorem number_fn (f : Nat) (w : World) : Fn Tryz.prog 214 #[fnV f] w fun v w' => v = .agg #[fnV f, zv 1, zv 1000000] ∧ Ext w w' := by
  refine enterH (l := [_]) rfl Tryz.ntmps214 rfl ?_
  refine hwXD ?_
  refine HL.one (H1.alloc (cs := [.nilFunc, zv 0, zv 0]) rfl rfl (fun b2 => ?_))
  refine hwXD ?_
  refine HL.build (cs := [fnV f, zv 1, zv 1000000]) rfl rfl rfl ?_
  refine hwXD ?_
  refine HL.one (H1.stAgg (cs := [.nilFunc, zv 0, zv 0]) (vs := [fnV f, zv 1, zv 1000000]) rfl rfl rfl (by intro v hv; simp only [List.mem_cons, List.not_mem_nil, or_false] at hv; rcases hv with rfl | rfl | rfl <;> rfl) rplA rfl ?_)
  refine hwXD ?_
  exact HX.retc1 (cs := [fnV f, zv 1, zv 1000000]) rfl rfl memA rfl fun w' hM => ⟨rfl, hM.ext⟩
theorem day_fn (f : Nat) (w : World) : Fn Tryz.prog 218 #[fnV f] w fun v w' => v = .agg #[fnV f, zv 0, zv 100000] ∧ Ext w w' := by
  refine enterH (l := [_]) rfl Tryz.ntmps218 rfl ?_
  refine hwXD ?_
  refine HL.one (H1.alloc (cs := [.nilFunc, zv 0, zv 0]) rfl rfl (fun b2 => ?_))
  refine hwXD ?_
  refine HL.build (cs := [fnV f, zv 0, zv 100000]) rfl rfl rfl ?_
  refine hwXD ?_
  refine HL.one (H1.stAgg (cs := [.nilFunc, zv 0, zv 0]) (vs := [fnV f, zv 0, zv 100000]) rfl rfl rfl (by intro v hv; simp only [List.mem_cons, List.not_mem_nil, or_false] at hv; rcases hv with rfl | rfl | rfl <;> rfl) rplA rfl ?_)
  refine hwXD ?_
  exact HX.retc1 (cs := [fnV f, zv 0, zv 100000]) rfl rfl memA rfl fun w' hM => ⟨rfl, hM.ext⟩
theorem maybe_fn (f : Nat) (w : World) : Fn Tryz.prog 221 #[fnV f] w fun v w' => v = .agg #[fnV f, zv 0, zv 1000000] ∧ Ext w w' := by
  refine enterH (l := [_]) rfl Tryz.ntmps221 rfl ?_
  refine hwXD ?_
  refine HL.one (H1.alloc (cs := [.nilFunc, zv 0, zv 0]) rfl rfl (fun b2 => ?_))
  refine hwXD ?_
  refine HL.build (cs := [fnV f, zv 0, zv 1000000]) rfl rfl rfl ?_
  refine hwXD ?_
  refine HL.one (H1.stAgg (cs := [.nilFunc, zv 0, zv 0]) (vs := [fnV f, zv 0, zv 1000000]) rfl rfl rfl (by intro v hv; simp only [List.mem_cons, List.not_mem_nil, or_false] at hv; rcases hv with rfl | rfl | rfl <;> rfl) rplA rfl ?_)
  refine hwXD ?_
  exact HX.retc1 (cs := [fnV f, zv 0, zv 1000000]) rfl rfl memA rfl fun w' hM => ⟨rfl, hM.ext⟩
end Go.Sx
/- Chapter 20: spanned, shapeOf. -/
namespace Go.Sx
open Go Go.Proofs Go.RowKit
theorem hwXE {G G2 : Prop} (x : G2) (hwq : Hold G2 → G := by
    intro hQq
    repeat' (first | refine HL.one (H1.callx rfl rfl (fun w' _ => maybe_fn _ w') ?_) | refine HL.one (H1.callx rfl rfl (fun w' _ => day_fn _ w') ?_) | refine HL.one (H1.callx rfl rfl (fun w' _ => number_fn _ w') ?_) | apply HL.fold | apply HA.fold | apply HL.nil | apply HX.n_then | apply HC.seq | apply HC.region | refine HL.pa ?_ | refine HL.ga rfl ?_ | refine HL.na rfl ?_ | refine HL.nu rfl rfl ?_ | apply HC.block | apply HC.skip | apply HC.exit | apply HC.ret | apply HX.e_block | refine HX.e_other rfl ?_ | apply HX.e_then | apply HX.e_again | apply HX.n_block | apply HX.r_then | apply HX.r_block | apply HX.r_again | refine HC.cond_yes rfl ?_ | refine HC.cond_no rfl ?_ | refine HL.one (H1.ldb rfl memA rfl rfl ?_) | refine HC.cond rfl (fun hc => ?_) (fun hc => ?_) | refine HC.cond_b rfl (fun hc => ?_) (fun hc => ?_))
    exact hQq.get) : G := hwq ⟨x⟩
instance restDec (r : Rc) : Decidable (restP r) := by unfold restP; infer_instance
def rid (k : Int) : Nat := if k = 2 then 225 else if k = 6 ∨ k = 8 then 226 else 265
def shapeC (z : Option Addr × Nat) (k : Int) : List Value := [.slice z.1 (specF k).length z.2, fnV (fid (keyF k)), zv 1, zv 1000000, fnV (rid k)]
attribute [local irreducible] WC WL WX POp Then Again Fn NX W1 WA WO QL RP RA Yld LoopAt HC HL HX HN H1 HA HO HQ HB HP A.blk A.grow A.rd A.obj A.mp AgainH CutH
theorem isSpan_fn (r : Rc) (w : World) : Fn Tryz.prog 265 #[recV r] w fun v w' => v = .bool (decide (r.start ≤ r.stop)) ∧ Ext w w' := by
  refine enterH (l := [_]) rfl Tryz.ntmps265 rfl ?_
  refine hwXE ?_
  refine HL.one (H1.boxAgg (cs := rcells r) rfl rfl (fun b1 => ?_))
  refine hwXE ?_
  exact HX.ret1 rfl rfl fun w' hM => ⟨rfl, hM.ext⟩
theorem isClause_fn (r : Rc) (w : World) : Fn Tryz.prog 225 #[recV r] w fun v w' => v = .bool (decide (r.start ≤ r.stop ∧ r.clause ≠ r.party)) ∧ Ext w w' := by
  refine enterH (l := [_]) rfl Tryz.ntmps225 rfl ?_
  refine hwXE ?_
  refine HL.one (H1.boxAgg (cs := rcells r) rfl rfl (fun b1 => ?_))
  refine hwXE ?_
  refine HL.one (H1.ldAgg (vs := rcells r) rfl memA rfl (fun i v hv => by rw [Nat.zero_add]; exact hv) rfl ?_)
  refine hwXE ?_
  refine HL.one (H1.callx (vs := [recV r]) rfl rfl (fun w' _ => isSpan_fn r w') ?_)
  by_cases h1 : r.start ≤ r.stop
  · rw [decide_eq_true h1]
    refine hwXE ?_
    exact HX.ret1 rfl rfl fun w' hM => ⟨by simp [h1], hM.ext⟩
  · rw [decide_eq_false h1]
    refine hwXE ?_
    exact HX.ret1 rfl rfl fun w' hM => ⟨by simp [h1], hM.ext⟩
theorem isAny_fn (r : Rc) (w : World) : Fn Tryz.prog 226 #[recV r] w fun v w' => v = .bool true ∧ Ext w w' := by
  refine enterH (l := [_]) rfl Tryz.ntmps226 rfl ?_
  refine hwXE ?_
  refine HL.one (H1.boxAgg (cs := rcells r) rfl rfl (fun b1 => ?_))
  refine hwXE ?_
  exact HX.ret1 rfl rfl fun w' hM => ⟨rfl, hM.ext⟩
theorem rest_ok (r : Rc) : CallOk Tryz.prog (rid r.kind) ∧ ∀ w : World, Fn Tryz.prog (rid r.kind) #[recV r] w fun v w' => v = .bool (decide (restP r)) ∧ Ext w w' := by
  unfold rid
  by_cases h2 : r.kind = 2
  · rw [if_pos h2]
    refine ⟨inferInstanceAs (CallOk Tryz.prog 225), fun w => (isClause_fn r w).mono fun v w' ⟨h, hx⟩ => ⟨?_, hx⟩⟩
    rw [h]
    congr 1
    simp only [decide_eq_decide]
    unfold restP
    constructor
    · exact fun h => ⟨fun _ _ => h.1, fun _ => h.2⟩
    · exact fun h => ⟨h.1 (by omega) (by omega), h.2 h2⟩
  · rw [if_neg h2]
    by_cases h6 : r.kind = 6 ∨ r.kind = 8
    · rw [if_pos h6]
      refine ⟨inferInstanceAs (CallOk Tryz.prog 226), fun w => (isAny_fn r w).mono fun v w' ⟨h, hx⟩ => ⟨?_, hx⟩⟩
      rw [h, decide_eq_true]
      exact ⟨fun a b => by omega, fun a => absurd a h2⟩
    · rw [if_neg h6]
      refine ⟨inferInstanceAs (CallOk Tryz.prog 265), fun w => (isSpan_fn r w).mono fun v w' ⟨h, hx⟩ => ⟨?_, hx⟩⟩
      rw [h]
      congr 1
      simp only [decide_eq_decide]
      unfold restP
      exact ⟨fun h => ⟨fun _ _ => h, fun a => absurd a h2⟩, fun h => h.1 (by omega) (by omega)⟩
theorem spanned_fn (m : List (Nat × Int × Int)) (bm : Nat) (hm : m.length ≤ 10) (w : World) (hc : ∀ j u, (fcl m)[j]? = some u → w.cell? ⟨bm, j, none⟩ = some u) :
    Fn Tryz.prog 213 #[.slice (some ⟨bm, 0, none⟩) m.length m.length] w fun v w' => ∃ z : Option Addr × Nat, True ∧ v = .agg #[.slice z.1 (3 + m.length) z.2, fnV 227, zv 1, zv 1000000, fnV 265] ∧
      Mm w [A.grow 225 3 z.1 z.2 (3 + m.length) (fcl baseF ++ fcl m)] w' := by
  refine enterH (l := [_]) rfl Tryz.ntmps213 rfl ?_
  refine hwXE ?_
  refine HL.one (H1.alloc (cs := [.slice none 0 0, .nilFunc, zv 0, zv 0, .nilFunc]) rfl rfl (fun b2 => ?_))
  refine hwXE ?_
  refine HL.one (H1.lit (cs := fcl baseF) rfl rfl rfl rfl rfl rfl (fun b3 => ?_))
  apply HL.fold
  refine HL.blkGrow (cs := fcl baseF) (n := 3) (sz := 3) rfl (by decide) ?_
  refine hwXE ?_
  refine HL.one (H1.app (sz := 3) (news := fcl m) rfl (by decide) rfl rfl (fun _ _ => by first | ((repeat (first | with_reducible exact Rpl.here | with_reducible apply Rpl.there)); done) | (repeat (first | exact Rpl.here | apply Rpl.there))) (fcl_len m) (fun w' hM j u hu => by
    rw [add_lit, Nat.zero_add]
    exact cell_ext hM.ext (hc j u hu)) (fcl_one m) (by omega) (by decide) rfl (fun a' c' _ => ?_))
  refine hwXE ?_
  refine HL.build (cs := [.slice a' (3 + m.length) c', fnV 227, zv 1, zv 1000000, fnV 265]) rfl rfl rfl ?_
  refine hwXE ?_
  refine HL.one (H1.stAgg (cs := [.slice none 0 0, .nilFunc, zv 0, zv 0, .nilFunc]) (vs := [.slice a' (3 + m.length) c', fnV 227, zv 1, zv 1000000, fnV 265]) rfl rfl rfl (by intro v hv; simp only [List.mem_cons, List.not_mem_nil, or_false] at hv; rcases hv with rfl | rfl | rfl | rfl | rfl <;> rfl) rplA rfl ?_)
  refine hwXE ?_
  exact HX.retc1 (cs := [.slice a' (3 + m.length) c', fnV 227, zv 1, zv 1000000, fnV 265]) rfl rfl memA rfl fun w' hM => ⟨(a', c'), trivial, rfl, hM.sub (by repeat (first | exact Hs.nil _ | (refine Hs.cons pickA ?_)))⟩
set_option maxHeartbeats 2000000 in
theorem shapeOf_fn (k : Int) (hk : 1 ≤ k ∧ k ≤ 8) (w : World) :
    Fn Tryz.prog 151 #[zv k] w fun v w' => ∃ z : Option Addr × Nat, True ∧ v = .tuple #[.agg (shapeC z k).toArray, .bool true] ∧ Mm w [A.grow 225 3 z.1 z.2 (specF k).length (fcl (specF k))] w' := by
  refine enterH (l := [_]) rfl Tryz.ntmps151 rfl ?_
  rcases (show k = 1 ∨ k = 2 ∨ k = 3 ∨ k = 4 ∨ k = 5 ∨ k = 6 ∨ k = 7 ∨ k = 8 by omega) with rfl | rfl | rfl | rfl | rfl | rfl | rfl | rfl
  · refine hwXE ?_
    refine HL.one (H1.alloc (cs := [.slice none 0 0, .nilFunc, zv 0, zv 0, .nilFunc]) rfl rfl (fun b2 => ?_))
    refine hwXE ?_
    refine HL.one (H1.lit (cs := fcl [(4, 1, 1000000), (5, 1, 1000000)]) rfl rfl rfl rfl rfl rfl (fun b3 => ?_))
    refine hwXE ?_
    refine HL.one (H1.callz1 (vs := [.slice (some ⟨b3, 0, none⟩) 2 2]) rfl rfl (fun w' hM => spanned_fn [(4, 1, 1000000), (5, 1, 1000000)] b3 (by decide) w' fun j u hu => (hM.blk (b := b3) memA).cell hu) ?_)
    rintro ⟨a, c⟩ -
    dsimp only
    rw [show fcl baseF ++ fcl [(4, 1, 1000000), (5, 1, 1000000)] = fcl (specF 1) from rfl]
    refine hwXE ?_
    refine HL.one (H1.stAgg (cs := [.slice none 0 0, .nilFunc, zv 0, zv 0, .nilFunc]) (vs := [.slice a 5 c, fnV 227, zv 1, zv 1000000, fnV 265]) rfl rfl rfl (by intro v hv; simp only [List.mem_cons, List.not_mem_nil, or_false] at hv; rcases hv with rfl | rfl | rfl | rfl | rfl <;> rfl) rplA rfl ?_)
    refine hwXE ?_
    exact HX.retc2 (cs := [.slice a 5 c, fnV 227, zv 1, zv 1000000, fnV 265]) rfl rfl rfl memA rfl fun w' hM => ⟨(a, c), trivial, rfl, hM.sub (by repeat (first | exact Hs.nil _ | (refine Hs.cons pickA ?_)))⟩
  · refine hwXE ?_
    refine HL.one (H1.alloc (cs := [.slice none 0 0, .nilFunc, zv 0, zv 0, .nilFunc]) rfl rfl (fun b2 => ?_))
    refine hwXE ?_
    refine HL.build (cs := [.nilFunc, zv 0, zv 0]) rfl rfl rfl ?_
    refine hwXE ?_
    refine HL.one (H1.lit (cs := fcl (specF 2)) rfl rfl rfl rfl rfl rfl (fun b3 => ?_))
    apply HL.fold
    refine HL.blkGrow (cs := fcl (specF 2)) (n := 8) (sz := 3) rfl (by decide) ?_
    refine hwXE ?_
    refine HL.build (cs := [.slice (some ⟨b3, 0, none⟩) 8 8, fnV 217, zv 1, zv 1000000, fnV 225]) rfl rfl rfl ?_
    refine hwXE ?_
    refine HL.one (H1.stAgg (cs := [.slice none 0 0, .nilFunc, zv 0, zv 0, .nilFunc]) (vs := [.slice (some ⟨b3, 0, none⟩) 8 8, fnV 217, zv 1, zv 1000000, fnV 225]) rfl rfl rfl (by intro v hv; simp only [List.mem_cons, List.not_mem_nil, or_false] at hv; rcases hv with rfl | rfl | rfl | rfl | rfl <;> rfl) rplA rfl ?_)
    refine hwXE ?_
    exact HX.retc2 (cs := [.slice (some ⟨b3, 0, none⟩) 8 8, fnV 217, zv 1, zv 1000000, fnV 225]) rfl rfl rfl memA rfl fun w' hM => ⟨(some ⟨b3, 0, none⟩, 8), trivial, rfl, hM.sub (by repeat (first | exact Hs.nil _ | (refine Hs.cons pickA ?_)))⟩
  · refine hwXE ?_
    refine HL.one (H1.alloc (cs := [.slice none 0 0, .nilFunc, zv 0, zv 0, .nilFunc]) rfl rfl (fun b2 => ?_))
    refine hwXE ?_
    refine HL.one (H1.lit (cs := fcl [(3, 1, 1000000), (6, 0, 1000000), (9, 1, 1000000)]) rfl rfl rfl rfl rfl rfl (fun b3 => ?_))
    refine hwXE ?_
    refine HL.one (H1.callz1 (vs := [.slice (some ⟨b3, 0, none⟩) 3 3]) rfl rfl (fun w' hM => spanned_fn [(3, 1, 1000000), (6, 0, 1000000), (9, 1, 1000000)] b3 (by decide) w' fun j u hu => (hM.blk (b := b3) memA).cell hu) ?_)
    rintro ⟨a, c⟩ -
    dsimp only
    rw [show fcl baseF ++ fcl [(3, 1, 1000000), (6, 0, 1000000), (9, 1, 1000000)] = fcl (specF 3) from rfl]
    refine hwXE ?_
    refine HL.one (H1.stAgg (cs := [.slice none 0 0, .nilFunc, zv 0, zv 0, .nilFunc]) (vs := [.slice a 6 c, fnV 227, zv 1, zv 1000000, fnV 265]) rfl rfl rfl (by intro v hv; simp only [List.mem_cons, List.not_mem_nil, or_false] at hv; rcases hv with rfl | rfl | rfl | rfl | rfl <;> rfl) rplA rfl ?_)
    refine hwXE ?_
    exact HX.retc2 (cs := [.slice a 6 c, fnV 227, zv 1, zv 1000000, fnV 265]) rfl rfl rfl memA rfl fun w' hM => ⟨(a, c), trivial, rfl, hM.sub (by repeat (first | exact Hs.nil _ | (refine Hs.cons pickA ?_)))⟩
  · refine hwXE ?_
    refine HL.one (H1.alloc (cs := [.slice none 0 0, .nilFunc, zv 0, zv 0, .nilFunc]) rfl rfl (fun b2 => ?_))
    refine hwXE ?_
    refine HL.one (H1.lit (cs := fcl [(3, 1, 1000000)]) rfl rfl rfl rfl rfl rfl (fun b3 => ?_))
    refine hwXE ?_
    refine HL.one (H1.callz1 (vs := [.slice (some ⟨b3, 0, none⟩) 1 1]) rfl rfl (fun w' hM => spanned_fn [(3, 1, 1000000)] b3 (by decide) w' fun j u hu => (hM.blk (b := b3) memA).cell hu) ?_)
    rintro ⟨a, c⟩ -
    dsimp only
    rw [show fcl baseF ++ fcl [(3, 1, 1000000)] = fcl (specF 4) from rfl]
    refine hwXE ?_
    refine HL.one (H1.stAgg (cs := [.slice none 0 0, .nilFunc, zv 0, zv 0, .nilFunc]) (vs := [.slice a 4 c, fnV 227, zv 1, zv 1000000, fnV 265]) rfl rfl rfl (by intro v hv; simp only [List.mem_cons, List.not_mem_nil, or_false] at hv; rcases hv with rfl | rfl | rfl | rfl | rfl <;> rfl) rplA rfl ?_)
    refine hwXE ?_
    exact HX.retc2 (cs := [.slice a 4 c, fnV 227, zv 1, zv 1000000, fnV 265]) rfl rfl rfl memA rfl fun w' hM => ⟨(a, c), trivial, rfl, hM.sub (by repeat (first | exact Hs.nil _ | (refine Hs.cons pickA ?_)))⟩
  · refine hwXE ?_
    refine HL.one (H1.alloc (cs := [.slice none 0 0, .nilFunc, zv 0, zv 0, .nilFunc]) rfl rfl (fun b2 => ?_))
    refine hwXE ?_
    refine HL.one (H1.lit (cs := fcl [(3, 0, 1000000)]) rfl rfl rfl rfl rfl rfl (fun b3 => ?_))
    refine hwXE ?_
    refine HL.one (H1.callz1 (vs := [.slice (some ⟨b3, 0, none⟩) 1 1]) rfl rfl (fun w' hM => spanned_fn [(3, 0, 1000000)] b3 (by decide) w' fun j u hu => (hM.blk (b := b3) memA).cell hu) ?_)
    rintro ⟨a, c⟩ -
    dsimp only
    rw [show fcl baseF ++ fcl [(3, 0, 1000000)] = fcl (specF 5) from rfl]
    refine hwXE ?_
    refine HL.one (H1.stAgg (cs := [.slice none 0 0, .nilFunc, zv 0, zv 0, .nilFunc]) (vs := [.slice a 4 c, fnV 227, zv 1, zv 1000000, fnV 265]) rfl rfl rfl (by intro v hv; simp only [List.mem_cons, List.not_mem_nil, or_false] at hv; rcases hv with rfl | rfl | rfl | rfl | rfl <;> rfl) rplA rfl ?_)
    refine hwXE ?_
    exact HX.retc2 (cs := [.slice a 4 c, fnV 227, zv 1, zv 1000000, fnV 265]) rfl rfl rfl memA rfl fun w' hM => ⟨(a, c), trivial, rfl, hM.sub (by repeat (first | exact Hs.nil _ | (refine Hs.cons pickA ?_)))⟩
  · refine hwXE ?_
    refine HL.one (H1.alloc (cs := [.slice none 0 0, .nilFunc, zv 0, zv 0, .nilFunc]) rfl rfl (fun b2 => ?_))
    refine hwXE ?_
    refine HL.one (H1.lit (cs := fcl (specF 6)) rfl rfl rfl rfl rfl rfl (fun b3 => ?_))
    apply HL.fold
    refine HL.blkGrow (cs := fcl (specF 6)) (n := 2) (sz := 3) rfl (by decide) ?_
    refine hwXE ?_
    refine HL.build (cs := [.slice (some ⟨b3, 0, none⟩) 2 2, fnV 224, zv 1, zv 1000000, fnV 226]) rfl rfl rfl ?_
    refine hwXE ?_
    refine HL.one (H1.stAgg (cs := [.slice none 0 0, .nilFunc, zv 0, zv 0, .nilFunc]) (vs := [.slice (some ⟨b3, 0, none⟩) 2 2, fnV 224, zv 1, zv 1000000, fnV 226]) rfl rfl rfl (by intro v hv; simp only [List.mem_cons, List.not_mem_nil, or_false] at hv; rcases hv with rfl | rfl | rfl | rfl | rfl <;> rfl) rplA rfl ?_)
    refine hwXE ?_
    exact HX.retc2 (cs := [.slice (some ⟨b3, 0, none⟩) 2 2, fnV 224, zv 1, zv 1000000, fnV 226]) rfl rfl rfl memA rfl fun w' hM => ⟨(some ⟨b3, 0, none⟩, 2), trivial, rfl, hM.sub (by repeat (first | exact Hs.nil _ | (refine Hs.cons pickA ?_)))⟩
  · refine hwXE ?_
    refine HL.one (H1.alloc (cs := [.slice none 0 0, .nilFunc, zv 0, zv 0, .nilFunc]) rfl rfl (fun b2 => ?_))
    refine hwXE ?_
    refine HL.build (cs := [fnV 217, zv 0, zv 63]) rfl rfl rfl ?_
    refine hwXE ?_
    refine HL.one (H1.lit (cs := fcl [(3, 1, 1000000), (6, 0, 1000000), (7, 0, 63)]) rfl rfl rfl rfl rfl rfl (fun b3 => ?_))
    refine hwXE ?_
    refine HL.one (H1.callz1 (vs := [.slice (some ⟨b3, 0, none⟩) 3 3]) rfl rfl (fun w' hM => spanned_fn [(3, 1, 1000000), (6, 0, 1000000), (7, 0, 63)] b3 (by decide) w' fun j u hu => (hM.blk (b := b3) memA).cell hu) ?_)
    rintro ⟨a, c⟩ -
    dsimp only
    rw [show fcl baseF ++ fcl [(3, 1, 1000000), (6, 0, 1000000), (7, 0, 63)] = fcl (specF 7) from rfl]
    refine hwXE ?_
    refine HL.one (H1.stAgg (cs := [.slice none 0 0, .nilFunc, zv 0, zv 0, .nilFunc]) (vs := [.slice a 6 c, fnV 227, zv 1, zv 1000000, fnV 265]) rfl rfl rfl (by intro v hv; simp only [List.mem_cons, List.not_mem_nil, or_false] at hv; rcases hv with rfl | rfl | rfl | rfl | rfl <;> rfl) rplA rfl ?_)
    refine hwXE ?_
    exact HX.retc2 (cs := [.slice a 6 c, fnV 227, zv 1, zv 1000000, fnV 265]) rfl rfl rfl memA rfl fun w' hM => ⟨(a, c), trivial, rfl, hM.sub (by repeat (first | exact Hs.nil _ | (refine Hs.cons pickA ?_)))⟩
  · refine hwXE ?_
    refine HL.one (H1.alloc (cs := [.slice none 0 0, .nilFunc, zv 0, zv 0, .nilFunc]) rfl rfl (fun b2 => ?_))
    refine hwXE ?_
    refine HL.one (H1.lit (cs := fcl (specF 8)) rfl rfl rfl rfl rfl rfl (fun b3 => ?_))
    apply HL.fold
    refine HL.blkGrow (cs := fcl (specF 8)) (n := 4) (sz := 3) rfl (by decide) ?_
    refine hwXE ?_
    refine HL.build (cs := [.slice (some ⟨b3, 0, none⟩) 4 4, fnV 227, zv 1, zv 1000000, fnV 226]) rfl rfl rfl ?_
    refine hwXE ?_
    refine HL.one (H1.stAgg (cs := [.slice none 0 0, .nilFunc, zv 0, zv 0, .nilFunc]) (vs := [.slice (some ⟨b3, 0, none⟩) 4 4, fnV 227, zv 1, zv 1000000, fnV 226]) rfl rfl rfl (by intro v hv; simp only [List.mem_cons, List.not_mem_nil, or_false] at hv; rcases hv with rfl | rfl | rfl | rfl | rfl <;> rfl) rplA rfl ?_)
    refine hwXE ?_
    exact HX.retc2 (cs := [.slice (some ⟨b3, 0, none⟩) 4 4, fnV 227, zv 1, zv 1000000, fnV 226]) rfl rfl rfl memA rfl fun w' hM => ⟨(some ⟨b3, 0, none⟩, 4), trivial, rfl, hM.sub (by repeat (first | exact Hs.nil _ | (refine Hs.cons pickA ?_)))⟩
theorem shapeOf_no (k : Int) (hk : ¬ (1 ≤ k ∧ k ≤ 8)) (w : World) :
    Fn Tryz.prog 151 #[zv k] w fun v w' => v = .tuple #[.agg #[.slice none 0 0, .nilFunc, zv 0, zv 0, .nilFunc], .bool false] ∧ Ext w w' := by
  refine enterH (l := [_]) rfl Tryz.ntmps151 rfl ?_
  have h1 : ¬ k = 1 := by omega
  have h2 : ¬ k = 2 := by omega
  have h3 : ¬ k = 3 := by omega
  have h4 : ¬ k = 4 := by omega
  have h5 : ¬ k = 5 := by omega
  have h6 : ¬ k = 6 := by omega
  have h7 : ¬ k = 7 := by omega
  have h8 : ¬ k = 8 := by omega
  refine hwXE ?_
  refine HL.one (H1.alloc (cs := [.slice none 0 0, .nilFunc, zv 0, zv 0, .nilFunc]) rfl rfl (fun b2 => ?_))
  refine hwXE ?_
  refine HL.build (cs := [.slice none 0 0, .nilFunc, zv 0, zv 0, .nilFunc]) rfl rfl rfl ?_
  refine hwXE ?_
  refine HL.one (H1.stAgg (cs := [.slice none 0 0, .nilFunc, zv 0, zv 0, .nilFunc]) (vs := [.slice none 0 0, .nilFunc, zv 0, zv 0, .nilFunc]) rfl rfl rfl (by intro v hv; simp only [List.mem_cons, List.not_mem_nil, or_false] at hv; rcases hv with rfl | rfl | rfl | rfl | rfl <;> rfl) rplA rfl ?_)
  refine hwXE ?_
  exact HX.retc2 (cs := [.slice none 0 0, .nilFunc, zv 0, zv 0, .nilFunc]) rfl rfl rfl memA rfl fun w' hM => ⟨rfl, hM.ext⟩
end Go.Sx
/- Chapter 20: Valid. -/
namespace Go.Sx
open Go Go.Proofs Go.RowKit
section
variable {P : Program} {N : Nat} {ds : List Deferred} {E : Env} {t t' ty : TypeId} {x y : Operand}
theorem run_equalIn_fnil {a b : Array TypeId} {c : Bool} [h : UTy P t (.func a b c)] (w : World) (d : Nat) : (Op.equalIn (d + 1) t .nilFunc .nilFunc).run P w = .ok true w := by
  simp [Op.equalIn, Sem.run_bind, run_underlying h.is, Result.andThen]
theorem run_equalIn_fsome {a b : Array TypeId} {c : Bool} {f : _root_.Go.Fn} {p q : Array Value} [h : UTy P t (.func a b c)] (w : World) (d : Nat) : (Op.equalIn (d + 1) t (.func f p q) .nilFunc).run P w = .ok false w := by
  simp [Op.equalIn, Sem.run_bind, run_underlying h.is, Result.andThen]
theorem POp.fnil1 {a b : Array TypeId} {c : Bool} [h : UTy P t (.func a b c)] (hx : Env.ev E x = some .nilFunc) (hy : Env.ev E y = some .nilFunc) : POp P N ds E (.binOp .eql t x y t') ty (.bool true) :=
  POp.bin hx hy (fun w => by rw [eqGuard_at_nilFunc]; rfl) fun w => by
    have e := run_equalIn_fnil (P := P) (t := t) w 9999
    show ((Op.equalIn (9999 + 1) t .nilFunc .nilFunc) >>= fun r => pure (Value.bool r)).run P w = _
    rw [Sem.run_bind, e]; rfl
theorem POp.fnil0 {a b : Array TypeId} {c : Bool} {f : _root_.Go.Fn} {p q : Array Value} [h : UTy P t (.func a b c)] (hx : Env.ev E x = some (.func f p q)) (hy : Env.ev E y = some .nilFunc) : POp P N ds E (.binOp .eql t x y t') ty (.bool false) :=
  POp.bin hx hy (fun w => by rw [eqGuard_at_func]; rfl) fun w => by
    have e := run_equalIn_fsome (P := P) (t := t) (f := f) (p := p) (q := q) w 9999
    show ((Op.equalIn (9999 + 1) t (.func f p q) .nilFunc) >>= fun r => pure (Value.bool r)).run P w = _
    rw [Sem.run_bind, e]; rfl
end
def Rc.clr (r : Rc) : Nat → Rc
  | 0 => { r with id := 0 }
  | 1 => { r with start := 0 }
  | 2 => { r with stop := 0 }
  | 3 => { r with pack := 0 }
  | 4 => { r with person := 0 }
  | 5 => { r with role := 0 }
  | 6 => { r with purpose := 0 }
  | 7 => { r with clause := 0 }
  | 8 => { r with adm := false }
  | 9 => { r with party := 0 }
  | _ => r
theorem ten {i : Nat} (h : i < 10) : i = 0 ∨ i = 1 ∨ i = 2 ∨ i = 3 ∨ i = 4 ∨ i = 5 ∨ i = 6 ∨ i = 7 ∨ i = 8 ∨ i = 9 := by omega
theorem cells_clr (r : Rc) {i : Nat} (h : i < 10) (h8 : i ≠ 8) : (rcells r).set (fpos i) (zv 0) = rcells (r.clr i) := by
  rcases ten h with rfl | rfl | rfl | rfl | rfl | rfl | rfl | rfl | rfl | rfl <;> first | rfl | exact absurd rfl h8
theorem cells_clr8 (r : Rc) : (rcells r).set 12 (.bool false) = rcells (r.clr 8) := rfl
theorem cells_get (r : Rc) {i : Nat} (h : i < 10) (h8 : i ≠ 8) : (rcells r)[fpos i]? = some (zv (r.get i)) := by
  rcases ten h with rfl | rfl | rfl | rfl | rfl | rfl | rfl | rfl | rfl | rfl <;> first | rfl | exact absurd rfl h8
theorem fpos_lt (i : Nat) : fpos i < 15 := by
  by_cases h : i < 10
  · rcases ten h with rfl | rfl | rfl | rfl | rfl | rfl | rfl | rfl | rfl | rfl <;> decide
  · match i, h with
    | n + 10, _ => exact (by decide : 0 < 15)
    | 0, h => omega
    | 1, h => omega
    | 2, h => omega
    | 3, h => omega
    | 4, h => omega
    | 5, h => omega
    | 6, h => omega
    | 7, h => omega
    | 8, h => omega
    | 9, h => omega
theorem get_clr (r : Rc) {i j : Nat} (hi : i < 10) (hj : j < 10) : (r.clr i).get j = if i = j then 0 else r.get j := by
  rcases ten hi with rfl | rfl | rfl | rfl | rfl | rfl | rfl | rfl | rfl | rfl <;> rcases ten hj with rfl | rfl | rfl | rfl | rfl | rfl | rfl | rfl | rfl | rfl <;> rfl
structure SameHead (r s : Rc) : Prop where
  kind : r.kind = s.kind
  version : r.version = s.version
  day : r.day = s.day
  gone : r.gone = s.gone
  text : r.text = s.text
theorem SameHead.clr {r s : Rc} (h : SameHead r s) (i : Nat) : SameHead (r.clr i) s := by
  obtain ⟨h1, h2, h3, h4, h5⟩ := h
  by_cases hi : i < 10
  · rcases ten hi with rfl | rfl | rfl | rfl | rfl | rfl | rfl | rfl | rfl | rfl <;> exact ⟨h1, h2, h3, h4, h5⟩
  · have e : r.clr i = r := by
      match i, hi with
      | n + 10, _ => rfl
      | 0, h => omega
      | 1, h => omega
      | 2, h => omega
      | 3, h => omega
      | 4, h => omega
      | 5, h => omega
      | 6, h => omega
      | 7, h => omega
      | 8, h => omega
      | 9, h => omega
    rw [e]; exact ⟨h1, h2, h3, h4, h5⟩
theorem RcOk.clr {r : Rc} (h : RcOk r) {i : Nat} (hi : i < 10) : RcOk (r.clr i) := by
  obtain ⟨h1, h2, h3, h4, h5, h6, h7, h8, h9, h10, h11, h12, h13⟩ := h
  have z : i64W 0 := by unfold i64W; omega
  rcases ten hi with rfl | rfl | rfl | rfl | rfl | rfl | rfl | rfl | rfl | rfl <;> constructor <;> assumption
/-- A record without some of its fields. -/
def zr (r : Rc) (l : List (Nat × Int × Int)) : Rc := l.foldl (fun r p => r.clr p.1) r
theorem zr_snoc (r : Rc) (l : List (Nat × Int × Int)) (p : Nat × Int × Int) : zr r (l ++ [p]) = (zr r l).clr p.1 := by unfold zr; rw [List.foldl_append]; rfl
theorem zr_head : ∀ (l : List (Nat × Int × Int)) (r s : Rc), SameHead r s → SameHead (zr r l) s
  | [], _, _, h => h
  | p :: l, _, _, h => zr_head l _ _ (h.clr p.1)
theorem zr_ok : ∀ (l : List (Nat × Int × Int)) (r : Rc), (∀ p ∈ l, p.1 < 10) → RcOk r → RcOk (zr r l)
  | [], _, _, h => h
  | p :: l, _, hl, h => zr_ok l _ (fun q hq => hl q (List.mem_cons_of_mem _ hq)) (h.clr (hl p (List.mem_cons_self ..)))
theorem zr_get : ∀ (l : List (Nat × Int × Int)) (r : Rc), (∀ p ∈ l, p.1 < 10) → ∀ j, j < 10 → (zr r l).get j = if j ∈ l.map Prod.fst then 0 else r.get j
  | [], _, _, _, _ => rfl
  | p :: l, r, hl, j, hj => by
    show (zr (r.clr p.1) l).get j = _
    rw [zr_get l (r.clr p.1) (fun q hq => hl q (List.mem_cons_of_mem _ hq)) j hj, get_clr r (hl p (List.mem_cons_self ..)) hj]
    by_cases h1 : j ∈ l.map Prod.fst
    · rw [if_pos h1, if_pos (by rw [List.map_cons]; exact List.mem_cons_of_mem _ h1)]
    · rw [if_neg h1]
      by_cases h2 : p.1 = j
      · rw [if_pos h2, if_pos (by rw [List.map_cons, h2]; exact List.mem_cons_self ..)]
      · rw [if_neg h2, if_neg (by rw [List.map_cons, List.mem_cons]; rintro (h | h); exact h2 h.symm; exact h1 h)]
theorem spec_nodup (k : Int) : ((specF k).map Prod.fst).Nodup := by
  unfold specF
  repeat' split
  all_goals decide
theorem spec_len (k : Int) : (specF k).length ≤ 8 := by
  unfold specF
  repeat' split
  all_goals decide
theorem spec_pos {k : Int} (h : 1 ≤ k ∧ k ≤ 8) : 0 < (specF k).length := by
  rcases (show k = 1 ∨ k = 2 ∨ k = 3 ∨ k = 4 ∨ k = 5 ∨ k = 6 ∨ k = 7 ∨ k = 8 by omega) with rfl | rfl | rfl | rfl | rfl | rfl | rfl | rfl <;> decide
theorem spec8 {k : Int} {p : Nat × Int × Int} (h : p ∈ specF k) (h8 : p.1 = 8) : p.2.1 = 0 ∧ p.2.2 = 1 := by
  unfold specF at h
  repeat' split at h
  all_goals (simp only [List.mem_cons, List.not_mem_nil, or_false] at h)
  all_goals (first | (rcases h with rfl | rfl | rfl | rfl | rfl | rfl | rfl | rfl <;> first | (exact absurd h8 (by decide)) | decide) | (rcases h with rfl | rfl | rfl | rfl | rfl | rfl <;> first | (exact absurd h8 (by decide)) | decide) | (rcases h with rfl | rfl | rfl | rfl | rfl <;> first | (exact absurd h8 (by decide)) | decide) | (rcases h with rfl | rfl | rfl | rfl <;> first | (exact absurd h8 (by decide)) | decide) | (rcases h with rfl | rfl <;> first | (exact absurd h8 (by decide)) | decide))
theorem spec_hi {k : Int} {p : Nat × Int × Int} (h : p ∈ specF k) : p.2.2 ≤ 1000000 := by
  unfold specF at h
  repeat' split at h
  all_goals (simp only [List.mem_cons, List.not_mem_nil, or_false] at h)
  all_goals (first | (rcases h with rfl | rfl | rfl | rfl | rfl | rfl | rfl | rfl <;> decide) | (rcases h with rfl | rfl | rfl | rfl | rfl | rfl <;> decide) | (rcases h with rfl | rfl | rfl | rfl | rfl <;> decide) | (rcases h with rfl | rfl | rfl | rfl <;> decide) | (rcases h with rfl | rfl <;> decide))
/-- Its kind, its version, its day, whether it is gone, its text. -/
def headR (r : Rc) : Rc := ⟨r.kind, 0, r.version, r.day, r.gone, 0, 0, 0, 0, 0, 0, 0, false, 0, r.text⟩
theorem head_get (r : Rc) {j : Nat} (h : j < 10) : (headR r).get j = 0 := by
  rcases ten h with rfl | rfl | rfl | rfl | rfl | rfl | rfl | rfl | rfl | rfl <;> rfl
theorem zr_eq_head (r : Rc) : zr r (specF r.kind) = headR r ↔ ∀ i, i < 10 → i ∉ (specF r.kind).map Prod.fst → r.get i = 0 := by
  have hl : ∀ p ∈ specF r.kind, p.1 < 10 := fun p hp => (spec_lo hp).2
  constructor
  · intro h i hi hm
    have h1 := zr_get (specF r.kind) r hl i hi
    rw [if_neg hm, h, head_get r hi] at h1
    exact h1.symm
  · intro h
    have hh := zr_head (specF r.kind) r r ⟨rfl, rfl, rfl, rfl, rfl⟩
    refine Rc.ext_get hh.kind hh.version hh.day hh.gone hh.text fun i hi => ?_
    rw [zr_get (specF r.kind) r hl i hi, head_get r hi]
    by_cases hm : i ∈ (specF r.kind).map Prod.fst
    · rw [if_pos hm]
    · rw [if_neg hm]; exact h i hi hm
theorem headR_ok {r : Rc} (h : RcOk r) : RcOk (headR r) := by
  obtain ⟨h1, h2, h3, h4, h5, h6, h7, h8, h9, h10, h11, h12, h13⟩ := h
  have z : i64W 0 := by unfold i64W; omega
  constructor <;> assumption
noncomputable def validB (r : Rc) : Bool := @decide (ValidR r) (Classical.propDecidable _)
theorem validB_yes {r : Rc} (h : ValidR r) : validB r = true := by unfold validB; exact @decide_eq_true _ (Classical.propDecidable _) h
theorem validB_no {r : Rc} (h : ¬ ValidR r) : validB r = false := by unfold validB; exact @decide_eq_false _ (Classical.propDecidable _) h
theorem validB_iff {r : Rc} : validB r = true ↔ ValidR r := by unfold validB; exact @decide_eq_true_iff _ (Classical.propDecidable _)
theorem rcells_one (r : Rc) : ∀ v ∈ rcells r, v.oneCell' = true := by
  unfold rcells
  intro v hv
  simp only [List.mem_cons, List.not_mem_nil, or_false] at hv
  rcases hv with rfl | rfl | rfl | rfl | rfl | rfl | rfl | rfl | rfl | rfl | rfl | rfl | rfl | rfl | rfl <;> rfl
theorem fcl_get {l : List (Nat × Int × Int)} : ∀ {j : Nat} {p : Nat × Int × Int}, l[j]? = some p → ∀ (i : Nat) (v : Value), (fcells p)[i]? = some v → (fcl l)[j * 3 + i]? = some v := by
  induction l with
  | nil => intro j p h; simp at h
  | cons q l ih =>
    intro j p h i v hv
    have e : fcl (q :: l) = fcells q ++ fcl l := rfl
    rw [e]
    cases j with
    | zero =>
      simp only [List.getElem?_cons_zero, Option.some.injEq] at h
      subst h
      rw [Nat.zero_mul, Nat.zero_add, List.getElem?_append_left (by rw [fcells_len]; have := (List.getElem?_eq_some_iff.1 hv).1; rwa [fcells_len] at this)]
      exact hv
    | succ j =>
      rw [List.getElem?_cons_succ] at h
      have h1 := ih h i v hv
      rw [List.getElem?_append_right (by rw [fcells_len]; omega), fcells_len, show (j + 1) * 3 + i - 3 = j * 3 + i by omega]
      exact h1
def rcZ : Rc := ⟨0, 0, 0, 0, false, 0, 0, 0, 0, 0, 0, 0, false, 0, ByteArray.mk #[]⟩
end Go.Sx
/- Chapter 20: Valid is ValidR. -/
namespace Go.Sx
open Go Go.Proofs Go.RowKit
theorem hwXG {G G2 : Prop} (x : G2) (hwq : Hold G2 → G := by
    intro hQq
    repeat' (first | refine HL.pa ?_ (POp.fnil0 rfl rfl) | refine HL.pa ?_ (POp.fnil1 rfl rfl) | refine HL.pa ?_ (POp.nilCheck rfl) | apply HL.fold | apply HA.fold | apply HL.nil | apply HX.n_then | apply HC.seq | apply HC.region | refine HL.pa ?_ | refine HL.ga rfl ?_ | refine HL.na rfl ?_ | refine HL.nu rfl rfl ?_ | apply HC.block | apply HC.skip | apply HC.exit | apply HC.ret | apply HX.e_block | refine HX.e_other rfl ?_ | apply HX.e_then | apply HX.e_again | apply HX.n_block | apply HX.r_then | apply HX.r_block | apply HX.r_again | refine HC.cond_yes rfl ?_ | refine HC.cond_no rfl ?_ | refine HL.one (H1.ldb rfl memA rfl rfl ?_) | refine HC.cond rfl (fun hc => ?_) (fun hc => ?_) | refine HC.cond_b rfl (fun hc => ?_) (fun hc => ?_))
    exact hQq.get) : G := hwq ⟨x⟩
instance utyFn : UTy Tryz.prog 223 (.func #[231] #[230] false) := ⟨by kernel_rfl⟩
theorem call1 {P : Program} {f : FuncId} {v u : Value} {w : World} (h : Fn P f #[v] w fun x w' => x = u ∧ Ext w w') : Fn P f ([v] ++ ([] : List Value)).toArray w fun x w' => x = u ∧ Ext w w' := h
theorem call1w {P : Program} {f : FuncId} {v u : Value} {w : World} (h : Fn P f #[v] w fun x w' => x = u ∧ w = w') : Fn P f ([v] ++ ([] : List Value)).toArray w fun x w' => x = u ∧ Ext w w' := h.mono fun _ _ ⟨h1, h2⟩ => ⟨h1, h2 ▸ Ext.refl _⟩
attribute [local irreducible] WC WL WX POp Then Again Fn NX W1 WA WO QL RP RA Yld LoopAt HC HL HX HN H1 HA HO HQ HB HP A.blk A.grow A.rd A.obj A.mp AgainH CutH
attribute [local irreducible] specF zr
set_option maxHeartbeats 4000000 in
theorem valid_fn (r : Rc) (hr : RcOk r) (w : World) : Fn Tryz.prog 75 #[recV r] w fun v w' => v = .bool (validB r) ∧ Ext w w' := by
  refine enterH (l := [_]) rfl Tryz.ntmps75 rfl ?_
  refine hwXG ?_
  refine HL.one (H1.boxAgg (cs := rcells r) rfl rfl (fun b1 => ?_))
  refine hwXG ?_
  by_cases hk : 1 ≤ r.kind ∧ r.kind ≤ 8
  rotate_left
  · refine HL.one (H1.callx (vs := [zv r.kind]) rfl rfl (fun w' _ => shapeOf_no r.kind hk w') ?_)
    refine hwXG ?_
    refine HL.one (H1.alloc (cs := [.slice none 0 0, .nilFunc, zv 0, zv 0, .nilFunc]) rfl rfl (fun b3 => ?_))
    refine hwXG ?_
    refine HL.one (H1.stAgg (cs := [.slice none 0 0, .nilFunc, zv 0, zv 0, .nilFunc]) (vs := [.slice none 0 0, .nilFunc, zv 0, zv 0, .nilFunc]) rfl rfl rfl (by intro v hv; simp only [List.mem_cons, List.not_mem_nil, or_false] at hv; rcases hv with rfl | rfl | rfl | rfl | rfl <;> rfl) rplA rfl ?_)
    refine hwXG ?_
    exact HX.ret1 rfl rfl fun w' hM => ⟨by rw [validB_no fun h => hk h.kind], hM.ext⟩
  refine HL.one (H1.callz1 (vs := [zv r.kind]) rfl rfl (fun w' _ => shapeOf_fn r.kind hk w') ?_)
  rintro ⟨a, c⟩ -
  have hlen := spec_len r.kind
  have hpos := spec_pos hk
  refine hwXG ?_
  refine HL.openg (e := 225) (a := a) (xs := fcl (specF r.kind)) memA (by omega) ?_
  rintro bz rfl
  refine HL.one (H1.alloc (cs := [.slice none 0 0, .nilFunc, zv 0, zv 0, .nilFunc]) rfl rfl (fun b3 => ?_))
  refine hwXG ?_
  refine HL.one (H1.stAgg (cs := [.slice none 0 0, .nilFunc, zv 0, zv 0, .nilFunc]) (vs := shapeC (some ⟨bz, 0, none⟩, c) r.kind) rfl rfl rfl (by unfold shapeC; intro v hv; simp only [List.mem_cons, List.not_mem_nil, or_false] at hv; rcases hv with rfl | rfl | rfl | rfl | rfl <;> rfl) rplA rfl ?_)
  simp only [shapeC]
  by_cases c1 : r.version < 1
  · refine hwXG ?_
    exact HX.ret1 rfl rfl fun w' hM => ⟨by rw [validB_no fun h => by have := h.ver; omega], hM.ext⟩
  by_cases c2 : 1000000 < r.version
  · refine hwXG ?_
    exact HX.ret1 rfl rfl fun w' hM => ⟨by rw [validB_no fun h => by have := h.ver; omega], hM.ext⟩
  by_cases c3 : r.day < 0
  · refine hwXG ?_
    exact HX.ret1 rfl rfl fun w' hM => ⟨by rw [validB_no fun h => by have := h.day; omega], hM.ext⟩
  by_cases c4 : 100000 < r.day
  · refine hwXG ?_
    exact HX.ret1 rfl rfl fun w' hM => ⟨by rw [validB_no fun h => by have := h.day; omega], hM.ext⟩
  by_cases c5 : (200 : Int) < r.text.size
  · refine hwXG ?_
    exact HX.ret1 rfl rfl fun w' hM => ⟨by rw [validB_no fun h => by have := h.text; omega], hM.ext⟩
  have hro := rest_ok r
  obtain ⟨ho, hrest⟩ := hro
  refine hwXG ?_
  refine HL.one (H1.ldAgg (vs := rcells r) rfl memA rfl (fun i v hv => by rw [Nat.zero_add]; exact hv) rfl ?_)
  refine hwXG ?_
  refine HL.one (H1.callv0 (hf := ho) (f := rid r.kind) (cap := []) (vs := [recV r]) rfl rfl rfl (fun w' _ => call1 (hrest w')) ?_)
  by_cases c6 : restP r
  rotate_left
  · rw [decide_eq_false c6]
    refine hwXG ?_
    exact HX.ret1 rfl rfl fun w' hM => ⟨by rw [validB_no fun h => c6 h.rest], hM.ext⟩
  rw [decide_eq_true c6]
  refine hwXG ?_
  refine HL.one (H1.ldAgg (vs := rcells r) rfl memA rfl (fun i v hv => by rw [Nat.zero_add]; exact hv) rfl ?_)
  refine hwXG ?_
  refine HL.one (H1.alloc (cs := rcells rcZ) rfl rfl (fun b5 => ?_))
  refine hwXG ?_
  refine HL.one (H1.stAgg (cs := rcells rcZ) (vs := rcells r) rfl rfl rfl (rcells_one r) rplA rfl ?_)
  refine hwXG ?_
  obtain ⟨L, hL⟩ : ∃ L, L = specF r.kind := ⟨_, rfl⟩
  have hl10 : ∀ p ∈ L, p.1 < 10 := fun p hp => (spec_lo (hL ▸ hp)).2
  have hnd : (L.map Prod.fst).Nodup := by rw [hL]; exact spec_nodup r.kind
  have hl8 : ∀ p ∈ L, p.1 = 8 → p.2.1 = 0 ∧ p.2.2 = 1 := fun p hp => spec8 (hL ▸ hp)
  have hhi : ∀ p ∈ L, p.2.2 ≤ 1000000 ∧ 0 ≤ p.2.1 := fun p hp => ⟨spec_hi (hL ▸ hp), (spec_lo (hL ▸ hp)).1⟩
  rw [← hL] at hlen hpos ⊢
  refine HC.loop (α := Nat) (fun j => [(1, .pointer (some ⟨b1, 0, none⟩)), (5, .pointer (some ⟨b5, 0, none⟩)), (52, .slice (some ⟨bz, 0, none⟩) L.length c), (53, zv (L.length : Int)), (54, zv (j : Int))])
    (fun j => [A.blk b5 (rcells (zr r (L.take j))) 36, A.grow 225 3 (some ⟨bz, 0, none⟩) c L.length (fcl L), A.blk b1 (rcells r) 36]) (fun j => j ≤ L.length ∧ ∀ p ∈ L.take j, p.2.1 ≤ r.get p.1 ∧ r.get p.1 ≤ p.2.2) (fun j => L.length - j) 0 ⟨Nat.zero_le _, fun p hp => by rw [List.take_zero] at hp; cases hp⟩ esA (Hs.blk (by rw [List.take_zero, zr]; rfl) (by repeat (first | exact Hs.nil _ | (refine Hs.cons pickA ?_)))) ?_
  rintro j ⟨hj, hI⟩
  by_cases hlt : j < L.length
  · obtain ⟨p, hp⟩ : ∃ p, L[j]? = some p := ⟨_, List.getElem?_eq_getElem hlt⟩
    have hpm := List.mem_of_getElem? hp
    have htk : L.take (j + 1) = L.take j ++ [p] := by rw [List.take_add_one, hp]; rfl
    have hp10 := hl10 p hpm
    have hz := zr_snoc r (L.take j) p
    rw [← htk] at hz
    have hnot : p.1 ∉ (L.take j).map Prod.fst := by
      have h1 : (L.map Prod.fst)[j]? = some p.1 := by rw [List.getElem?_map, hp]; rfl
      intro hm
      rw [List.map_take] at hm
      obtain ⟨i, hi, e⟩ := List.getElem_of_mem hm
      rw [List.length_take] at hi
      have h2 : (L.map Prod.fst)[i]? = some p.1 := by
        rw [List.getElem?_eq_getElem (by omega)]
        rw [List.getElem_take] at e
        rw [e]
      have := (List.getElem?_inj (by omega) hnd).1 (h2.trans h1.symm)
      omega
    have hget : (zr r (L.take j)).get p.1 = r.get p.1 := by
      rw [zr_get (L.take j) r (fun q hq => hl10 q (List.mem_of_mem_take hq)) p.1 hp10, if_neg hnot]
    have hI2 : p.2.1 ≤ r.get p.1 ∧ r.get p.1 ≤ p.2.2 → ∀ q ∈ L.take (j + 1), q.2.1 ≤ r.get q.1 ∧ r.get q.1 ≤ q.2.2 := fun h q hq => by
      rw [htk] at hq
      rcases List.mem_append.1 hq with hq | hq
      · exact hI q hq
      · obtain rfl := List.mem_singleton.1 hq; exact h
    have hno : ¬ (p.2.1 ≤ r.get p.1 ∧ r.get p.1 ≤ p.2.2) → validB r = false := fun h => validB_no fun hv => h (hv.lim p (hL ▸ hpm))
    have hfg := fcl_get hp
    have h8 := hl8 p hpm
    have hb := hhi p hpm
    obtain ⟨i, lo, hi⟩ := p
    dsimp only at hp10 hz hnot hget hI2 hno h8 hb
    refine hwXG ?_
    by_cases e8 : i = 8
    · subst e8
      obtain ⟨rfl, rfl⟩ := h8 rfl
      refine HL.one (H1.ldAggw (vs := [.nilFunc, zv 0, zv 0]) rfl rfl (fun w' hM i v hv => ownsRow_cell (hM.own memA) (hfg i v hv)) rfl ?_)
      refine hwXG ?_
      refine HL.one (H1.alloc (cs := [.nilFunc, zv 0, zv 0]) rfl rfl (fun b7 => ?_))
      refine hwXG ?_
      refine HL.one (H1.stAgg (cs := [.nilFunc, zv 0, zv 0]) (vs := [.nilFunc, zv 0, zv 0]) rfl rfl rfl (by intro v hv; simp only [List.mem_cons, List.not_mem_nil, or_false] at hv; rcases hv with rfl | rfl | rfl <;> rfl) rplA rfl ?_)
      refine hwXG ?_
      refine HL.one (H1.st rfl rfl (by intro _ h; cases h) (by intro _ h; cases h) rplA (by show 12 < 15; decide) ?_)
      refine hwXG ?_
      have h12 : (rcells (zr r (L.take j))).set (0 + 12) (.bool false) = rcells (zr r (L.take (j + 1))) := by rw [hz]; exact cells_clr8 _
      rw [h12]
      refine hwXG ?_
      exact HX.again (j + 1) ⟨hlt, hI2 (by show (0 : Int) ≤ b01 r.adm ∧ b01 r.adm ≤ 1; cases r.adm <;> decide)⟩ (by omega) esA (by repeat (first | exact Hs.nil _ | (refine Hs.cons pickA ?_)))
    · have hfc : fcells (i, lo, hi) = [fnV (fid i), zv lo, zv hi] := if_neg e8
      rw [hfc] at hfg
      obtain ⟨go, hgf⟩ := getter_ok hp10 e8
      have hcell := cells_get (zr r (L.take j)) hp10 e8
      rw [hget] at hcell
      have hset := cells_clr (zr r (L.take j)) hp10 e8
      rw [← hz] at hset
      refine HL.one (H1.ldAggw (vs := [fnV (fid i), zv lo, zv hi]) rfl rfl (fun w' hM i v hv => ownsRow_cell (hM.own memA) (hfg i v hv)) rfl ?_)
      refine hwXG ?_
      refine HL.one (H1.alloc (cs := [.nilFunc, zv 0, zv 0]) rfl rfl (fun b7 => ?_))
      refine hwXG ?_
      refine HL.one (H1.stAgg (cs := [.nilFunc, zv 0, zv 0]) (vs := [fnV (fid i), zv lo, zv hi]) rfl rfl rfl (by intro v hv; simp only [List.mem_cons, List.not_mem_nil, or_false] at hv; rcases hv with rfl | rfl | rfl <;> rfl) rplA rfl ?_)
      refine hwXG ?_
      refine HL.one (H1.callv0 (hf := go) (f := fid i) (cap := []) (vs := [.pointer (some ⟨b5, 0, none⟩)]) rfl rfl rfl (fun w' _ => call1w (hgf b5 w')) ?_)
      generalize r.get i = x at *
      refine hwXG ?_
      by_cases d1 : x < lo
      · refine HC.any rfl ?_
        refine HA.pa 0 rfl ?_
        refine HA.pa 1 rfl ?_ (POp.nilCheck rfl)
        refine HA.pa 3 rfl ?_
        refine HA.all [2, 4] (by kernel_rfl) rfl ⟨⟨_, rfl, ?_⟩, ⟨_, rfl, ?_⟩, trivial⟩
        · refine HO.one ?_
          refine H1.ldb (v := zv x) rfl memA hcell rfl ?_
          apply HA.fold
          refine HA.all [4] (by kernel_rfl) rfl ⟨⟨_, rfl, ?_⟩, trivial⟩
          refine HO.one ?_
          refine H1.ldb (v := zv lo) rfl memA rfl rfl ?_
          apply HA.fold
          refine HA.pa 5 rfl ?_
          refine HA.pa 6 rfl ?_
          first | refine HA.ga 7 rfl rfl ?_ | refine HA.na 7 rfl rfl ?_ | refine HA.nu 7 rfl rfl ?_
          first | refine HA.ga 8 rfl rfl ?_ | refine HA.na 8 rfl rfl ?_ | refine HA.nu 8 rfl rfl ?_
          first | refine HA.ga 9 rfl rfl ?_ | refine HA.na 9 rfl rfl ?_ | refine HA.nu 9 rfl rfl ?_
          first | refine HA.ga 10 rfl rfl ?_ | refine HA.na 10 rfl rfl ?_ | refine HA.nu 10 rfl rfl ?_
          first | refine HA.ga 11 rfl rfl ?_ | refine HA.na 11 rfl rfl ?_ | refine HA.nu 11 rfl rfl ?_
          first | refine HA.ga 12 rfl rfl ?_ | refine HA.na 12 rfl rfl ?_ | refine HA.nu 12 rfl rfl ?_
          refine HA.pa 13 rfl ?_
          refine HA.done (by kernel_rfl) ?_
          refine hwXG ?_
          exact HX.ret1 rfl rfl fun w' hM => ⟨by rw [hno (by omega)], hM.ext⟩
        · refine HO.one ?_
          refine H1.ldb (v := zv lo) rfl memA rfl rfl ?_
          apply HA.fold
          refine HA.all [2] (by kernel_rfl) rfl ⟨⟨_, rfl, ?_⟩, trivial⟩
          refine HO.one ?_
          refine H1.ldb (v := zv x) rfl memA hcell rfl ?_
          apply HA.fold
          refine HA.pa 5 rfl ?_
          refine HA.pa 6 rfl ?_
          first | refine HA.ga 7 rfl rfl ?_ | refine HA.na 7 rfl rfl ?_ | refine HA.nu 7 rfl rfl ?_
          first | refine HA.ga 8 rfl rfl ?_ | refine HA.na 8 rfl rfl ?_ | refine HA.nu 8 rfl rfl ?_
          first | refine HA.ga 9 rfl rfl ?_ | refine HA.na 9 rfl rfl ?_ | refine HA.nu 9 rfl rfl ?_
          first | refine HA.ga 10 rfl rfl ?_ | refine HA.na 10 rfl rfl ?_ | refine HA.nu 10 rfl rfl ?_
          first | refine HA.ga 11 rfl rfl ?_ | refine HA.na 11 rfl rfl ?_ | refine HA.nu 11 rfl rfl ?_
          first | refine HA.ga 12 rfl rfl ?_ | refine HA.na 12 rfl rfl ?_ | refine HA.nu 12 rfl rfl ?_
          refine HA.pa 13 rfl ?_
          refine HA.done (by kernel_rfl) ?_
          refine hwXG ?_
          exact HX.ret1 rfl rfl fun w' hM => ⟨by rw [hno (by omega)], hM.ext⟩
      by_cases d2 : hi < x
      · refine HC.any rfl ?_
        refine HA.pa 0 rfl ?_
        refine HA.pa 1 rfl ?_ (POp.nilCheck rfl)
        refine HA.pa 3 rfl ?_
        refine HA.all [2, 4] (by kernel_rfl) rfl ⟨⟨_, rfl, ?_⟩, ⟨_, rfl, ?_⟩, trivial⟩
        · refine HO.one ?_
          refine H1.ldb (v := zv x) rfl memA hcell rfl ?_
          apply HA.fold
          refine HA.all [4] (by kernel_rfl) rfl ⟨⟨_, rfl, ?_⟩, trivial⟩
          refine HO.one ?_
          refine H1.ldb (v := zv lo) rfl memA rfl rfl ?_
          apply HA.fold
          refine HA.pa 5 rfl ?_
          refine HA.pa 6 rfl ?_
          first | refine HA.ga 7 rfl rfl ?_ | refine HA.na 7 rfl rfl ?_ | refine HA.nu 7 rfl rfl ?_
          refine HA.ga (hp := POp.nilCheck rfl) 8 rfl rfl ?_
          first | refine HA.ga 10 rfl rfl ?_ | refine HA.na 10 rfl rfl ?_ | refine HA.nu 10 rfl rfl ?_
          refine HA.all [9, 11] (by kernel_rfl) rfl ⟨⟨_, rfl, ?_⟩, ⟨_, rfl, ?_⟩, trivial⟩
          · refine HO.one_a rfl ?_
            refine H1.ldb (v := zv x) rfl memA hcell rfl ?_
            apply HA.fold
            refine HA.all [11] (by kernel_rfl) rfl ⟨⟨_, rfl, ?_⟩, trivial⟩
            refine HO.one_a rfl ?_
            refine H1.ldb (v := zv hi) rfl memA rfl rfl ?_
            apply HA.fold
            first | refine HA.ga 12 rfl rfl ?_ | refine HA.na 12 rfl rfl ?_ | refine HA.nu 12 rfl rfl ?_
            refine HA.pa 13 rfl ?_
            refine HA.done (by kernel_rfl) ?_
            refine hwXG ?_
            exact HX.ret1 rfl rfl fun w' hM => ⟨by rw [hno (by omega)], hM.ext⟩
          · refine HO.one_a rfl ?_
            refine H1.ldb (v := zv hi) rfl memA rfl rfl ?_
            apply HA.fold
            refine HA.all [9] (by kernel_rfl) rfl ⟨⟨_, rfl, ?_⟩, trivial⟩
            refine HO.one_a rfl ?_
            refine H1.ldb (v := zv x) rfl memA hcell rfl ?_
            apply HA.fold
            first | refine HA.ga 12 rfl rfl ?_ | refine HA.na 12 rfl rfl ?_ | refine HA.nu 12 rfl rfl ?_
            refine HA.pa 13 rfl ?_
            refine HA.done (by kernel_rfl) ?_
            refine hwXG ?_
            exact HX.ret1 rfl rfl fun w' hM => ⟨by rw [hno (by omega)], hM.ext⟩
        · refine HO.one ?_
          refine H1.ldb (v := zv lo) rfl memA rfl rfl ?_
          apply HA.fold
          refine HA.all [2] (by kernel_rfl) rfl ⟨⟨_, rfl, ?_⟩, trivial⟩
          refine HO.one ?_
          refine H1.ldb (v := zv x) rfl memA hcell rfl ?_
          apply HA.fold
          refine HA.pa 5 rfl ?_
          refine HA.pa 6 rfl ?_
          first | refine HA.ga 7 rfl rfl ?_ | refine HA.na 7 rfl rfl ?_ | refine HA.nu 7 rfl rfl ?_
          refine HA.ga (hp := POp.nilCheck rfl) 8 rfl rfl ?_
          first | refine HA.ga 10 rfl rfl ?_ | refine HA.na 10 rfl rfl ?_ | refine HA.nu 10 rfl rfl ?_
          refine HA.all [9, 11] (by kernel_rfl) rfl ⟨⟨_, rfl, ?_⟩, ⟨_, rfl, ?_⟩, trivial⟩
          · refine HO.one_a rfl ?_
            refine H1.ldb (v := zv x) rfl memA hcell rfl ?_
            apply HA.fold
            refine HA.all [11] (by kernel_rfl) rfl ⟨⟨_, rfl, ?_⟩, trivial⟩
            refine HO.one_a rfl ?_
            refine H1.ldb (v := zv hi) rfl memA rfl rfl ?_
            apply HA.fold
            first | refine HA.ga 12 rfl rfl ?_ | refine HA.na 12 rfl rfl ?_ | refine HA.nu 12 rfl rfl ?_
            refine HA.pa 13 rfl ?_
            refine HA.done (by kernel_rfl) ?_
            refine hwXG ?_
            exact HX.ret1 rfl rfl fun w' hM => ⟨by rw [hno (by omega)], hM.ext⟩
          · refine HO.one_a rfl ?_
            refine H1.ldb (v := zv hi) rfl memA rfl rfl ?_
            apply HA.fold
            refine HA.all [9] (by kernel_rfl) rfl ⟨⟨_, rfl, ?_⟩, trivial⟩
            refine HO.one_a rfl ?_
            refine H1.ldb (v := zv x) rfl memA hcell rfl ?_
            apply HA.fold
            first | refine HA.ga 12 rfl rfl ?_ | refine HA.na 12 rfl rfl ?_ | refine HA.nu 12 rfl rfl ?_
            refine HA.pa 13 rfl ?_
            refine HA.done (by kernel_rfl) ?_
            refine hwXG ?_
            exact HX.ret1 rfl rfl fun w' hM => ⟨by rw [hno (by omega)], hM.ext⟩
      refine HC.any rfl ?_
      refine HA.pa 0 rfl ?_
      refine HA.pa 1 rfl ?_ (POp.nilCheck rfl)
      refine HA.pa 3 rfl ?_
      refine HA.all [2, 4] (by kernel_rfl) rfl ⟨⟨_, rfl, ?_⟩, ⟨_, rfl, ?_⟩, trivial⟩
      · refine HO.one ?_
        refine H1.ldb (v := zv x) rfl memA hcell rfl ?_
        apply HA.fold
        refine HA.all [4] (by kernel_rfl) rfl ⟨⟨_, rfl, ?_⟩, trivial⟩
        refine HO.one ?_
        refine H1.ldb (v := zv lo) rfl memA rfl rfl ?_
        apply HA.fold
        refine HA.pa 5 rfl ?_
        refine HA.pa 6 rfl ?_
        first | refine HA.ga 7 rfl rfl ?_ | refine HA.na 7 rfl rfl ?_ | refine HA.nu 7 rfl rfl ?_
        refine HA.ga (hp := POp.nilCheck rfl) 8 rfl rfl ?_
        first | refine HA.ga 10 rfl rfl ?_ | refine HA.na 10 rfl rfl ?_ | refine HA.nu 10 rfl rfl ?_
        refine HA.all [9, 11] (by kernel_rfl) rfl ⟨⟨_, rfl, ?_⟩, ⟨_, rfl, ?_⟩, trivial⟩
        · refine HO.one_a rfl ?_
          refine H1.ldb (v := zv x) rfl memA hcell rfl ?_
          apply HA.fold
          refine HA.all [11] (by kernel_rfl) rfl ⟨⟨_, rfl, ?_⟩, trivial⟩
          refine HO.one_a rfl ?_
          refine H1.ldb (v := zv hi) rfl memA rfl rfl ?_
          apply HA.fold
          first | refine HA.ga 12 rfl rfl ?_ | refine HA.na 12 rfl rfl ?_ | refine HA.nu 12 rfl rfl ?_
          refine HA.pa 13 rfl ?_
          refine HA.done (by kernel_rfl) ?_
          refine hwXG ?_
          refine HL.one (H1.st rfl rfl (by intro _ h; cases h) (by intro _ h; cases h) rplA (by exact fpos_lt i) ?_)
          rw [hset]
          refine hwXG ?_
          exact HX.again (j + 1) ⟨hlt, hI2 (by omega)⟩ (by omega) esA (by repeat (first | exact Hs.nil _ | (refine Hs.cons pickA ?_)))
        · refine HO.one_a rfl ?_
          refine H1.ldb (v := zv hi) rfl memA rfl rfl ?_
          apply HA.fold
          refine HA.all [9] (by kernel_rfl) rfl ⟨⟨_, rfl, ?_⟩, trivial⟩
          refine HO.one_a rfl ?_
          refine H1.ldb (v := zv x) rfl memA hcell rfl ?_
          apply HA.fold
          first | refine HA.ga 12 rfl rfl ?_ | refine HA.na 12 rfl rfl ?_ | refine HA.nu 12 rfl rfl ?_
          refine HA.pa 13 rfl ?_
          refine HA.done (by kernel_rfl) ?_
          refine hwXG ?_
          refine HL.one (H1.st rfl rfl (by intro _ h; cases h) (by intro _ h; cases h) rplA (by exact fpos_lt i) ?_)
          rw [hset]
          refine hwXG ?_
          exact HX.again (j + 1) ⟨hlt, hI2 (by omega)⟩ (by omega) esA (by repeat (first | exact Hs.nil _ | (refine Hs.cons pickA ?_)))
      · refine HO.one ?_
        refine H1.ldb (v := zv lo) rfl memA rfl rfl ?_
        apply HA.fold
        refine HA.all [2] (by kernel_rfl) rfl ⟨⟨_, rfl, ?_⟩, trivial⟩
        refine HO.one ?_
        refine H1.ldb (v := zv x) rfl memA hcell rfl ?_
        apply HA.fold
        refine HA.pa 5 rfl ?_
        refine HA.pa 6 rfl ?_
        first | refine HA.ga 7 rfl rfl ?_ | refine HA.na 7 rfl rfl ?_ | refine HA.nu 7 rfl rfl ?_
        refine HA.ga (hp := POp.nilCheck rfl) 8 rfl rfl ?_
        first | refine HA.ga 10 rfl rfl ?_ | refine HA.na 10 rfl rfl ?_ | refine HA.nu 10 rfl rfl ?_
        refine HA.all [9, 11] (by kernel_rfl) rfl ⟨⟨_, rfl, ?_⟩, ⟨_, rfl, ?_⟩, trivial⟩
        · refine HO.one_a rfl ?_
          refine H1.ldb (v := zv x) rfl memA hcell rfl ?_
          apply HA.fold
          refine HA.all [11] (by kernel_rfl) rfl ⟨⟨_, rfl, ?_⟩, trivial⟩
          refine HO.one_a rfl ?_
          refine H1.ldb (v := zv hi) rfl memA rfl rfl ?_
          apply HA.fold
          first | refine HA.ga 12 rfl rfl ?_ | refine HA.na 12 rfl rfl ?_ | refine HA.nu 12 rfl rfl ?_
          refine HA.pa 13 rfl ?_
          refine HA.done (by kernel_rfl) ?_
          refine hwXG ?_
          refine HL.one (H1.st rfl rfl (by intro _ h; cases h) (by intro _ h; cases h) rplA (by exact fpos_lt i) ?_)
          rw [hset]
          refine hwXG ?_
          exact HX.again (j + 1) ⟨hlt, hI2 (by omega)⟩ (by omega) esA (by repeat (first | exact Hs.nil _ | (refine Hs.cons pickA ?_)))
        · refine HO.one_a rfl ?_
          refine H1.ldb (v := zv hi) rfl memA rfl rfl ?_
          apply HA.fold
          refine HA.all [9] (by kernel_rfl) rfl ⟨⟨_, rfl, ?_⟩, trivial⟩
          refine HO.one_a rfl ?_
          refine H1.ldb (v := zv x) rfl memA hcell rfl ?_
          apply HA.fold
          first | refine HA.ga 12 rfl rfl ?_ | refine HA.na 12 rfl rfl ?_ | refine HA.nu 12 rfl rfl ?_
          refine HA.pa 13 rfl ?_
          refine HA.done (by kernel_rfl) ?_
          refine hwXG ?_
          refine HL.one (H1.st rfl rfl (by intro _ h; cases h) (by intro _ h; cases h) rplA (by exact fpos_lt i) ?_)
          rw [hset]
          refine hwXG ?_
          exact HX.again (j + 1) ⟨hlt, hI2 (by omega)⟩ (by omega) esA (by repeat (first | exact Hs.nil _ | (refine Hs.cons pickA ?_)))
  obtain rfl : j = L.length := by omega
  rw [List.take_length] at hI ⊢
  have hzk := zr_ok L r hl10 hr
  have hhk := headR_ok hr
  have hzh := zr_eq_head r
  rw [← hL] at hzh
  refine hwXG ?_
  refine HL.one (H1.ldAgg (vs := rcells (zr r L)) rfl memA rfl (fun i v hv => by rw [Nat.zero_add]; exact hv) rfl ?_)
  refine hwXG ?_
  refine HL.build (cs := rcells (headR r)) rfl rfl rfl ?_
  refine HL.pa ?_ (POp.eqRec rfl rfl hzk hhk)
  refine hwXG ?_
  exact HX.ret1 rfl rfl fun w' hM => ⟨congrArg Value.bool (by
    rw [Bool.eq_iff_iff, validB_iff, @decide_eq_true_iff, hzh]
    constructor
    · exact fun h => ⟨hk, ⟨by omega, by omega⟩, ⟨by omega, by omega⟩, by omega, c6, fun p hp => hI p (hL ▸ hp), fun i hi hm => h i hi (hL ▸ hm)⟩
    · exact fun h i hi hm => h.zero i hi (hL ▸ hm)), hM.ext⟩
end Go.Sx
/- Chapter 1: the encoding of a number, by groups of seven bits. -/
namespace Go.Sx
open Go Go.Proofs Go.RowKit
theorem hwXH {G G2 : Prop} (x : G2) (hwq : Hold G2 → G := by
    intro hQq
    repeat' (first | apply HL.fold | apply HA.fold | apply HL.nil | apply HX.n_then | apply HC.seq | apply HC.region | refine HL.pa ?_ | refine HL.ga rfl ?_ | refine HL.na rfl ?_ | refine HL.nu rfl rfl ?_ | apply HC.block | apply HC.skip | apply HC.exit | apply HC.ret | apply HX.e_block | refine HX.e_other rfl ?_ | apply HX.e_then | apply HX.e_again | apply HX.n_block | apply HX.r_then | apply HX.r_block | apply HX.r_again | refine HC.cond_yes rfl ?_ | refine HC.cond_no rfl ?_ | refine HL.one (H1.ldb rfl memA rfl rfl ?_) | refine HC.cond rfl (fun hc => ?_) (fun hc => ?_) | refine HC.cond_b rfl (fun hc => ?_) (fun hc => ?_))
    exact hQq.get) : G := hwq ⟨x⟩
theorem bits_or_u8 (a b : Nat) (ha : a < 256) (hb : b < 256) : bits .or .u8 (a : Int) (b : Int) = ((a ||| b : Nat) : Int) := by
  show IntKind.u8.wrap (((BitVec.ofInt 8 a ||| BitVec.ofInt 8 b).toNat : Nat) : Int) = _
  have h1 : (BitVec.ofInt 8 (a : Int)).toNat = a := by simp; omega
  have h2 : (BitVec.ofInt 8 (b : Int)).toNat = b := by simp; omega
  have h3 : a ||| b < 256 := Nat.or_lt_two_pow (n := 8) ha hb
  rw [BitVec.toNat_or, h1, h2]
  exact wrap_u8 (by omega) (by omega)
theorem POp.or8 {P : Program} {N : Nat} {ds : List Deferred} {E : Env} {t t' ty : TypeId} {x y : Operand} {m n : Int} {a b : Nat} (hx : Env.ev E x = some (.int .u8 m)) (hy : Env.ev E y = some (.int .u8 n)) (em : m = (a : Int)) (en : n = (b : Int)) (h1 : a < 256) (h2 : b < 256) :
    POp P N ds E (.binOp .or t x y t') ty (.int .u8 ((a ||| b : Nat) : Int)) := POp.bin hx hy guard_int fun w => by
  subst em; subst en
  rw [binOp_or, intBits_or, bits_or_u8 a b h1 h2]; rfl
theorem or_128 {a : Nat} (h : a < 128) : a ||| 128 = a + 128 := by
  have e := Nat.two_pow_add_eq_or_of_lt (i := 7) (b := a) (by omega) 1
  rw [show 2 ^ 7 * 1 = 128 from rfl] at e
  rw [Nat.or_comm, ← e]; omega
theorem vint_len : ∀ (n z : Nat), z < 128 ^ (n + 1) → (vint z).length ≤ n + 1
  | 0, z, h => by rw [vint_lt (by omega)]; simp
  | n + 1, z, h => by
    by_cases hz : z < 128
    · rw [vint_lt hz]; simp
    · rw [vint_ge hz, List.length_cons]
      have := vint_len n (z / 128) (by rw [Nat.pow_succ] at h; omega)
      omega
theorem vint_pos (z : Nat) : 0 < (vint z).length := by
  by_cases h : z < 128
  · rw [vint_lt h]; simp
  · rw [vint_ge h]; simp
def ub (l : List UInt8) : List Value := l.map fun b => .int .u8 ((b.toNat : Nat) : Int)
def bytG (b4 : Nat) (ys : List UInt8) (a : Option Addr) (c : Nat) : List Atom := [A.blk b4 [.slice a ys.length c] 148, A.grow 5 1 a c ys.length (ub ys)]
theorem H1.bstrg {P : Program} {r : Option Nat} {N : Nat} {ds : List Deferred} {Q : Post} {E : Env} {w0 : World} {H : List Atom} {next : Act → World → Prop} {g : Option (Nat × Bool)} {d : Nat} {t ty : TypeId} {pos : String} {af : Array Edge} {x : Operand}
    {dst e : TypeId} {b c : Nat} {ys : List UInt8} [h : UTy P t (.slice e)] [he : UTy P e (.int .u8)] [hs : UTy P dst .string] (hx : Env.ev E x = some (.slice (some ⟨b, 0, none⟩) ys.length c)) (hm : A.grow e 1 (some ⟨b, 0, none⟩) c ys.length (ub ys) ∈ H)
    (hd : Nat.blt d N = true) (hn : HN N ds next ((d, .string ⟨ys.toArray⟩) :: E) w0 H) : H1 P r N ds next ⟨some d, .convert t dst x, ty, pos, af, g⟩ Q E w0 H := fun w hM =>
  W1.bytes_string hx rfl (fun j hj => by
    rw [add_lit, Nat.zero_add]
    exact ownsRow_cell (hM.own hm) (by simp [ub, hj])) hd (hn w hM)
attribute [local irreducible] WC WL WX POp Then Again Fn NX W1 WA WO QL RP RA Yld LoopAt HC HL HX HN H1 HA HO HQ HB HP A.blk A.grow A.rd A.obj A.mp AgainH CutH
set_option maxHeartbeats 2000000 in
theorem groups1_fn {w0 : World} {K0 K1 : Atom} {bz b4 l : Nat} (z0 : Nat) (hz0 : z0 < 9223372036854775808)
    (hy : ∀ (z : Nat) (ys : List UInt8) (a : Option Addr) (c : Nat), z < 9223372036854775808 → ys.length ≤ 9 → ∀ w, Mm w0 (K0 :: K1 :: A.blk bz [.int .u64 (z : Int)] 244 :: bytG b4 ys a c) w →
      Yld Tryz.prog l [.int .u8 ((z % 128 : Nat) : Int), .bool (decide (z < 128))] w fun b w' => b = true ∧ ∃ q : Option Addr × Nat, True ∧
        Mm w0 (K0 :: K1 :: A.blk bz [.int .u64 (z : Int)] 244 :: bytG b4 (ys ++ [UInt8.ofNat (if z < 128 then z else z % 128 + 128)]) q.1 q.2) w') :
    ∀ w, Mm w0 (K0 :: K1 :: A.blk bz [.int .u64 (z0 : Int)] 244 :: bytG b4 [] none 0) w →
      Fn Tryz.prog 251 (.func (.yield l) #[] #[] :: [.pointer (some ⟨bz, 0, none⟩)]).toArray w fun _ w' => ∃ q : Nat × Option Addr × Nat, True ∧ Mm w0 (K0 :: K1 :: A.blk bz [.int .u64 (q.1 : Int)] 244 :: bytG b4 (vint z0) q.2.1 q.2.2) w' := by
  intro w hM
  refine enterK (l := [_, _]) hM rfl Tryz.ntmps251 rfl ?_
  refine hwXH ?_
  refine HC.loop (α := Nat × List UInt8 × Option Addr × Nat) (fun z => [(0, .func (.yield l) #[] #[]), (1, .pointer (some ⟨bz, 0, none⟩))]) (fun z => K0 :: K1 :: A.blk bz [.int .u64 (z.1 : Int)] 244 :: bytG b4 z.2.1 z.2.2.1 z.2.2.2)
    (fun z => z.1 < 9223372036854775808 ∧ z.2.1 ++ vint z.1 = vint z0) (fun z => z.1) (z0, [], none, 0) ⟨hz0, rfl⟩ esA (Hs.refl _) ?_
  rintro ⟨z, ys, a, c⟩ ⟨hz, hv⟩
  dsimp only at hz hv ⊢
  have hlen : ys.length ≤ 9 := by
    have h1 := vint_len 8 z0 (by omega)
    rw [← hv, List.length_append] at h1
    omega
  have hand : z &&& 127 = z % 128 := Nat.and_two_pow_sub_one_eq_mod z 7
  have hsh : z >>> 7 = z / 128 := Nat.shiftRight_eq_div_pow z 7
  have hy' := hy z ys a c hz hlen
  by_cases hlt : z < 128
  · rw [if_pos hlt, decide_eq_true hlt] at hy'
    have hlt' : (z : Int) < 128 := by omega
    have hvz := vint_lt hlt
    refine hwXH ?_
    refine HL.pa ?_ (POp.and64 rfl rfl rfl rfl (by omega) (by decide))
    rw [hand]
    refine hwXH ?_
    rw [decide_eq_true hlt']
    refine HL.one (H1.yield rfl rfl rfl hy' ?_)
    rintro ⟨a', c'⟩ -
    dsimp only
    refine hwXH ?_
    refine HX.ret0 rfl fun w' hM => ⟨(z, a', c'), trivial, ?_⟩
    rw [← hv, hvz]; exact hM
  · rw [if_neg hlt, decide_eq_false hlt] at hy'
    have hlt' : ¬ (z : Int) < 128 := by omega
    have hvz := vint_ge hlt
    refine hwXH ?_
    refine HL.pa ?_ (POp.and64 rfl rfl rfl rfl (by omega) (by decide))
    rw [hand]
    refine hwXH ?_
    rw [decide_eq_false hlt']
    refine HL.one (H1.yield rfl rfl rfl hy' ?_)
    rintro ⟨a', c'⟩ -
    dsimp only
    refine hwXH ?_
    refine HL.pa ?_ (POp.shr64 rfl rfl rfl rfl (by decide))
    rw [hsh]
    refine hwXH ?_
    refine HL.one (H1.st (b := bz) rfl rfl (by intro _ h; cases h) (by intro _ h; cases h) rplA (by exact Nat.zero_lt_one) ?_)
    refine hwXH ?_
    exact HX.again (z / 128, ys ++ [UInt8.ofNat (z % 128 + 128)], a', c') ⟨by show z / 128 < _; omega, by show (ys ++ _) ++ vint (z / 128) = _; rw [← hv, hvz, List.append_assoc]; rfl⟩ (by show z / 128 < z; omega) esA (Hs.refl _)
theorem POp.xor64 {P : Program} {N : Nat} {ds : List Deferred} {E : Env} {t t' ty : TypeId} {x y : Operand} {m n : Int} {a b : Nat} (hx : Env.ev E x = some (.int .u64 m)) (hy : Env.ev E y = some (.int .u64 n)) (em : m = (a : Int)) (en : n = (b : Int)) (h1 : a < 18446744073709551616) (h2 : b < 18446744073709551616) :
    POp P N ds E (.binOp .xor t x y t') ty (.int .u64 ((a ^^^ b : Nat) : Int)) := POp.bin hx hy guard_int fun w => by
  subst em; subst en
  have e : bits .xor .u64 (a : Int) (b : Int) = ((a ^^^ b : Nat) : Int) := by
    show IntKind.u64.wrap (((BitVec.ofInt 64 a ^^^ BitVec.ofInt 64 b).toNat : Nat) : Int) = _
    rw [BitVec.toNat_xor, ofInt_toNat a h1, ofInt_toNat b h2]
    exact wrap_u64 (Nat.xor_lt_two_pow (n := 64) h1 h2)
  rw [binOp_xor, intBits_xor, e]; rfl
theorem groups_fn (z : Nat) (w : World) : Fn Tryz.prog 188 #[.int .u64 (z : Int)] w fun v w' => ∃ b : Nat, True ∧ v = .func (.func 251) #[] #[.pointer (some ⟨b, 0, none⟩)] ∧ Mm w [A.blk b [.int .u64 (z : Int)] 244] w' := by
  refine enterH (l := [_]) rfl Tryz.ntmps188 rfl ?_
  refine hwXH ?_
  refine HL.one (H1.box rfl rfl rfl (fun b1 => ?_))
  refine hwXH ?_
  exact HX.ret1 rfl rfl fun w' hM => ⟨b1, trivial, rfl, hM⟩
theorem ub_snoc (ys : List UInt8) {g : Nat} (h : g < 256) : ub ys ++ [.int .u8 (g : Int)] = ub (ys ++ [UInt8.ofNat g]) := by
  unfold ub
  rw [List.map_append]
  simp only [List.map_cons, List.map_nil, UInt8.toNat_ofNat']
  rw [Nat.mod_eq_of_lt (by omega)]
/-- A number, as it is encoded. -/
def strN (n : Nat) : ByteArray := ⟨(putN n).toArray⟩
set_option maxHeartbeats 2000000 in
theorem putInt_fn (n : Nat) (hn : n ≤ 1099511627776) (w : World) : Fn Tryz.prog 111 #[zv (n : Int)] w fun v w' => v = .tuple #[.string (strN n), .int .i64 0] ∧ Ext w w' := by
  refine enterMH (l := [_]) rfl Tryz.ntmps111 rfl ?_
  have hsl : n <<< 1 = 2 * n := by rw [Nat.shiftLeft_eq]; omega
  have hsr : n >>> 63 = 0 := by rw [Nat.shiftRight_eq_div_pow]; exact Nat.div_eq_of_lt (by omega)
  refine hwXH ?_
  refine HL.one (H1.alloc (cs := [.slice none 0 0]) rfl rfl (fun b4 => ?_))
  refine hwXH ?_
  refine HL.pa ?_ ((POp.conv (k' := .u64) rfl).of (v' := .int .u64 (n : Int)) (by rw [wrap_u64 (by omega)]))
  refine hwXH ?_
  refine HL.pa ?_ (POp.shl64 rfl rfl rfl rfl (by decide) (by rw [hsl]; omega))
  rw [hsl]
  refine hwXH ?_
  rw [hsr]
  refine HL.pa ?_ ((POp.conv (k' := .u64) rfl).of (v' := .int .u64 ((0 : Nat) : Int)) (by rfl))
  refine hwXH ?_
  refine HL.pa ?_ (POp.xor64 (a := 2 * n) (b := 0) rfl rfl rfl rfl (by omega) (by decide))
  rw [Nat.xor_zero]
  refine hwXH ?_
  refine HL.one (H1.callz1 (vs := [.int .u64 ((2 * n : Nat) : Int)]) rfl rfl (fun w' _ => groups_fn (2 * n) w') ?_)
  rintro bz -
  refine hwXH ?_
  refine HC.grow0 5 1 ?_
  refine HC.sub [(4, .pointer (some ⟨b4, 0, none⟩)), (20, .func (.func 251) #[] #[.pointer (some ⟨bz, 0, none⟩)])] (A.blk bz [.int .u64 ((2 * n : Nat) : Int)] 244 :: bytG b4 [] none 0) ?_ esA (by unfold bytG; repeat (first | exact Hs.nil _ | (refine Hs.cons pickA ?_)))
  refine HC.rangeFunc (α := Nat × Option Addr × Nat) (lb := [.pointer (some ⟨bz, 0, none⟩)]) (fun q => A.blk bz [.int .u64 (q.1 : Int)] 244 :: bytG b4 (vint (2 * n)) q.2.1 q.2.2) (fun _ => True) rfl ?_ ?_
  · intro D l L hL w1 hM1
    refine groups1_fn (2 * n) (by omega) ?_ w1 hM1
    intro z ys a c hz hlen
    refine Yld.ofH hL memA rfl rfl ?_
    dsimp only [List.zip_cons_cons, List.zip_nil_right, putAll]
    refine hwXH ?_
    refine HX.ra hL rplA ?_
    unfold bytG
    by_cases hlt : z < 128
    · rw [decide_eq_true hlt, if_pos hlt]
      have hz2 : z % 128 = z := Nat.mod_eq_of_lt hlt
      rw [hz2]
      have hub := ub_snoc ys (g := z) (by omega)
      refine hwXH ?_
      refine HL.one (H1.lit (cs := [.int .u8 (z : Int)]) rfl rfl rfl rfl rfl rfl (fun b9 => ?_))
      refine hwXH ?_
      refine HL.one (H1.app1 (u := .int .u8 (z : Int)) rfl rfl (fun _ _ => by first | ((repeat (first | with_reducible exact Rpl.here | with_reducible apply Rpl.there)); done) | (repeat (first | exact Rpl.here | apply Rpl.there))) memA rfl rfl (by omega) rfl rfl (fun a' c' => ?_))
      rw [hub]
      refine hwXH ?_
      refine HL.one (H1.st (b := b4) rfl rfl (by intro _ h; cases h) (by intro _ h; cases h) rplA (by exact Nat.zero_lt_one) ?_)
      refine hwXH ?_
      refine HX.rp_n hL rplA fun w' hM => ⟨rfl, (some ⟨a', 0, none⟩, c'), trivial, ?_⟩
      dsimp only
      rw [List.length_append]
      exact hM.tail
    · rw [decide_eq_false hlt, if_neg hlt]
      have hub := ub_snoc ys (g := z % 128 + 128) (by omega)
      refine hwXH ?_
      refine HL.pa ?_ (POp.or8 (a := z % 128) (b := 128) rfl rfl rfl rfl (by omega) (by decide))
      rw [or_128 (by omega)]
      refine hwXH ?_
      refine HL.one (H1.lit (cs := [.int .u8 ((z % 128 + 128 : Nat) : Int)]) rfl rfl rfl rfl rfl rfl (fun b9 => ?_))
      refine hwXH ?_
      refine HL.one (H1.app1 (u := .int .u8 ((z % 128 + 128 : Nat) : Int)) rfl rfl (fun _ _ => by first | ((repeat (first | with_reducible exact Rpl.here | with_reducible apply Rpl.there)); done) | (repeat (first | exact Rpl.here | apply Rpl.there))) memA rfl rfl (by omega) rfl rfl (fun a' c' => ?_))
      rw [hub]
      refine hwXH ?_
      refine HL.one (H1.st (b := b4) rfl rfl (by intro _ h; cases h) (by intro _ h; cases h) rplA (by exact Nat.zero_lt_one) ?_)
      refine hwXH ?_
      refine HX.rp_n hL rplA fun w' hM => ⟨rfl, (some ⟨a', 0, none⟩, c'), trivial, ?_⟩
      dsimp only
      rw [List.length_append]
      exact hM.tail
  · rintro D ⟨zf, a, c⟩ -
    dsimp only
    unfold bytG
    refine hwXH ?_
    refine HL.openg (e := 5) (a := a) (xs := ub (vint (2 * n))) memA (by have := vint_pos (2 * n); omega) ?_
    rintro b rfl
    refine HL.one (H1.bstrg (ys := vint (2 * n)) rfl memA rfl ?_)
    refine hwXH ?_
    exact HX.retM2 rfl rfl rfl (by repeat (first | exact Pick.here | apply Pick.there)) fun w' hM => ⟨rfl, hM.ext⟩
end Go.Sx
/- Chapter 1: the encoding of a string: the walk. -/
namespace Go.Sx
open Go Go.Proofs Go.RowKit
theorem hwDW {G G2 : Prop} (x : G2) (hwq : Hold G2 → G := by
    intro hQq
    repeat' (first | apply HL.fold | apply HA.fold | apply HL.nil | apply HX.n_then | apply HC.seq | apply HC.region | refine HL.pa ?_ | refine HL.ga rfl ?_ | refine HL.na rfl ?_ | refine HL.nu rfl rfl ?_ | apply HC.block | apply HC.skip | apply HC.exit | apply HC.ret | apply HX.e_block | refine HX.e_other rfl ?_ | apply HX.e_then | apply HX.e_again | apply HX.n_block | apply HX.r_then | apply HX.r_block | apply HX.r_again | refine HC.cond_yes rfl ?_ | refine HC.cond_no rfl ?_ | refine HL.one (H1.ldb rfl memA rfl rfl ?_) | refine HC.cond rfl (fun hc => ?_) (fun hc => ?_) | refine HC.cond_b rfl (fun hc => ?_) (fun hc => ?_))
    exact hQq.get) : G := hwq ⟨x⟩
theorem strN_size {n : Nat} (h : n ≤ 1099511627776) : (strN n).size ≤ 9 := by
  show (putN n).length ≤ 9
  exact vint_len 8 (2 * n) (by omega)
attribute [local irreducible] WC WL WX POp Then Again Fn NX W1 WA WO QL RP RA Yld LoopAt HC HL HX HN H1 HA HO HQ HB HP A.blk A.grow A.rd A.obj A.mp AgainH CutH
theorem putString_fn (s : ByteArray) (hs : s.size ≤ 65536) (w : World) : Fn Tryz.prog 150 #[.string s] w fun v w' => v = .tuple #[.string (strN s.size ++ s), .int .i64 0] ∧ Ext w w' := by
  have hz := strN_size (n := s.size) (by omega)
  refine enterH (l := [_]) rfl Tryz.ntmps150 rfl ?_
  refine hwDW ?_
  refine HL.one (H1.callx (vs := [zv (s.size : Int)]) rfl rfl (fun w' _ => putInt_fn s.size (by omega) w') ?_)
  refine hwDW ?_
  exact HX.ret2 rfl rfl rfl fun w' hM => ⟨rfl, hM.ext⟩
end Go.Sx
/- Chapters 1 and 20: the encoding of a string; flag; strings compared. -/
namespace Go.Sx
open Go Go.Proofs Go.RowKit
theorem less_asym {x y : List UInt8} (h : Op.bytesLess x y = true) : Op.bytesLess y x = false := by
  cases e : Op.bytesLess y x with
  | false => rfl
  | true =>
    have := less_trans x y x h e
    rw [less_irr] at this; cases this
theorem POp.sgtr {P : Program} {N : Nat} {ds : List Deferred} {E : Env} {t t' ty : TypeId} {x y : Operand} {s u : ByteArray} (hx : Env.ev E x = some (.string s)) (hy : Env.ev E y = some (.string u)) :
    POp P N ds E (.binOp .gtr t x y t') ty (.bool (Op.bytesLess u.data.toList s.data.toList)) := POp.bin hx hy guard_str fun w => by
  have e : (!(Op.bytesLess s.toList u.toList || s.toList == u.toList)) = Op.bytesLess u.data.toList s.data.toList := by
    rw [str_eq, ba_toList, ba_toList]
    by_cases h : s = u
    · subst h; rw [less_irr, decide_eq_true rfl]; rfl
    · rw [decide_eq_false h, Bool.or_false]
      have hne : s.data.toList ≠ u.data.toList := fun e => h (ByteArray_ext' e)
      rcases less_tri _ _ hne with h1 | h1
      · rw [h1, less_asym h1]; rfl
      · rw [h1, less_asym h1]; rfl
  rw [← e]
  simp only [Go.binOp, Op.stringOp]; rfl
attribute [local irreducible] WC WL WX POp Then Again Fn NX W1 WA WO QL RP RA Yld LoopAt HC HL HX HN H1 HA HO HQ HB HP A.blk A.grow A.rd A.obj A.mp AgainH CutH
theorem flag_fn (b : Bool) (w : World) : Fn Tryz.prog 228 #[.bool b] w fun v w' => v = zv (b01 b) ∧ w = w' := by
  refine enter (l := [_]) rfl Tryz.ntmps228 rfl ?_
  cases b <;> (repeat' (first | apply WL.fold | apply WA.fold | apply WL.nil | apply WX.n_then | apply WC.seq | apply WC.region | refine WL.pa ?_ | refine WL.ga rfl ?_ | refine WL.na rfl ?_ | refine WL.nu rfl rfl ?_ | apply WC.block | apply WC.skip | apply WC.exit | apply WC.ret | apply WX.e_block | refine WX.e_other rfl ?_ | apply WX.e_then | apply WX.e_again | apply WX.n_block | apply WX.r_then | apply WX.r_block | apply WX.r_again | refine WC.cond_yes rfl ?_ | refine WC.cond_no rfl ?_ | refine WC.cond rfl (fun hc => ?_) (fun hc => ?_) | refine WC.cond_b rfl (fun hc => ?_) (fun hc => ?_)))
  all_goals exact WX.ret1 rfl rfl ⟨rfl, rfl⟩
end Go.Sx
