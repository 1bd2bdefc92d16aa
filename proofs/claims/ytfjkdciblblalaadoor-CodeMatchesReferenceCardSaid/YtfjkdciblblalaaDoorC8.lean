/- Chapter 17: the fixed examples. -/
import Derived.Test.YtfjkdciblblalaaDoorC7
import Derived.Test.YtfjkdciblblalaaDoorGF
namespace Go.Sx
open Go Go.Proofs
attribute [local irreducible] WC WL WX POp Then Again Fn NX W1 WA WO QL RP RA Yld LoopAt
set_option maxHeartbeats 2000000 in
theorem sane_fn (w : World) (hr : Red w) : Fn Tryd.prog 4 #[] w fun v w' => v = .bool true ∧ Ext w w' := by
  refine enter (l := []) rfl Tryd.ntmps4 rfl ?_
  repeat' (first | apply WL.fold | apply WA.fold | apply WL.nil | apply WX.n_then | apply WC.seq | apply WC.region | refine WL.pa ?_ | refine WL.ga rfl ?_ | refine WL.na rfl ?_ | refine WL.nu rfl rfl ?_ | apply WC.block | apply WC.skip | apply WC.exit | apply WC.ret | apply WX.e_block | refine WX.e_other rfl ?_ | apply WX.e_then | apply WX.e_again | apply WX.n_block | apply WX.r_then | apply WX.r_block | apply WX.r_again | refine WC.cond_yes rfl ?_ | refine WC.cond_no rfl ?_ | refine WC.cond rfl (fun hc => ?_) (fun hc => ?_) | refine WC.cond_b rfl (fun hc => ?_) (fun hc => ?_))
  refine WL.call (vs := [.string exAb, iv 2, iv 3]) rfl rfl (split_yes exAb 2 3 (by decide) (by decide) (by decide) (by decide) w hr) ?_
  rintro _ w1 ⟨c, rfl, hRd, x1⟩
  rw [exL_eq] at hRd
  obtain ⟨b, off, cc, rfl, hcc, hb, -⟩ := hRd.at (by decide)
  have hlen : (strs exL).length = 3 := rfl
  rw [hlen] at hRd hcc ⊢
  repeat' (first | apply WL.fold | apply WA.fold | apply WL.nil | apply WX.n_then | apply WC.seq | apply WC.region | refine WL.pa ?_ | refine WL.ga rfl ?_ | refine WL.na rfl ?_ | refine WL.nu rfl rfl ?_ | apply WC.block | apply WC.skip | apply WC.exit | apply WC.ret | apply WX.e_block | refine WX.e_other rfl ?_ | apply WX.e_then | apply WX.e_again | apply WX.n_block | apply WX.r_then | apply WX.r_block | apply WX.r_again | refine WC.cond_yes rfl ?_ | refine WC.cond_no rfl ?_ | refine WC.cond rfl (fun hc => ?_) (fun hc => ?_) | refine WC.cond_b rfl (fun hc => ?_) (fun hc => ?_))
  refine WL.one (W1.lit3' rfl rfl rfl rfl rfl rfl rfl rfl ?_)
  intro b2 w2 e2 s2 x2 k2
  have hrest : Rd w2 (.slice (some ⟨b2, 0, none⟩) 3 3) (bools [false, true, true]) := Rd.of_blk k2 (l := 3) (c := 3) (by decide) (by decide)
  have x02 := x1.trans x2
  have hR2 := hRd.ext x2
  repeat' (first | apply WL.fold | apply WA.fold | apply WL.nil | apply WX.n_then | apply WC.seq | apply WC.region | refine WL.pa ?_ | refine WL.ga rfl ?_ | refine WL.na rfl ?_ | refine WL.nu rfl rfl ?_ | apply WC.block | apply WC.skip | apply WC.exit | apply WC.ret | apply WX.e_block | refine WX.e_other rfl ?_ | apply WX.e_then | apply WX.e_again | apply WX.n_block | apply WX.r_then | apply WX.r_block | apply WX.r_again | refine WC.cond_yes rfl ?_ | refine WC.cond_no rfl ?_ | refine WC.cond rfl (fun hc => ?_) (fun hc => ?_) | refine WC.cond_b rfl (fun hc => ?_) (fun hc => ?_))
  refine WL.call rfl rfl (codeJoin_fn _ _ exL [false, true, true] 2 2 (by decide) (by decide) w2 (hr.ext x02) hR2 hrest) ?_
  rintro _ w3 ⟨x3, hv⟩
  obtain ⟨-, rfl⟩ := hv.resolve_right (fun h => h.1 exJoin)
  have hj : (catO exL [false, true, true] (2 : Int).toNat).extract 0 (2 : Int).toNat = exAb := by kernel_rfl
  rw [hj]
  repeat' (first | apply WL.fold | apply WA.fold | apply WL.nil | apply WX.n_then | apply WC.seq | apply WC.region | refine WL.pa ?_ | refine WL.ga rfl ?_ | refine WL.na rfl ?_ | refine WL.nu rfl rfl ?_ | apply WC.block | apply WC.skip | apply WC.exit | apply WC.ret | apply WX.e_block | refine WX.e_other rfl ?_ | apply WX.e_then | apply WX.e_again | apply WX.n_block | apply WX.r_then | apply WX.r_block | apply WX.r_again | refine WC.cond_yes rfl ?_ | refine WC.cond_no rfl ?_ | refine WC.cond rfl (fun hc => ?_) (fun hc => ?_) | refine WC.cond_b rfl (fun hc => ?_) (fun hc => ?_))
  refine WL.call rfl rfl (codeJoin_fn _ _ exL [false, true, true] 2 1 (by decide) (by decide) w3 (hr.ext (x02.trans x3)) (hR2.ext x3) (hrest.ext x3)) ?_
  rintro _ w4 ⟨x4, hv⟩
  obtain ⟨-, rfl⟩ := hv.resolve_left (fun h => exJoinNo h.1)
  repeat' (first | apply WL.fold | apply WA.fold | apply WL.nil | apply WX.n_then | apply WC.seq | apply WC.region | refine WL.pa ?_ | refine WL.ga rfl ?_ | refine WL.na rfl ?_ | refine WL.nu rfl rfl ?_ | apply WC.block | apply WC.skip | apply WC.exit | apply WC.ret | apply WX.e_block | refine WX.e_other rfl ?_ | apply WX.e_then | apply WX.e_again | apply WX.n_block | apply WX.r_then | apply WX.r_block | apply WX.r_again | refine WC.cond_yes rfl ?_ | refine WC.cond_no rfl ?_ | refine WC.cond rfl (fun hc => ?_) (fun hc => ?_) | refine WC.cond_b rfl (fun hc => ?_) (fun hc => ?_))
  refine WL.one (W1.lit3' rfl rfl rfl rfl rfl rfl rfl rfl ?_)
  intro b5 w5 e5 s5 x5 k5
  have x25 := x3.trans (x4.trans x5)
  have hth2 : Rd w5 (.slice (some ⟨b5, 0, none⟩) 3 3) (bools [true, true, false]) := Rd.of_blk k5 (l := 3) (c := 3) (by decide) (by decide)
  repeat' (first | apply WL.fold | apply WA.fold | apply WL.nil | apply WX.n_then | apply WC.seq | apply WC.region | refine WL.pa ?_ | refine WL.ga rfl ?_ | refine WL.na rfl ?_ | refine WL.nu rfl rfl ?_ | apply WC.block | apply WC.skip | apply WC.exit | apply WC.ret | apply WX.e_block | refine WX.e_other rfl ?_ | apply WX.e_then | apply WX.e_again | apply WX.n_block | apply WX.r_then | apply WX.r_block | apply WX.r_again | refine WC.cond_yes rfl ?_ | refine WC.cond_no rfl ?_ | refine WC.cond rfl (fun hc => ?_) (fun hc => ?_) | refine WC.cond_b rfl (fun hc => ?_) (fun hc => ?_))
  refine WL.call rfl rfl (fragment_fn _ _ exL [true, true, false] 2 2 (by decide) (by decide) w5 (hr.ext (x02.trans x25)) (hR2.ext x25) hth2) ?_
  rintro _ w6 ⟨x6, hv⟩
  obtain ⟨-, rfl⟩ := hv.resolve_right (fun h => h.1 ⟨exComp2, by decide, by decide⟩)
  have hfo : cOut exL [true, true, false] (2 : Int).toNat (2 : Int).toNat = ByteArray.mk #[103] := exOut
  rw [hfo]
  repeat' (first | apply WL.fold | apply WA.fold | apply WL.nil | apply WX.n_then | apply WC.seq | apply WC.region | refine WL.pa ?_ | refine WL.ga rfl ?_ | refine WL.na rfl ?_ | refine WL.nu rfl rfl ?_ | apply WC.block | apply WC.skip | apply WC.exit | apply WC.ret | apply WX.e_block | refine WX.e_other rfl ?_ | apply WX.e_then | apply WX.e_again | apply WX.n_block | apply WX.r_then | apply WX.r_block | apply WX.r_again | refine WC.cond_yes rfl ?_ | refine WC.cond_no rfl ?_ | refine WC.cond rfl (fun hc => ?_) (fun hc => ?_) | refine WC.cond_b rfl (fun hc => ?_) (fun hc => ?_))
  have hR6 := hR2.ext (x25.trans x6)
  refine WC.cutT (α := Unit) (fun _ => [(1, .slice (some ⟨b, off, none⟩) 3 cc), (4, .string (ByteArray.mk #[97, 98])), (5, iv 0), (7, iv 170), (8, .string (ByteArray.mk #[103])), (9, iv 0), (11, iv 170)]) (fun _ w' => Ext w6 w') ?_ ?_
  · refine WC.any rfl (fun w7 x67 _ => ?_)
    have x07 := x02.trans (x25.trans (x6.trans x67))
    refine WA.pa 0 rfl ?_
    refine WA.pa 1 rfl ?_
    refine WA.pa 3 rfl ?_
    refine WA.pa 4 rfl ?_
    refine WA.all [2, 5, 7] (by kernel_rfl) rfl ⟨⟨_, rfl, ?_⟩, ⟨_, rfl, ?_⟩, ⟨_, rfl, ?_⟩, trivial⟩
    · refine WO.one (W1.load rfl ((hR6.ext x67).cell (i := 1) rfl) rfl ?_)
      apply WA.fold
      refine WA.all [5, 7] (by kernel_rfl) rfl ⟨⟨_, rfl, ?_⟩, ⟨_, rfl, ?_⟩, trivial⟩
      · refine WO.one (W1.load rfl ((hR6.ext x67).cell (i := 2) rfl) rfl ?_)
        apply WA.fold
        refine WA.all [6, 7] (by kernel_rfl) rfl ⟨⟨_, rfl, ?_⟩, ⟨_, rfl, ?_⟩, trivial⟩
        · refine WO.one (W1.lit3' rfl rfl rfl rfl rfl rfl rfl rfl ?_)
          intro b8 w8 e8 s8 x8 k8
          apply WA.fold
          refine WA.all [7] (by kernel_rfl) rfl ⟨⟨_, rfl, ?_⟩, trivial⟩
          refine WO.one (W1.lit3' rfl rfl rfl rfl rfl rfl rfl rfl ?_)
          intro b9 w9 e9 s9 x9 k9
          apply WA.fold
          refine WA.all [8] (by kernel_rfl) rfl ⟨⟨_, rfl, ?_⟩, trivial⟩
          refine WO.one (W1.call rfl rfl (codeJoin_fn _ _ [ByteArray.mk #[120], ByteArray.mk #[98], ByteArray.mk #[103]] [true, true, true] 2 2 (by decide) (by decide) w9 (hr.ext (x07.trans (x8.trans x9))) (Rd.of_blk ((k8).ext x9) (l := 3) (c := 3) (by decide) (by decide)) (Rd.of_blk ((k9)) (l := 3) (c := 3) (by decide) (by decide))) ?_)
          rintro _ w20 ⟨x20, hv20⟩
          obtain ⟨-, rfl⟩ := hv20.resolve_left (fun h => exNo h.1.1)
          apply WA.fold
          refine WA.pa 9 rfl ?_
          refine WA.pa 10 rfl ?_
          refine WA.pa 11 rfl ?_
          refine WA.pa 12 rfl ?_
          refine WA.pa 13 rfl ?_
          apply WA.done (by kernel_rfl)
          exact WX.cut () (x67.trans <| (x8.trans x9).trans x20) ⟨rfl, rfl, rfl, rfl, rfl, rfl, rfl, trivial⟩
        · refine WO.one (W1.lit3' rfl rfl rfl rfl rfl rfl rfl rfl ?_)
          intro b8 w8 e8 s8 x8 k8
          apply WA.fold
          refine WA.all [6] (by kernel_rfl) rfl ⟨⟨_, rfl, ?_⟩, trivial⟩
          refine WO.one (W1.lit3' rfl rfl rfl rfl rfl rfl rfl rfl ?_)
          intro b9 w9 e9 s9 x9 k9
          apply WA.fold
          refine WA.all [8] (by kernel_rfl) rfl ⟨⟨_, rfl, ?_⟩, trivial⟩
          refine WO.one (W1.call rfl rfl (codeJoin_fn _ _ [ByteArray.mk #[120], ByteArray.mk #[98], ByteArray.mk #[103]] [true, true, true] 2 2 (by decide) (by decide) w9 (hr.ext (x07.trans (x8.trans x9))) (Rd.of_blk ((k9)) (l := 3) (c := 3) (by decide) (by decide)) (Rd.of_blk ((k8).ext x9) (l := 3) (c := 3) (by decide) (by decide))) ?_)
          rintro _ w20 ⟨x20, hv20⟩
          obtain ⟨-, rfl⟩ := hv20.resolve_left (fun h => exNo h.1.1)
          apply WA.fold
          refine WA.pa 9 rfl ?_
          refine WA.pa 10 rfl ?_
          refine WA.pa 11 rfl ?_
          refine WA.pa 12 rfl ?_
          refine WA.pa 13 rfl ?_
          apply WA.done (by kernel_rfl)
          exact WX.cut () (x67.trans <| (x8.trans x9).trans x20) ⟨rfl, rfl, rfl, rfl, rfl, rfl, rfl, trivial⟩
      · refine WO.one (W1.lit3' rfl rfl rfl rfl rfl rfl rfl rfl ?_)
        intro b8 w8 e8 s8 x8 k8
        apply WA.fold
        refine WA.all [5] (by kernel_rfl) rfl ⟨⟨_, rfl, ?_⟩, trivial⟩
        refine WO.one (W1.load rfl (((hR6.ext x67).ext x8).cell (i := 2) rfl) rfl ?_)
        apply WA.fold
        refine WA.all [6] (by kernel_rfl) rfl ⟨⟨_, rfl, ?_⟩, trivial⟩
        refine WO.one (W1.lit3' rfl rfl rfl rfl rfl rfl rfl rfl ?_)
        intro b9 w9 e9 s9 x9 k9
        apply WA.fold
        refine WA.all [8] (by kernel_rfl) rfl ⟨⟨_, rfl, ?_⟩, trivial⟩
        refine WO.one (W1.call rfl rfl (codeJoin_fn _ _ [ByteArray.mk #[120], ByteArray.mk #[98], ByteArray.mk #[103]] [true, true, true] 2 2 (by decide) (by decide) w9 (hr.ext (x07.trans (x8.trans x9))) (Rd.of_blk ((k9)) (l := 3) (c := 3) (by decide) (by decide)) (Rd.of_blk ((k8).ext x9) (l := 3) (c := 3) (by decide) (by decide))) ?_)
        rintro _ w20 ⟨x20, hv20⟩
        obtain ⟨-, rfl⟩ := hv20.resolve_left (fun h => exNo h.1.1)
        apply WA.fold
        refine WA.pa 9 rfl ?_
        refine WA.pa 10 rfl ?_
        refine WA.pa 11 rfl ?_
        refine WA.pa 12 rfl ?_
        refine WA.pa 13 rfl ?_
        apply WA.done (by kernel_rfl)
        exact WX.cut () (x67.trans <| (x8.trans x9).trans x20) ⟨rfl, rfl, rfl, rfl, rfl, rfl, rfl, trivial⟩
    · refine WO.one (W1.load rfl ((hR6.ext x67).cell (i := 2) rfl) rfl ?_)
      apply WA.fold
      refine WA.all [2, 7] (by kernel_rfl) rfl ⟨⟨_, rfl, ?_⟩, ⟨_, rfl, ?_⟩, trivial⟩
      · refine WO.one (W1.load rfl ((hR6.ext x67).cell (i := 1) rfl) rfl ?_)
        apply WA.fold
        refine WA.all [6, 7] (by kernel_rfl) rfl ⟨⟨_, rfl, ?_⟩, ⟨_, rfl, ?_⟩, trivial⟩
        · refine WO.one (W1.lit3' rfl rfl rfl rfl rfl rfl rfl rfl ?_)
          intro b8 w8 e8 s8 x8 k8
          apply WA.fold
          refine WA.all [7] (by kernel_rfl) rfl ⟨⟨_, rfl, ?_⟩, trivial⟩
          refine WO.one (W1.lit3' rfl rfl rfl rfl rfl rfl rfl rfl ?_)
          intro b9 w9 e9 s9 x9 k9
          apply WA.fold
          refine WA.all [8] (by kernel_rfl) rfl ⟨⟨_, rfl, ?_⟩, trivial⟩
          refine WO.one (W1.call rfl rfl (codeJoin_fn _ _ [ByteArray.mk #[120], ByteArray.mk #[98], ByteArray.mk #[103]] [true, true, true] 2 2 (by decide) (by decide) w9 (hr.ext (x07.trans (x8.trans x9))) (Rd.of_blk ((k8).ext x9) (l := 3) (c := 3) (by decide) (by decide)) (Rd.of_blk ((k9)) (l := 3) (c := 3) (by decide) (by decide))) ?_)
          rintro _ w20 ⟨x20, hv20⟩
          obtain ⟨-, rfl⟩ := hv20.resolve_left (fun h => exNo h.1.1)
          apply WA.fold
          refine WA.pa 9 rfl ?_
          refine WA.pa 10 rfl ?_
          refine WA.pa 11 rfl ?_
          refine WA.pa 12 rfl ?_
          refine WA.pa 13 rfl ?_
          apply WA.done (by kernel_rfl)
          exact WX.cut () (x67.trans <| (x8.trans x9).trans x20) ⟨rfl, rfl, rfl, rfl, rfl, rfl, rfl, trivial⟩
        · refine WO.one (W1.lit3' rfl rfl rfl rfl rfl rfl rfl rfl ?_)
          intro b8 w8 e8 s8 x8 k8
          apply WA.fold
          refine WA.all [6] (by kernel_rfl) rfl ⟨⟨_, rfl, ?_⟩, trivial⟩
          refine WO.one (W1.lit3' rfl rfl rfl rfl rfl rfl rfl rfl ?_)
          intro b9 w9 e9 s9 x9 k9
          apply WA.fold
          refine WA.all [8] (by kernel_rfl) rfl ⟨⟨_, rfl, ?_⟩, trivial⟩
          refine WO.one (W1.call rfl rfl (codeJoin_fn _ _ [ByteArray.mk #[120], ByteArray.mk #[98], ByteArray.mk #[103]] [true, true, true] 2 2 (by decide) (by decide) w9 (hr.ext (x07.trans (x8.trans x9))) (Rd.of_blk ((k9)) (l := 3) (c := 3) (by decide) (by decide)) (Rd.of_blk ((k8).ext x9) (l := 3) (c := 3) (by decide) (by decide))) ?_)
          rintro _ w20 ⟨x20, hv20⟩
          obtain ⟨-, rfl⟩ := hv20.resolve_left (fun h => exNo h.1.1)
          apply WA.fold
          refine WA.pa 9 rfl ?_
          refine WA.pa 10 rfl ?_
          refine WA.pa 11 rfl ?_
          refine WA.pa 12 rfl ?_
          refine WA.pa 13 rfl ?_
          apply WA.done (by kernel_rfl)
          exact WX.cut () (x67.trans <| (x8.trans x9).trans x20) ⟨rfl, rfl, rfl, rfl, rfl, rfl, rfl, trivial⟩
      · refine WO.one (W1.lit3' rfl rfl rfl rfl rfl rfl rfl rfl ?_)
        intro b8 w8 e8 s8 x8 k8
        apply WA.fold
        refine WA.all [2] (by kernel_rfl) rfl ⟨⟨_, rfl, ?_⟩, trivial⟩
        refine WO.one (W1.load rfl (((hR6.ext x67).ext x8).cell (i := 1) rfl) rfl ?_)
        apply WA.fold
        refine WA.all [6] (by kernel_rfl) rfl ⟨⟨_, rfl, ?_⟩, trivial⟩
        refine WO.one (W1.lit3' rfl rfl rfl rfl rfl rfl rfl rfl ?_)
        intro b9 w9 e9 s9 x9 k9
        apply WA.fold
        refine WA.all [8] (by kernel_rfl) rfl ⟨⟨_, rfl, ?_⟩, trivial⟩
        refine WO.one (W1.call rfl rfl (codeJoin_fn _ _ [ByteArray.mk #[120], ByteArray.mk #[98], ByteArray.mk #[103]] [true, true, true] 2 2 (by decide) (by decide) w9 (hr.ext (x07.trans (x8.trans x9))) (Rd.of_blk ((k9)) (l := 3) (c := 3) (by decide) (by decide)) (Rd.of_blk ((k8).ext x9) (l := 3) (c := 3) (by decide) (by decide))) ?_)
        rintro _ w20 ⟨x20, hv20⟩
        obtain ⟨-, rfl⟩ := hv20.resolve_left (fun h => exNo h.1.1)
        apply WA.fold
        refine WA.pa 9 rfl ?_
        refine WA.pa 10 rfl ?_
        refine WA.pa 11 rfl ?_
        refine WA.pa 12 rfl ?_
        refine WA.pa 13 rfl ?_
        apply WA.done (by kernel_rfl)
        exact WX.cut () (x67.trans <| (x8.trans x9).trans x20) ⟨rfl, rfl, rfl, rfl, rfl, rfl, rfl, trivial⟩
    · refine WO.one (W1.lit3' rfl rfl rfl rfl rfl rfl rfl rfl ?_)
      intro b8 w8 e8 s8 x8 k8
      apply WA.fold
      refine WA.all [2, 5] (by kernel_rfl) rfl ⟨⟨_, rfl, ?_⟩, ⟨_, rfl, ?_⟩, trivial⟩
      · refine WO.one (W1.load rfl (((hR6.ext x67).ext x8).cell (i := 1) rfl) rfl ?_)
        apply WA.fold
        refine WA.all [5] (by kernel_rfl) rfl ⟨⟨_, rfl, ?_⟩, trivial⟩
        refine WO.one (W1.load rfl (((hR6.ext x67).ext x8).cell (i := 2) rfl) rfl ?_)
        apply WA.fold
        refine WA.all [6] (by kernel_rfl) rfl ⟨⟨_, rfl, ?_⟩, trivial⟩
        refine WO.one (W1.lit3' rfl rfl rfl rfl rfl rfl rfl rfl ?_)
        intro b9 w9 e9 s9 x9 k9
        apply WA.fold
        refine WA.all [8] (by kernel_rfl) rfl ⟨⟨_, rfl, ?_⟩, trivial⟩
        refine WO.one (W1.call rfl rfl (codeJoin_fn _ _ [ByteArray.mk #[120], ByteArray.mk #[98], ByteArray.mk #[103]] [true, true, true] 2 2 (by decide) (by decide) w9 (hr.ext (x07.trans (x8.trans x9))) (Rd.of_blk ((k9)) (l := 3) (c := 3) (by decide) (by decide)) (Rd.of_blk ((k8).ext x9) (l := 3) (c := 3) (by decide) (by decide))) ?_)
        rintro _ w20 ⟨x20, hv20⟩
        obtain ⟨-, rfl⟩ := hv20.resolve_left (fun h => exNo h.1.1)
        apply WA.fold
        refine WA.pa 9 rfl ?_
        refine WA.pa 10 rfl ?_
        refine WA.pa 11 rfl ?_
        refine WA.pa 12 rfl ?_
        refine WA.pa 13 rfl ?_
        apply WA.done (by kernel_rfl)
        exact WX.cut () (x67.trans <| (x8.trans x9).trans x20) ⟨rfl, rfl, rfl, rfl, rfl, rfl, rfl, trivial⟩
      · refine WO.one (W1.load rfl (((hR6.ext x67).ext x8).cell (i := 2) rfl) rfl ?_)
        apply WA.fold
        refine WA.all [2] (by kernel_rfl) rfl ⟨⟨_, rfl, ?_⟩, trivial⟩
        refine WO.one (W1.load rfl (((hR6.ext x67).ext x8).cell (i := 1) rfl) rfl ?_)
        apply WA.fold
        refine WA.all [6] (by kernel_rfl) rfl ⟨⟨_, rfl, ?_⟩, trivial⟩
        refine WO.one (W1.lit3' rfl rfl rfl rfl rfl rfl rfl rfl ?_)
        intro b9 w9 e9 s9 x9 k9
        apply WA.fold
        refine WA.all [8] (by kernel_rfl) rfl ⟨⟨_, rfl, ?_⟩, trivial⟩
        refine WO.one (W1.call rfl rfl (codeJoin_fn _ _ [ByteArray.mk #[120], ByteArray.mk #[98], ByteArray.mk #[103]] [true, true, true] 2 2 (by decide) (by decide) w9 (hr.ext (x07.trans (x8.trans x9))) (Rd.of_blk ((k9)) (l := 3) (c := 3) (by decide) (by decide)) (Rd.of_blk ((k8).ext x9) (l := 3) (c := 3) (by decide) (by decide))) ?_)
        rintro _ w20 ⟨x20, hv20⟩
        obtain ⟨-, rfl⟩ := hv20.resolve_left (fun h => exNo h.1.1)
        apply WA.fold
        refine WA.pa 9 rfl ?_
        refine WA.pa 10 rfl ?_
        refine WA.pa 11 rfl ?_
        refine WA.pa 12 rfl ?_
        refine WA.pa 13 rfl ?_
        apply WA.done (by kernel_rfl)
        exact WX.cut () (x67.trans <| (x8.trans x9).trans x20) ⟨rfl, rfl, rfl, rfl, rfl, rfl, rfl, trivial⟩
  · rintro - w7 x67
    have x07 := x02.trans (x25.trans (x6.trans x67))
    have hR7 := hR6.ext x67
    repeat' (first | apply WL.fold | apply WA.fold | apply WL.nil | apply WX.n_then | apply WC.seq | apply WC.region | refine WL.pa ?_ | refine WL.ga rfl ?_ | refine WL.na rfl ?_ | refine WL.nu rfl rfl ?_ | apply WC.block | apply WC.skip | apply WC.exit | apply WC.ret | apply WX.e_block | refine WX.e_other rfl ?_ | apply WX.e_then | apply WX.e_again | apply WX.n_block | apply WX.r_then | apply WX.r_block | apply WX.r_again | refine WC.cond_yes rfl ?_ | refine WC.cond_no rfl ?_ | refine WC.cond rfl (fun hc => ?_) (fun hc => ?_) | refine WC.cond_b rfl (fun hc => ?_) (fun hc => ?_))
    refine WL.call (vs := [.string exAb, iv 3, iv 2]) rfl rfl (split_no exAb 3 2 (fun h => by have := h.1.2.1; omega) w7) ?_
    rintro _ _ ⟨rfl, rfl⟩
    have hr7 := hr.ext x07
    repeat' (first | apply WL.fold | apply WA.fold | apply WL.nil | apply WX.n_then | apply WC.seq | apply WC.region | refine WL.pa ?_ | refine WL.ga rfl ?_ | refine WL.na rfl ?_ | refine WL.nu rfl rfl ?_ | apply WC.block | apply WC.skip | apply WC.exit | apply WC.ret | apply WX.e_block | refine WX.e_other rfl ?_ | apply WX.e_then | apply WX.e_again | apply WX.n_block | apply WX.r_then | apply WX.r_block | apply WX.r_again | refine WC.cond_yes rfl ?_ | refine WC.cond_no rfl ?_ | refine WC.cond rfl (fun hc => ?_) (fun hc => ?_) | refine WC.cond_b rfl (fun hc => ?_) (fun hc => ?_))
    refine WL.call (vs := [iv 2, iv 128]) rfl rfl (mul_yes 2 128 (by decide) (by decide) w7 hr7) ?_
    rintro _ _ ⟨rfl, rfl⟩
    rw [exMul1]
    repeat' (first | apply WL.fold | apply WA.fold | apply WL.nil | apply WX.n_then | apply WC.seq | apply WC.region | refine WL.pa ?_ | refine WL.ga rfl ?_ | refine WL.na rfl ?_ | refine WL.nu rfl rfl ?_ | apply WC.block | apply WC.skip | apply WC.exit | apply WC.ret | apply WX.e_block | refine WX.e_other rfl ?_ | apply WX.e_then | apply WX.e_again | apply WX.n_block | apply WX.r_then | apply WX.r_block | apply WX.r_again | refine WC.cond_yes rfl ?_ | refine WC.cond_no rfl ?_ | refine WC.cond rfl (fun hc => ?_) (fun hc => ?_) | refine WC.cond_b rfl (fun hc => ?_) (fun hc => ?_))
    refine WL.call (vs := [iv 3, iv 7]) rfl rfl (mul_yes 3 7 (by decide) (by decide) w7 hr7) ?_
    rintro _ _ ⟨rfl, rfl⟩
    rw [exMul2]
    repeat' (first | apply WL.fold | apply WA.fold | apply WL.nil | apply WX.n_then | apply WC.seq | apply WC.region | refine WL.pa ?_ | refine WL.ga rfl ?_ | refine WL.na rfl ?_ | refine WL.nu rfl rfl ?_ | apply WC.block | apply WC.skip | apply WC.exit | apply WC.ret | apply WX.e_block | refine WX.e_other rfl ?_ | apply WX.e_then | apply WX.e_again | apply WX.n_block | apply WX.r_then | apply WX.r_block | apply WX.r_again | refine WC.cond_yes rfl ?_ | refine WC.cond_no rfl ?_ | refine WC.cond rfl (fun hc => ?_) (fun hc => ?_) | refine WC.cond_b rfl (fun hc => ?_) (fun hc => ?_))
    refine WL.call (vs := [iv 2]) rfl rfl (inverse_yes 2 (by decide) w7 hr7) ?_
    rintro _ _ ⟨rfl, rfl⟩
    rw [exInv1]
    repeat' (first | apply WL.fold | apply WA.fold | apply WL.nil | apply WX.n_then | apply WC.seq | apply WC.region | refine WL.pa ?_ | refine WL.ga rfl ?_ | refine WL.na rfl ?_ | refine WL.nu rfl rfl ?_ | apply WC.block | apply WC.skip | apply WC.exit | apply WC.ret | apply WX.e_block | refine WX.e_other rfl ?_ | apply WX.e_then | apply WX.e_again | apply WX.n_block | apply WX.r_then | apply WX.r_block | apply WX.r_again | refine WC.cond_yes rfl ?_ | refine WC.cond_no rfl ?_ | refine WC.cond rfl (fun hc => ?_) (fun hc => ?_) | refine WC.cond_b rfl (fun hc => ?_) (fun hc => ?_))
    refine WL.call (vs := [iv 0]) rfl rfl (inverse_yes 0 (by decide) w7 hr7) ?_
    rintro _ _ ⟨rfl, rfl⟩
    rw [exInv2]
    repeat' (first | apply WL.fold | apply WA.fold | apply WL.nil | apply WX.n_then | apply WC.seq | apply WC.region | refine WL.pa ?_ | refine WL.ga rfl ?_ | refine WL.na rfl ?_ | refine WL.nu rfl rfl ?_ | apply WC.block | apply WC.skip | apply WC.exit | apply WC.ret | apply WX.e_block | refine WX.e_other rfl ?_ | apply WX.e_then | apply WX.e_again | apply WX.n_block | apply WX.r_then | apply WX.r_block | apply WX.r_again | refine WC.cond_yes rfl ?_ | refine WC.cond_no rfl ?_ | refine WC.cond rfl (fun hc => ?_) (fun hc => ?_) | refine WC.cond_b rfl (fun hc => ?_) (fun hc => ?_))
    refine WL.load rfl (hR7.cell (i := 0) rfl) rfl ?_
    repeat' (first | apply WL.fold | apply WA.fold | apply WL.nil | apply WX.n_then | apply WC.seq | apply WC.region | refine WL.pa ?_ | refine WL.ga rfl ?_ | refine WL.na rfl ?_ | refine WL.nu rfl rfl ?_ | apply WC.block | apply WC.skip | apply WC.exit | apply WC.ret | apply WX.e_block | refine WX.e_other rfl ?_ | apply WX.e_then | apply WX.e_again | apply WX.n_block | apply WX.r_then | apply WX.r_block | apply WX.r_again | refine WC.cond_yes rfl ?_ | refine WC.cond_no rfl ?_ | refine WC.cond rfl (fun hc => ?_) (fun hc => ?_) | refine WC.cond_b rfl (fun hc => ?_) (fun hc => ?_))
    refine WL.load rfl (hR7.cell (i := 1) rfl) rfl ?_
    repeat' (first | apply WL.fold | apply WA.fold | apply WL.nil | apply WX.n_then | apply WC.seq | apply WC.region | refine WL.pa ?_ | refine WL.ga rfl ?_ | refine WL.na rfl ?_ | refine WL.nu rfl rfl ?_ | apply WC.block | apply WC.skip | apply WC.exit | apply WC.ret | apply WX.e_block | refine WX.e_other rfl ?_ | apply WX.e_then | apply WX.e_again | apply WX.n_block | apply WX.r_then | apply WX.r_block | apply WX.r_again | refine WC.cond_yes rfl ?_ | refine WC.cond_no rfl ?_ | refine WC.cond rfl (fun hc => ?_) (fun hc => ?_) | refine WC.cond_b rfl (fun hc => ?_) (fun hc => ?_))
    refine WL.load rfl (hR7.cell (i := 2) rfl) rfl ?_
    repeat' (first | apply WL.fold | apply WA.fold | apply WL.nil | apply WX.n_then | apply WC.seq | apply WC.region | refine WL.pa ?_ | refine WL.ga rfl ?_ | refine WL.na rfl ?_ | refine WL.nu rfl rfl ?_ | apply WC.block | apply WC.skip | apply WC.exit | apply WC.ret | apply WX.e_block | refine WX.e_other rfl ?_ | apply WX.e_then | apply WX.e_again | apply WX.n_block | apply WX.r_then | apply WX.r_block | apply WX.r_again | refine WC.cond_yes rfl ?_ | refine WC.cond_no rfl ?_ | refine WC.cond rfl (fun hc => ?_) (fun hc => ?_) | refine WC.cond_b rfl (fun hc => ?_) (fun hc => ?_))

    exact WX.ret1 rfl rfl ⟨by simp, x07⟩
end Go.Sx

