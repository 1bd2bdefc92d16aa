/- Chapter 2, the reference: what a block does to a state: the walk. -/
import Derived.Test.YtlihcenahjgnmaaGreatDoorDC
namespace Go.Sx
open Go Go.Proofs Go.RowKit
attribute [local irreducible] WC WL WX POp Then Again Fn NX W1 WA WO QL RP RA Yld LoopAt HC HL HX HN H1 HA HO HQ HB HP A.blk A.grow A.rd A.obj A.mp AgainH CutH
attribute [local irreducible] kL mixW wsr
set_option maxRecDepth 100000 in
set_option maxHeartbeats 4000000 in
theorem block_fn {bh oh ch bb off c : Nat} (s : S8) (l : List UInt8) (hl : l.length = 64) (w : World) (hr : Rd w (.slice (some ⟨bb, off, none⟩) 64 c) (ub l)) (hh : Rd w (.slice (some ⟨bh, oh, none⟩) 8 ch) (ws s.l)) :
    Fn Tryz.prog 59 #[.slice (some ⟨bh, oh, none⟩) 8 ch, .slice (some ⟨bb, off, none⟩) 64 c] w fun v w' => ∃ z : Nat × Nat, True ∧ v = .slice (some ⟨z.1, 0, none⟩) 8 z.2 ∧ Mm w [A.grow 109 1 (some ⟨z.1, 0, none⟩) z.2 8 (ws (comp s l).l)] w' := by
  refine enterH (l := [_, _]) rfl Tryz.ntmps59 rfl ?_
  repeat' (first | apply HL.fold | apply HA.fold | apply HL.nil | apply HX.n_then | apply HC.seq | apply HC.region | refine HL.pa ?_ | refine HL.ga rfl ?_ | refine HL.na rfl ?_ | refine HL.nu rfl rfl ?_ | apply HC.skip | apply HC.exit | apply HC.ret | apply HX.e_block | refine HX.e_other rfl ?_ | apply HX.e_then | apply HX.e_again | apply HX.n_block | apply HX.r_then | apply HX.r_block | apply HX.r_again | refine HC.cond_yes rfl ?_ | refine HC.cond_no rfl ?_ | refine HL.one (H1.ldb rfl memA rfl rfl ?_) | refine HC.cond rfl (fun hc => ?_) (fun hc => ?_) | refine HC.cond_b rfl (fun hc => ?_) (fun hc => ?_))
  repeat refine HC.seq ?_
  refine HC.cut (α := Option Addr × Nat) (fun z => [(0, .slice (some ⟨bh, oh, none⟩) 8 ch), (5, .slice z.1 16 z.2)]) (fun z => [A.grow 109 1 z.1 z.2 16 (wsr l 16)]) (fun _ => True) ?_ ?_
  · refine HC.block ?_
    refine HC.grow0 109 1 ?_
    refine HC.loop (α := Nat × Option Addr × Nat) (fun z => [(0, .slice (some ⟨bh, oh, none⟩) 8 ch), (1, .slice (some ⟨bb, off, none⟩) 64 c), (5, .slice z.2.1 z.1 z.2.2), (6, zv (z.1 : Int))]) (fun z => [A.grow 109 1 z.2.1 z.2.2 z.1 (wsr l z.1)]) (fun z => z.1 ≤ 16) (fun z => 16 - z.1) (0, none, 0) (Nat.zero_le _) esA (by show Hs _ [A.grow 109 1 none 0 0 (wsr l 0)]; unfold wsr; exact Hs.refl _) ?_
    rintro ⟨i, a1, c1⟩ hi
    dsimp only at hi ⊢
    by_cases hlt : i < 16
    · have h0 := ub_at hr (i := 4 * i) (by omega)
      have h1 := ub_at hr (i := 4 * i + 1) (by omega)
      have h2 := ub_at hr (i := 4 * i + 2) (by omega)
      have h3 := ub_at hr (i := 4 * i + 3) (by omega)
      have hset := wsr_snoc l i
      rw [wW_lo hlt] at hset
      unfold wordAt bt at hset
      repeat' (first | apply HL.fold | apply HA.fold | apply HL.nil | apply HX.n_then | apply HC.seq | apply HC.region | refine HL.pa ?_ | refine HL.ga rfl ?_ | refine HL.na rfl ?_ | refine HL.nu rfl rfl ?_ | apply HC.block | apply HC.skip | apply HC.exit | apply HC.ret | apply HX.e_block | refine HX.e_other rfl ?_ | apply HX.e_then | apply HX.e_again | apply HX.n_block | apply HX.r_then | apply HX.r_block | apply HX.r_again | refine HC.cond_yes rfl ?_ | refine HC.cond_no rfl ?_ | refine HL.one (H1.ldb rfl memA rfl rfl ?_) | refine HC.cond rfl (fun hc => ?_) (fun hc => ?_) | refine HC.cond_b rfl (fun hc => ?_) (fun hc => ?_))
      refine HC.anyC ([(⟨bb, off + 4 * i, none⟩, b8 (l.getD (4 * i) 0)), (⟨bb, off + (4 * i + 1), none⟩, b8 (l.getD (4 * i + 1) 0)), (⟨bb, off + (4 * i + 2), none⟩, b8 (l.getD (4 * i + 2) 0)), (⟨bb, off + (4 * i + 3), none⟩, b8 (l.getD (4 * i + 3) 0))]) rfl ?_
      refine HB.pa 0 rfl ?_
      refine HB.pa 1 rfl ?_
      refine HB.pa 2 rfl ?_
      refine HB.pa 3 rfl ?_
      refine HB.pa 4 rfl ?_ (POp.index_slice (o := off + 4 * i) rfl rfl (by omega) (by omega) (by omega))
      refine HB.ld 5 rfl rfl memD ?_
      refine HB.pa 6 rfl ?_
      refine HB.pa 7 rfl ?_
      refine HB.pa 8 rfl ?_
      refine HB.pa 9 rfl ?_
      refine HB.pa 10 rfl ?_
      refine HB.pa 11 rfl ?_
      refine HB.pa 12 rfl ?_ (POp.index_slice (o := off + (4 * i + 1)) rfl rfl (by omega) (by omega) (by omega))
      refine HB.ld 13 rfl rfl memD ?_
      refine HB.pa 14 rfl ?_
      refine HB.pa 15 rfl ?_
      refine HB.pa 16 rfl ?_
      refine HB.pa 17 rfl ?_
      refine HB.pa 18 rfl ?_
      refine HB.pa 19 rfl ?_
      refine HB.pa 20 rfl ?_
      refine HB.pa 21 rfl ?_ (POp.index_slice (o := off + (4 * i + 2)) rfl rfl (by omega) (by omega) (by omega))
      refine HB.ld 22 rfl rfl memD ?_
      refine HB.pa 23 rfl ?_
      refine HB.pa 24 rfl ?_
      refine HB.pa 25 rfl ?_
      refine HB.pa 26 rfl ?_
      refine HB.pa 27 rfl ?_
      refine HB.pa 28 rfl ?_
      refine HB.pa 29 rfl ?_
      refine HB.pa 30 rfl ?_ (POp.index_slice (o := off + (4 * i + 3)) rfl rfl (by omega) (by omega) (by omega))
      refine HB.ld 31 rfl rfl memD ?_
      refine HB.pa 32 rfl ?_
      refine HB.pa 33 rfl ?_
      refine HB.all (by (exact Keep.base h0 (Keep.base h1 (Keep.base h2 (Keep.base h3 Keep.nil))))) [34] (by kernel_rfl) rfl ⟨⟨_, rfl, ?_⟩, trivial⟩
      refine HP.one ?_
      refine H1.lit (cs := [w32 (bt l (4 * i) <<< UInt32.ofNat 24 ||| bt l (4 * i + 1) <<< UInt32.ofNat 16 ||| bt l (4 * i + 2) <<< UInt32.ofNat 8 ||| bt l (4 * i + 3))]) rfl rfl rfl rfl rfl rfl (fun b9 => ?_)
      apply HB.fold
      refine HB.all (by (exact Keep.base h0 (Keep.base h1 (Keep.base h2 (Keep.base h3 Keep.nil))))) [35] (by kernel_rfl) rfl ⟨⟨_, rfl, ?_⟩, trivial⟩
      refine HP.one ?_
      refine H1.app1 (u := w32 (bt l (4 * i) <<< UInt32.ofNat 24 ||| bt l (4 * i + 1) <<< UInt32.ofNat 16 ||| bt l (4 * i + 2) <<< UInt32.ofNat 8 ||| bt l (4 * i + 3))) rfl rfl (fun _ _ => by first | ((repeat (first | with_reducible exact Rpl.here | with_reducible apply Rpl.there)); done) | (repeat (first | exact Rpl.here | apply Rpl.there))) memA rfl rfl (by omega) rfl rfl (fun a' c' => ?_)
      unfold bt
      rw [hset]
      apply HB.fold
      refine HB.pa 36 rfl ?_
      refine HB.done (by (exact Keep.base h0 (Keep.base h1 (Keep.base h2 (Keep.base h3 Keep.nil))))) (by kernel_rfl) ?_
      repeat' (first | apply HL.fold | apply HA.fold | apply HL.nil | apply HX.n_then | apply HC.seq | apply HC.region | refine HL.pa ?_ | refine HL.ga rfl ?_ | refine HL.na rfl ?_ | refine HL.nu rfl rfl ?_ | apply HC.block | apply HC.skip | apply HC.exit | apply HC.ret | apply HX.e_block | refine HX.e_other rfl ?_ | apply HX.e_then | apply HX.e_again | apply HX.n_block | apply HX.r_then | apply HX.r_block | apply HX.r_again | refine HC.cond_yes rfl ?_ | refine HC.cond_no rfl ?_ | refine HL.one (H1.ldb rfl memA rfl rfl ?_) | refine HC.cond rfl (fun hc => ?_) (fun hc => ?_) | refine HC.cond_b rfl (fun hc => ?_) (fun hc => ?_))
      exact HX.again (i + 1, some ⟨a', 0, none⟩, c') hlt (by show 16 - (i + 1) < 16 - i; omega) esA (Hs.cons (Pick.there Pick.here) (Hs.nil _))
    · obtain rfl : i = 16 := by omega
      repeat' (first | apply HL.fold | apply HA.fold | apply HL.nil | apply HX.n_then | apply HC.seq | apply HC.region | refine HL.pa ?_ | refine HL.ga rfl ?_ | refine HL.na rfl ?_ | refine HL.nu rfl rfl ?_ | apply HC.block | apply HC.skip | apply HC.exit | apply HC.ret | apply HX.e_block | refine HX.e_other rfl ?_ | apply HX.e_then | apply HX.e_again | apply HX.n_block | apply HX.r_then | apply HX.r_block | apply HX.r_again | refine HC.cond_yes rfl ?_ | refine HC.cond_no rfl ?_ | refine HL.one (H1.ldb rfl memA rfl rfl ?_) | refine HC.cond rfl (fun hc => ?_) (fun hc => ?_) | refine HC.cond_b rfl (fun hc => ?_) (fun hc => ?_))
      exact HX.cut (a1, c1) trivial esA (Hs.refl _)
  rintro ⟨a1, c1⟩ -
  dsimp only
  repeat refine HC.seq ?_
  repeat' (first | apply HL.fold | apply HA.fold | apply HL.nil | apply HX.n_then | apply HC.seq | apply HC.region | refine HL.pa ?_ | refine HL.ga rfl ?_ | refine HL.na rfl ?_ | refine HL.nu rfl rfl ?_ | apply HC.skip | apply HC.exit | apply HC.ret | apply HX.e_block | refine HX.e_other rfl ?_ | apply HX.e_then | apply HX.e_again | apply HX.n_block | apply HX.r_then | apply HX.r_block | apply HX.r_again | refine HC.cond_yes rfl ?_ | refine HC.cond_no rfl ?_ | refine HL.one (H1.ldb rfl memA rfl rfl ?_) | refine HC.cond rfl (fun hc => ?_) (fun hc => ?_) | refine HC.cond_b rfl (fun hc => ?_) (fun hc => ?_))
  repeat refine HC.seq ?_
  refine HC.cut (α := Option Addr × Nat) (fun z => [(0, .slice (some ⟨bh, oh, none⟩) 8 ch), (5, .slice z.1 64 z.2)]) (fun z => [A.grow 109 1 z.1 z.2 64 (wsr l 64)]) (fun _ => True) ?_ ?_
  · refine HC.block ?_
    refine HC.loop (α := Nat × Option Addr × Nat) (fun z => [(0, .slice (some ⟨bh, oh, none⟩) 8 ch), (5, .slice z.2.1 z.1 z.2.2), (7, zv (z.1 : Int))]) (fun z => [A.grow 109 1 z.2.1 z.2.2 z.1 (wsr l z.1)]) (fun z => 16 ≤ z.1 ∧ z.1 ≤ 64) (fun z => 64 - z.1) (16, a1, c1) ⟨Nat.le_refl _, by show 16 ≤ 64; decide⟩ esA (Hs.refl _) ?_
    rintro ⟨i, a2, c2⟩ ⟨hi0, hi⟩
    dsimp only at hi0 hi ⊢
    by_cases hlt : i < 64
    · refine HC.openg (e := 109) (sz := 1) (a := a2) (c := c2) (n := i) (xs := wsr l i) memA (by omega) ?_
      rintro g2 rfl
      have g2' := wsr_get (l := l) (i := i) (j := i - 2) (by omega)
      have g7 := wsr_get (l := l) (i := i) (j := i - 7) (by omega)
      have g15 := wsr_get (l := l) (i := i) (j := i - 15) (by omega)
      have g16 := wsr_get (l := l) (i := i) (j := i - 16) (by omega)
      have hset := wsr_snoc l i
      rw [wW_hi (by omega), mix2, mix2] at hset
      have e2 : ((i : Int) - 2).toNat = i - 2 := by omega
      have e15 : ((i : Int) - 15).toNat = i - 15 := by omega
      generalize hx2 : wW l (i - 2) = x2 at g2' hset
      generalize hx7 : wW l (i - 7) = x7 at g7 hset
      generalize hx15 : wW l (i - 15) = x15 at g15 hset
      generalize hx16 : wW l (i - 16) = x16 at g16 hset
      repeat' (first | apply HL.fold | apply HA.fold | apply HL.nil | apply HX.n_then | apply HC.seq | apply HC.region | refine HL.pa ?_ | refine HL.ga rfl ?_ | refine HL.na rfl ?_ | refine HL.nu rfl rfl ?_ | apply HC.block | apply HC.skip | apply HC.exit | apply HC.ret | apply HX.e_block | refine HX.e_other rfl ?_ | apply HX.e_then | apply HX.e_again | apply HX.n_block | apply HX.r_then | apply HX.r_block | apply HX.r_again | refine HC.cond_yes rfl ?_ | refine HC.cond_no rfl ?_ | refine HL.one (H1.ldb rfl memA rfl rfl ?_) | refine HC.cond rfl (fun hc => ?_) (fun hc => ?_) | refine HC.cond_b rfl (fun hc => ?_) (fun hc => ?_))
      refine HC.quietS [(some 63, [5], []), (some 64, [7], []), (some 65, [64], [1]), (some 66, [63, 65], [0, 2]), (some 67, [66], [3]), (some 68, [67], [4]), (some 69, [5], []), (some 70, [7], []), (some 71, [70], [7]), (some 72, [69, 71], [6, 8]), (some 73, [72], [9]), (some 74, [73], [10, 5]), (some 75, [68, 74], [5, 11]), (some 76, [5], []), (some 77, [7], []), (some 78, [77], [14]), (some 79, [76, 78], [13, 15]), (some 80, [79], [16]), (some 81, [80], [17]), (some 82, [75, 81], [12, 18]), (some 8, [82], [19, 11, 0, 1, 2, 3, 4, 5, 6, 7, 8, 9, 10, 11, 12, 13, 14, 15, 16, 17, 18, 19])] (by kernel_rfl) (by kernel_rfl) (by kernel_rfl) ?_
      repeat' (first | refine HQ.pa ?_ | refine HQ.ga rfl ?_ | refine HQ.na rfl ?_ | refine HQ.nu rfl ?_ | refine HQ.ldb rfl memA rfl rfl ?_)
      rw [e15]
      refine HQ.ld rfl (fun w' hM => ownsRow_cell (hM.own memA) g15) rfl ?_
      repeat' (first | refine HQ.pa ?_ | refine HQ.ga rfl ?_ | refine HQ.na rfl ?_ | refine HQ.nu rfl ?_ | refine HQ.ldb rfl memA rfl rfl ?_)
      refine HQ.call (vs := [_, zv ((7 : Nat) : Int)]) rfl rfl (fun w' _ => rotated_fn x15 7 (by decide) (by decide) w') ?_
      repeat' (first | refine HQ.pa ?_ | refine HQ.ga rfl ?_ | refine HQ.na rfl ?_ | refine HQ.nu rfl ?_ | refine HQ.ldb rfl memA rfl rfl ?_)
      rw [e15]
      refine HQ.ld rfl (fun w' hM => ownsRow_cell (hM.own memA) g15) rfl ?_
      repeat' (first | refine HQ.pa ?_ | refine HQ.ga rfl ?_ | refine HQ.na rfl ?_ | refine HQ.nu rfl ?_ | refine HQ.ldb rfl memA rfl rfl ?_)
      refine HQ.call (vs := [_, zv ((18 : Nat) : Int)]) rfl rfl (fun w' _ => rotated_fn x15 18 (by decide) (by decide) w') ?_
      repeat' (first | refine HQ.pa ?_ | refine HQ.ga rfl ?_ | refine HQ.na rfl ?_ | refine HQ.nu rfl ?_ | refine HQ.ldb rfl memA rfl rfl ?_)
      rw [e15]
      refine HQ.ld rfl (fun w' hM => ownsRow_cell (hM.own memA) g15) rfl ?_
      repeat' (first | refine HQ.pa ?_ | refine HQ.ga rfl ?_ | refine HQ.na rfl ?_ | refine HQ.nu rfl ?_ | refine HQ.ldb rfl memA rfl rfl ?_)
      refine HQ.nil ?_
      repeat' (first | apply HL.fold | apply HA.fold | apply HL.nil | apply HX.n_then | apply HC.seq | apply HC.region | refine HL.pa ?_ | refine HL.ga rfl ?_ | refine HL.na rfl ?_ | refine HL.nu rfl rfl ?_ | apply HC.block | apply HC.skip | apply HC.exit | apply HC.ret | apply HX.e_block | refine HX.e_other rfl ?_ | apply HX.e_then | apply HX.e_again | apply HX.n_block | apply HX.r_then | apply HX.r_block | apply HX.r_again | refine HC.cond_yes rfl ?_ | refine HC.cond_no rfl ?_ | refine HL.one (H1.ldb rfl memA rfl rfl ?_) | refine HC.cond rfl (fun hc => ?_) (fun hc => ?_) | refine HC.cond_b rfl (fun hc => ?_) (fun hc => ?_))
      refine HC.quietS [(some 83, [5], []), (some 84, [7], []), (some 85, [84], [1]), (some 86, [83, 85], [0, 2]), (some 87, [86], [3]), (some 88, [87], [4]), (some 89, [5], []), (some 90, [7], []), (some 91, [90], [7]), (some 92, [89, 91], [6, 8]), (some 93, [92], [9]), (some 94, [93], [10, 5]), (some 95, [88, 94], [5, 11]), (some 96, [5], []), (some 97, [7], []), (some 98, [97], [14]), (some 99, [96, 98], [13, 15]), (some 100, [99], [16]), (some 101, [100], [17]), (some 102, [95, 101], [12, 18]), (some 9, [102], [19, 11, 0, 1, 2, 3, 4, 5, 6, 7, 8, 9, 10, 11, 12, 13, 14, 15, 16, 17, 18, 19])] (by kernel_rfl) (by kernel_rfl) (by kernel_rfl) ?_
      repeat' (first | refine HQ.pa ?_ | refine HQ.ga rfl ?_ | refine HQ.na rfl ?_ | refine HQ.nu rfl ?_ | refine HQ.ldb rfl memA rfl rfl ?_)
      rw [e2]
      refine HQ.ld rfl (fun w' hM => ownsRow_cell (hM.own memA) g2') rfl ?_
      repeat' (first | refine HQ.pa ?_ | refine HQ.ga rfl ?_ | refine HQ.na rfl ?_ | refine HQ.nu rfl ?_ | refine HQ.ldb rfl memA rfl rfl ?_)
      refine HQ.call (vs := [_, zv ((17 : Nat) : Int)]) rfl rfl (fun w' _ => rotated_fn x2 17 (by decide) (by decide) w') ?_
      repeat' (first | refine HQ.pa ?_ | refine HQ.ga rfl ?_ | refine HQ.na rfl ?_ | refine HQ.nu rfl ?_ | refine HQ.ldb rfl memA rfl rfl ?_)
      rw [e2]
      refine HQ.ld rfl (fun w' hM => ownsRow_cell (hM.own memA) g2') rfl ?_
      repeat' (first | refine HQ.pa ?_ | refine HQ.ga rfl ?_ | refine HQ.na rfl ?_ | refine HQ.nu rfl ?_ | refine HQ.ldb rfl memA rfl rfl ?_)
      refine HQ.call (vs := [_, zv ((19 : Nat) : Int)]) rfl rfl (fun w' _ => rotated_fn x2 19 (by decide) (by decide) w') ?_
      repeat' (first | refine HQ.pa ?_ | refine HQ.ga rfl ?_ | refine HQ.na rfl ?_ | refine HQ.nu rfl ?_ | refine HQ.ldb rfl memA rfl rfl ?_)
      rw [e2]
      refine HQ.ld rfl (fun w' hM => ownsRow_cell (hM.own memA) g2') rfl ?_
      repeat' (first | refine HQ.pa ?_ | refine HQ.ga rfl ?_ | refine HQ.na rfl ?_ | refine HQ.nu rfl ?_ | refine HQ.ldb rfl memA rfl rfl ?_)
      refine HQ.nil ?_
      repeat' (first | apply HL.fold | apply HA.fold | apply HL.nil | apply HX.n_then | apply HC.seq | apply HC.region | refine HL.pa ?_ | refine HL.ga rfl ?_ | refine HL.na rfl ?_ | refine HL.nu rfl rfl ?_ | apply HC.block | apply HC.skip | apply HC.exit | apply HC.ret | apply HX.e_block | refine HX.e_other rfl ?_ | apply HX.e_then | apply HX.e_again | apply HX.n_block | apply HX.r_then | apply HX.r_block | apply HX.r_again | refine HC.cond_yes rfl ?_ | refine HC.cond_no rfl ?_ | refine HL.one (H1.ldb rfl memA rfl rfl ?_) | refine HC.cond rfl (fun hc => ?_) (fun hc => ?_) | refine HC.cond_b rfl (fun hc => ?_) (fun hc => ?_))
      refine HC.sub [(0, .slice (some ⟨bh, oh, none⟩) 8 ch), (5, .slice (some ⟨g2, 0, none⟩) i c2), (7, zv (i : Int)), (8, w32 (rot x15 7 ^^^ rot x15 18 ^^^ x15 >>> UInt32.ofNat 3)), (9, w32 (rot x2 17 ^^^ rot x2 19 ^^^ x2 >>> UInt32.ofNat 10))] [A.grow 109 1 (some ⟨g2, 0, none⟩) c2 i (wsr l i)] ?_ esA (Hs.refl _)
      have e16 : ((i : Int) - 16).toNat = i - 16 := by omega
      have e7 : ((i : Int) - 7).toNat = i - 7 := by omega
      obtain ⟨X, hX⟩ : ∃ X, X = rot x15 7 ^^^ rot x15 18 ^^^ x15 >>> UInt32.ofNat 3 := ⟨_, rfl⟩
      obtain ⟨Y, hY⟩ : ∃ Y, Y = rot x2 17 ^^^ rot x2 19 ^^^ x2 >>> UInt32.ofNat 10 := ⟨_, rfl⟩
      rw [← hX, ← hY] at hset ⊢
      refine HC.any rfl ?_
      refine HA.pa 0 rfl ?_
      refine HA.pa 1 rfl ?_
      refine HA.pa 2 rfl ?_
      refine HA.pa 3 rfl ?_
      refine HA.pa 4 rfl ?_ (POp.index_slice (o := i - 16) rfl rfl (by omega) (by omega) (by omega))
      refine HA.pa 6 rfl ?_
      refine HA.pa 8 rfl ?_
      refine HA.pa 9 rfl ?_
      refine HA.pa 10 rfl ?_
      refine HA.pa 11 rfl ?_ (POp.index_slice (o := i - 7) rfl rfl (by omega) (by omega) (by omega))
      refine HA.pa 14 rfl ?_
      refine HA.all [5, 12] (by kernel_rfl) rfl ⟨⟨_, rfl, ?_⟩, ⟨_, rfl, ?_⟩, trivial⟩
      · refine HO.one ?_
        refine H1.ldg (b := g2) (c := c2) (n := i) (vs := wsr l i) rfl memA g16 rfl ?_
        apply HA.fold
        refine HA.pa 7 rfl ?_
        refine HA.all [12] (by kernel_rfl) rfl ⟨⟨_, rfl, ?_⟩, trivial⟩
        refine HO.one ?_
        refine H1.ldg (b := g2) (c := c2) (n := i) (vs := wsr l i) rfl memA g7 rfl ?_
        apply HA.fold
        refine HA.pa 13 rfl ?_
        refine HA.pa 15 rfl ?_
        refine HA.all [16] (by kernel_rfl) rfl ⟨⟨_, rfl, ?_⟩, trivial⟩
        refine HO.one ?_
        refine H1.lit (cs := [w32 (x16 + X + x7 + Y)]) rfl rfl rfl rfl rfl rfl (fun b9 => ?_)
        apply HA.fold
        refine HA.all [17] (by kernel_rfl) rfl ⟨⟨_, rfl, ?_⟩, trivial⟩
        refine HO.one ?_
        refine H1.app1 (u := w32 (x16 + X + x7 + Y)) rfl rfl (fun _ _ => by first | ((repeat (first | with_reducible exact Rpl.here | with_reducible apply Rpl.there)); done) | (repeat (first | exact Rpl.here | apply Rpl.there))) memA rfl rfl (by omega) rfl rfl (fun a' c' => ?_)
        rw [hset]
        apply HA.fold
        refine HA.pa 18 rfl ?_
        refine HA.done (by kernel_rfl) ?_
        repeat' (first | apply HL.fold | apply HA.fold | apply HL.nil | apply HX.n_then | apply HC.seq | apply HC.region | refine HL.pa ?_ | refine HL.ga rfl ?_ | refine HL.na rfl ?_ | refine HL.nu rfl rfl ?_ | apply HC.block | apply HC.skip | apply HC.exit | apply HC.ret | apply HX.e_block | refine HX.e_other rfl ?_ | apply HX.e_then | apply HX.e_again | apply HX.n_block | apply HX.r_then | apply HX.r_block | apply HX.r_again | refine HC.cond_yes rfl ?_ | refine HC.cond_no rfl ?_ | refine HL.one (H1.ldb rfl memA rfl rfl ?_) | refine HC.cond rfl (fun hc => ?_) (fun hc => ?_) | refine HC.cond_b rfl (fun hc => ?_) (fun hc => ?_))
        exact HX.again (i + 1, some ⟨a', 0, none⟩, c') ⟨by show 16 ≤ i + 1; omega, hlt⟩ (by show 64 - (i + 1) < 64 - i; omega) esA (Hs.cons (Pick.there Pick.here) (Hs.nil _))
      · refine HO.one ?_
        refine H1.ldg (b := g2) (c := c2) (n := i) (vs := wsr l i) rfl memA g7 rfl ?_
        apply HA.fold
        refine HA.all [5] (by kernel_rfl) rfl ⟨⟨_, rfl, ?_⟩, trivial⟩
        refine HO.one ?_
        refine H1.ldg (b := g2) (c := c2) (n := i) (vs := wsr l i) rfl memA g16 rfl ?_
        apply HA.fold
        refine HA.pa 7 rfl ?_
        refine HA.pa 13 rfl ?_
        refine HA.pa 15 rfl ?_
        refine HA.all [16] (by kernel_rfl) rfl ⟨⟨_, rfl, ?_⟩, trivial⟩
        refine HO.one ?_
        refine H1.lit (cs := [w32 (x16 + X + x7 + Y)]) rfl rfl rfl rfl rfl rfl (fun b9 => ?_)
        apply HA.fold
        refine HA.all [17] (by kernel_rfl) rfl ⟨⟨_, rfl, ?_⟩, trivial⟩
        refine HO.one ?_
        refine H1.app1 (u := w32 (x16 + X + x7 + Y)) rfl rfl (fun _ _ => by first | ((repeat (first | with_reducible exact Rpl.here | with_reducible apply Rpl.there)); done) | (repeat (first | exact Rpl.here | apply Rpl.there))) memA rfl rfl (by omega) rfl rfl (fun a' c' => ?_)
        rw [hset]
        apply HA.fold
        refine HA.pa 18 rfl ?_
        refine HA.done (by kernel_rfl) ?_
        repeat' (first | apply HL.fold | apply HA.fold | apply HL.nil | apply HX.n_then | apply HC.seq | apply HC.region | refine HL.pa ?_ | refine HL.ga rfl ?_ | refine HL.na rfl ?_ | refine HL.nu rfl rfl ?_ | apply HC.block | apply HC.skip | apply HC.exit | apply HC.ret | apply HX.e_block | refine HX.e_other rfl ?_ | apply HX.e_then | apply HX.e_again | apply HX.n_block | apply HX.r_then | apply HX.r_block | apply HX.r_again | refine HC.cond_yes rfl ?_ | refine HC.cond_no rfl ?_ | refine HL.one (H1.ldb rfl memA rfl rfl ?_) | refine HC.cond rfl (fun hc => ?_) (fun hc => ?_) | refine HC.cond_b rfl (fun hc => ?_) (fun hc => ?_))
        exact HX.again (i + 1, some ⟨a', 0, none⟩, c') ⟨by show 16 ≤ i + 1; omega, hlt⟩ (by show 64 - (i + 1) < 64 - i; omega) esA (Hs.cons (Pick.there Pick.here) (Hs.nil _))
    · obtain rfl : i = 64 := by omega
      repeat' (first | apply HL.fold | apply HA.fold | apply HL.nil | apply HX.n_then | apply HC.seq | apply HC.region | refine HL.pa ?_ | refine HL.ga rfl ?_ | refine HL.na rfl ?_ | refine HL.nu rfl rfl ?_ | apply HC.block | apply HC.skip | apply HC.exit | apply HC.ret | apply HX.e_block | refine HX.e_other rfl ?_ | apply HX.e_then | apply HX.e_again | apply HX.n_block | apply HX.r_then | apply HX.r_block | apply HX.r_again | refine HC.cond_yes rfl ?_ | refine HC.cond_no rfl ?_ | refine HL.one (H1.ldb rfl memA rfl rfl ?_) | refine HC.cond rfl (fun hc => ?_) (fun hc => ?_) | refine HC.cond_b rfl (fun hc => ?_) (fun hc => ?_))
      exact HX.cut (a2, c2) trivial esA (Hs.refl _)
  rintro ⟨a2, c2⟩ -
  dsimp only
  refine HC.openg (e := 109) (sz := 1) (a := a2) (c := c2) (n := 64) (xs := wsr l 64) memA (by decide) ?_
  rintro g2 rfl
  repeat' (first | apply HL.fold | apply HA.fold | apply HL.nil | apply HX.n_then | apply HC.seq | apply HC.region | refine HL.pa ?_ | refine HL.ga rfl ?_ | refine HL.na rfl ?_ | refine HL.nu rfl rfl ?_ | apply HC.block | apply HC.skip | apply HC.exit | apply HC.ret | apply HX.e_block | refine HX.e_other rfl ?_ | apply HX.e_then | apply HX.e_again | apply HX.n_block | apply HX.r_then | apply HX.r_block | apply HX.r_again | refine HC.cond_yes rfl ?_ | refine HC.cond_no rfl ?_ | refine HL.one (H1.ldb rfl memA rfl rfl ?_) | refine HC.cond rfl (fun hc => ?_) (fun hc => ?_) | refine HC.cond_b rfl (fun hc => ?_) (fun hc => ?_))
  refine HL.one (H1.callz (vs := []) rfl rfl (fun w' _ => constants_fn w') ?_)
  rintro bk -
  repeat' (first | apply HL.fold | apply HA.fold | apply HL.nil | apply HX.n_then | apply HC.seq | apply HC.region | refine HL.pa ?_ | refine HL.ga rfl ?_ | refine HL.na rfl ?_ | refine HL.nu rfl rfl ?_ | apply HC.block | apply HC.skip | apply HC.exit | apply HC.ret | apply HX.e_block | refine HX.e_other rfl ?_ | apply HX.e_then | apply HX.e_again | apply HX.n_block | apply HX.r_then | apply HX.r_block | apply HX.r_again | refine HC.cond_yes rfl ?_ | refine HC.cond_no rfl ?_ | refine HL.one (H1.ldb rfl memA rfl rfl ?_) | refine HC.cond rfl (fun hc => ?_) (fun hc => ?_) | refine HC.cond_b rfl (fun hc => ?_) (fun hc => ?_))
  refine HL.grow0 109 1 ?_
  refine HL.one (H1.appR (n := 0) (vs := ws s.l) rfl rfl rfl (fun _ _ => by first | ((repeat (first | with_reducible exact Rpl.here | with_reducible apply Rpl.there)); done) | (repeat (first | exact Rpl.here | apply Rpl.there))) (fun w' hM => hh.ext hM.ext) ws_one (by show 0 + 8 ≤ 1000000; decide) (by decide) rfl (.inl rfl) (fun av0 cv0 hav => ?_))
  obtain ⟨gv0, rfl⟩ : ∃ b, av0 = some ⟨b, 0, none⟩ := by
    rcases hav with h | h
    · cases h
    · exact h
  repeat' (first | apply HL.fold | apply HA.fold | apply HL.nil | apply HX.n_then | apply HC.seq | apply HC.region | refine HL.pa ?_ | refine HL.ga rfl ?_ | refine HL.na rfl ?_ | refine HL.nu rfl rfl ?_ | apply HC.skip | apply HC.exit | apply HC.ret | apply HX.e_block | refine HX.e_other rfl ?_ | apply HX.e_then | apply HX.e_again | apply HX.n_block | apply HX.r_then | apply HX.r_block | apply HX.r_again | refine HC.cond_yes rfl ?_ | refine HC.cond_no rfl ?_ | refine HL.one (H1.ldb rfl memA rfl rfl ?_) | refine HC.cond rfl (fun hc => ?_) (fun hc => ?_) | refine HC.cond_b rfl (fun hc => ?_) (fun hc => ?_))
  repeat refine HC.seq ?_
  refine HC.cut (α := Nat × Nat) (fun z => [(0, .slice (some ⟨bh, oh, none⟩) 8 ch), (11, .slice (some ⟨z.1, 0, none⟩) 8 z.2)]) (fun z => [A.grow 109 1 (some ⟨z.1, 0, none⟩) z.2 8 (ws (rnds l s 64).l)]) (fun _ => True) ?_ ?_
  · refine HC.block ?_
    refine HC.loop (α := Nat × Nat × Nat) (fun z => [(0, .slice (some ⟨bh, oh, none⟩) 8 ch), (5, .slice (some ⟨g2, 0, none⟩) 64 c2), (10, .slice (some ⟨bk, 0, none⟩) 64 64), (11, .slice (some ⟨z.2.1, 0, none⟩) 8 z.2.2), (12, zv (z.1 : Int))])
      (fun z => [A.grow 109 1 (some ⟨z.2.1, 0, none⟩) z.2.2 8 (ws (rnds l s z.1).l), A.blk bk (ws kL) 109, A.grow 109 1 (some ⟨g2, 0, none⟩) c2 64 (wsr l 64)]) (fun z => z.1 ≤ 64) (fun z => 64 - z.1) (0, gv0, cv0) (Nat.zero_le _) esA (Hs.refl _) ?_
    rintro ⟨i, gv, cv⟩ hi
    dsimp only at hi ⊢
    by_cases hlt : i < 64
    · have hk := kW_get hlt
      have hw := wsr_get (l := l) (i := 64) hlt
      have hstep : rnds l s (i + 1) = rnd (kW i) (wW l i) (rnds l s i) := rfl
      generalize rnds l s i = S at hstep
      generalize hkk : kW i = kk at hk hstep
      generalize hww : wW l i = ww at hw hstep
      have hT : S.h + (rot S.e 6 ^^^ rot S.e 11 ^^^ rot S.e 25) + (S.e &&& S.f ^^^ ~~~S.e &&& S.g) + kk + ww = rT kk ww S := by unfold rT; rw [mix3]
      have hU : rot S.a 2 ^^^ rot S.a 13 ^^^ rot S.a 22 = mixW S.a [2, 13, 22] := by rw [mix3]
      repeat' (first | apply HL.fold | apply HA.fold | apply HL.nil | apply HX.n_then | apply HC.seq | apply HC.region | refine HL.pa ?_ | refine HL.ga rfl ?_ | refine HL.na rfl ?_ | refine HL.nu rfl rfl ?_ | apply HC.block | apply HC.skip | apply HC.exit | apply HC.ret | apply HX.e_block | refine HX.e_other rfl ?_ | apply HX.e_then | apply HX.e_again | apply HX.n_block | apply HX.r_then | apply HX.r_block | apply HX.r_again | refine HC.cond_yes rfl ?_ | refine HC.cond_no rfl ?_ | refine HL.one (H1.ldb rfl memA rfl rfl ?_) | refine HC.cond rfl (fun hc => ?_) (fun hc => ?_) | refine HC.cond_b rfl (fun hc => ?_) (fun hc => ?_))
      refine HL.one (H1.ldg (b := gv) (c := cv) (n := 8) (vs := ws S.l) (v := w32 S.a) rfl memA rfl rfl ?_)
      repeat' (first | apply HL.fold | apply HA.fold | apply HL.nil | apply HX.n_then | apply HC.seq | apply HC.region | refine HL.pa ?_ | refine HL.ga rfl ?_ | refine HL.na rfl ?_ | refine HL.nu rfl rfl ?_ | apply HC.block | apply HC.skip | apply HC.exit | apply HC.ret | apply HX.e_block | refine HX.e_other rfl ?_ | apply HX.e_then | apply HX.e_again | apply HX.n_block | apply HX.r_then | apply HX.r_block | apply HX.r_again | refine HC.cond_yes rfl ?_ | refine HC.cond_no rfl ?_ | refine HL.one (H1.ldb rfl memA rfl rfl ?_) | refine HC.cond rfl (fun hc => ?_) (fun hc => ?_) | refine HC.cond_b rfl (fun hc => ?_) (fun hc => ?_))
      refine HL.one (H1.ldg (b := gv) (c := cv) (n := 8) (vs := ws S.l) (v := w32 S.e) rfl memA rfl rfl ?_)
      repeat' (first | apply HL.fold | apply HA.fold | apply HL.nil | apply HX.n_then | apply HC.seq | apply HC.region | refine HL.pa ?_ | refine HL.ga rfl ?_ | refine HL.na rfl ?_ | refine HL.nu rfl rfl ?_ | apply HC.block | apply HC.skip | apply HC.exit | apply HC.ret | apply HX.e_block | refine HX.e_other rfl ?_ | apply HX.e_then | apply HX.e_again | apply HX.n_block | apply HX.r_then | apply HX.r_block | apply HX.r_again | refine HC.cond_yes rfl ?_ | refine HC.cond_no rfl ?_ | refine HL.one (H1.ldb rfl memA rfl rfl ?_) | refine HC.cond rfl (fun hc => ?_) (fun hc => ?_) | refine HC.cond_b rfl (fun hc => ?_) (fun hc => ?_))
      refine HC.quietS [(some 135, [11], []), (some 136, [135], [0]), (some 137, [136], [1]), (some 138, [14], []), (some 139, [138], [3]), (some 140, [14], []), (some 141, [140], [5, 4]), (some 142, [139, 141], [4, 6]), (some 143, [14], []), (some 144, [143], [8, 6]), (some 145, [142, 144], [7, 9]), (some 146, [137, 145], [2, 10]), (some 147, [14], []), (some 148, [11], []), (some 149, [148], [13]), (some 150, [149], [14]), (some 151, [147, 150], [12, 15]), (some 152, [14], []), (some 153, [152], [17]), (some 154, [11], []), (some 155, [154], [19]), (some 156, [155], [20]), (some 157, [153, 156], [18, 21]), (some 158, [151, 157], [16, 22]), (some 159, [146, 158], [11, 23]), (some 160, [10], []), (some 161, [12], []), (some 162, [160, 161], [25, 26]), (some 163, [162], [27]), (some 164, [159, 163], [24, 28]), (some 165, [5], []), (some 166, [12], []), (some 167, [165, 166], [30, 31]), (some 168, [167], [32]), (some 169, [164, 168], [29, 33]), (some 15, [169], [34, 9, 0, 1, 2, 3, 4, 5, 6, 7, 8, 9, 10, 11, 12, 13, 14, 15, 16, 17, 18, 19, 20, 21, 22, 23, 24, 25, 26, 27, 28, 29, 30, 31, 32, 33, 34])] (by kernel_rfl) (by kernel_rfl) (by kernel_rfl) ?_
      repeat' (first | refine HQ.pa ?_ | refine HQ.ga rfl ?_ | refine HQ.na rfl ?_ | refine HQ.nu rfl ?_ | refine HQ.ldb rfl memA rfl rfl ?_)
      refine HQ.ld rfl (fun w' hM => ownsRow_cell (hM.own (.head _)) (i := 7) rfl) rfl ?_
      repeat' (first | refine HQ.pa ?_ | refine HQ.ga rfl ?_ | refine HQ.na rfl ?_ | refine HQ.nu rfl ?_ | refine HQ.ldb rfl memA rfl rfl ?_)
      refine HQ.call (vs := [_, zv ((6 : Nat) : Int)]) rfl rfl (fun w' _ => rotated_fn S.e 6 (by decide) (by decide) w') ?_
      repeat' (first | refine HQ.pa ?_ | refine HQ.ga rfl ?_ | refine HQ.na rfl ?_ | refine HQ.nu rfl ?_ | refine HQ.ldb rfl memA rfl rfl ?_)
      refine HQ.call (vs := [_, zv ((11 : Nat) : Int)]) rfl rfl (fun w' _ => rotated_fn S.e 11 (by decide) (by decide) w') ?_
      repeat' (first | refine HQ.pa ?_ | refine HQ.ga rfl ?_ | refine HQ.na rfl ?_ | refine HQ.nu rfl ?_ | refine HQ.ldb rfl memA rfl rfl ?_)
      refine HQ.call (vs := [_, zv ((25 : Nat) : Int)]) rfl rfl (fun w' _ => rotated_fn S.e 25 (by decide) (by decide) w') ?_
      repeat' (first | refine HQ.pa ?_ | refine HQ.ga rfl ?_ | refine HQ.na rfl ?_ | refine HQ.nu rfl ?_ | refine HQ.ldb rfl memA rfl rfl ?_)
      refine HQ.ld rfl (fun w' hM => ownsRow_cell (hM.own (.head _)) (i := 5) rfl) rfl ?_
      repeat' (first | refine HQ.pa ?_ | refine HQ.ga rfl ?_ | refine HQ.na rfl ?_ | refine HQ.nu rfl ?_ | refine HQ.ldb rfl memA rfl rfl ?_)
      refine HQ.ld rfl (fun w' hM => ownsRow_cell (hM.own (.head _)) (i := 6) rfl) rfl ?_
      repeat' (first | refine HQ.pa ?_ | refine HQ.ga rfl ?_ | refine HQ.na rfl ?_ | refine HQ.nu rfl ?_ | refine HQ.ldb rfl memA rfl rfl ?_)
      refine HQ.ldb rfl (.tail _ (.head _)) hk rfl ?_
      repeat' (first | refine HQ.pa ?_ | refine HQ.ga rfl ?_ | refine HQ.na rfl ?_ | refine HQ.nu rfl ?_ | refine HQ.ldb rfl memA rfl rfl ?_)
      refine HQ.ld rfl (fun w' hM => ownsRow_cell (hM.own (.tail _ (.tail _ (.head _)))) hw) rfl ?_
      repeat' (first | refine HQ.pa ?_ | refine HQ.ga rfl ?_ | refine HQ.na rfl ?_ | refine HQ.nu rfl ?_ | refine HQ.ldb rfl memA rfl rfl ?_)
      refine HQ.nil ?_
      rw [hT]
      repeat' (first | apply HL.fold | apply HA.fold | apply HL.nil | apply HX.n_then | apply HC.seq | apply HC.region | refine HL.pa ?_ | refine HL.ga rfl ?_ | refine HL.na rfl ?_ | refine HL.nu rfl rfl ?_ | apply HC.block | apply HC.skip | apply HC.exit | apply HC.ret | apply HX.e_block | refine HX.e_other rfl ?_ | apply HX.e_then | apply HX.e_again | apply HX.n_block | apply HX.r_then | apply HX.r_block | apply HX.r_again | refine HC.cond_yes rfl ?_ | refine HC.cond_no rfl ?_ | refine HL.one (H1.ldb rfl memA rfl rfl ?_) | refine HC.cond rfl (fun hc => ?_) (fun hc => ?_) | refine HC.cond_b rfl (fun hc => ?_) (fun hc => ?_))
      refine HC.quietS [(some 170, [13], []), (some 171, [170], [0]), (some 172, [13], []), (some 173, [172], [2, 1]), (some 174, [171, 173], [1, 3]), (some 175, [13], []), (some 176, [175], [5, 3]), (some 177, [174, 176], [4, 6]), (some 178, [13], []), (some 179, [11], []), (some 180, [179], [9]), (some 181, [180], [10]), (some 182, [178, 181], [8, 11]), (some 183, [13], []), (some 184, [11], []), (some 185, [184], [14]), (some 186, [185], [15]), (some 187, [183, 186], [13, 16]), (some 188, [182, 187], [12, 17]), (some 189, [11], []), (some 190, [189], [19]), (some 191, [190], [20]), (some 192, [11], []), (some 193, [192], [22]), (some 194, [193], [23]), (some 195, [191, 194], [21, 24]), (some 196, [188, 195], [18, 25]), (some 197, [177, 196], [7, 26]), (some 16, [197], [27, 6, 0, 1, 2, 3, 4, 5, 6, 7, 8, 9, 10, 11, 12, 13, 14, 15, 16, 17, 18, 19, 20, 21, 22, 23, 24, 25, 26, 27])] (by kernel_rfl) (by kernel_rfl) (by kernel_rfl) ?_
      repeat' (first | refine HQ.pa ?_ | refine HQ.ga rfl ?_ | refine HQ.na rfl ?_ | refine HQ.nu rfl ?_ | refine HQ.ldb rfl memA rfl rfl ?_)
      refine HQ.call (vs := [_, zv ((2 : Nat) : Int)]) rfl rfl (fun w' _ => rotated_fn S.a 2 (by decide) (by decide) w') ?_
      repeat' (first | refine HQ.pa ?_ | refine HQ.ga rfl ?_ | refine HQ.na rfl ?_ | refine HQ.nu rfl ?_ | refine HQ.ldb rfl memA rfl rfl ?_)
      refine HQ.call (vs := [_, zv ((13 : Nat) : Int)]) rfl rfl (fun w' _ => rotated_fn S.a 13 (by decide) (by decide) w') ?_
      repeat' (first | refine HQ.pa ?_ | refine HQ.ga rfl ?_ | refine HQ.na rfl ?_ | refine HQ.nu rfl ?_ | refine HQ.ldb rfl memA rfl rfl ?_)
      refine HQ.call (vs := [_, zv ((22 : Nat) : Int)]) rfl rfl (fun w' _ => rotated_fn S.a 22 (by decide) (by decide) w') ?_
      repeat' (first | refine HQ.pa ?_ | refine HQ.ga rfl ?_ | refine HQ.na rfl ?_ | refine HQ.nu rfl ?_ | refine HQ.ldb rfl memA rfl rfl ?_)
      refine HQ.ld rfl (fun w' hM => ownsRow_cell (hM.own (.head _)) (i := 1) rfl) rfl ?_
      repeat' (first | refine HQ.pa ?_ | refine HQ.ga rfl ?_ | refine HQ.na rfl ?_ | refine HQ.nu rfl ?_ | refine HQ.ldb rfl memA rfl rfl ?_)
      refine HQ.ld rfl (fun w' hM => ownsRow_cell (hM.own (.head _)) (i := 2) rfl) rfl ?_
      repeat' (first | refine HQ.pa ?_ | refine HQ.ga rfl ?_ | refine HQ.na rfl ?_ | refine HQ.nu rfl ?_ | refine HQ.ldb rfl memA rfl rfl ?_)
      refine HQ.ld rfl (fun w' hM => ownsRow_cell (hM.own (.head _)) (i := 1) rfl) rfl ?_
      repeat' (first | refine HQ.pa ?_ | refine HQ.ga rfl ?_ | refine HQ.na rfl ?_ | refine HQ.nu rfl ?_ | refine HQ.ldb rfl memA rfl rfl ?_)
      refine HQ.ld rfl (fun w' hM => ownsRow_cell (hM.own (.head _)) (i := 2) rfl) rfl ?_
      repeat' (first | refine HQ.pa ?_ | refine HQ.ga rfl ?_ | refine HQ.na rfl ?_ | refine HQ.nu rfl ?_ | refine HQ.ldb rfl memA rfl rfl ?_)
      refine HQ.nil ?_
      repeat' (first | apply HL.fold | apply HA.fold | apply HL.nil | apply HX.n_then | apply HC.seq | apply HC.region | refine HL.pa ?_ | refine HL.ga rfl ?_ | refine HL.na rfl ?_ | refine HL.nu rfl rfl ?_ | apply HC.block | apply HC.skip | apply HC.exit | apply HC.ret | apply HX.e_block | refine HX.e_other rfl ?_ | apply HX.e_then | apply HX.e_again | apply HX.n_block | apply HX.r_then | apply HX.r_block | apply HX.r_again | refine HC.cond_yes rfl ?_ | refine HC.cond_no rfl ?_ | refine HL.one (H1.ldb rfl memA rfl rfl ?_) | refine HC.cond rfl (fun hc => ?_) (fun hc => ?_) | refine HC.cond_b rfl (fun hc => ?_) (fun hc => ?_))
      have hU2 : (rot S.a 2 ^^^ rot S.a 13 ^^^ rot S.a 22) + (S.a &&& S.b ^^^ S.a &&& S.c ^^^ S.b &&& S.c) = rU S := by unfold rU; rw [mix3]
      rw [hU2]
      refine HC.sub [(0, .slice (some ⟨bh, oh, none⟩) 8 ch), (5, .slice (some ⟨g2, 0, none⟩) 64 c2), (10, .slice (some ⟨bk, 0, none⟩) 64 64), (11, .slice (some ⟨gv, 0, none⟩) 8 cv), (12, zv (i : Int)), (13, w32 S.a), (14, w32 S.e), (15, w32 (rT kk ww S)), (16, w32 (rU S))] [A.grow 109 1 (some ⟨gv, 0, none⟩) cv 8 (ws S.l), A.blk bk (ws kL) 109, A.grow 109 1 (some ⟨g2, 0, none⟩) c2 64 (wsr l 64)] ?_ esA (Hs.refl _)
      obtain ⟨T, hTT⟩ : ∃ T, T = rT kk ww S := ⟨_, rfl⟩
      obtain ⟨U, hUU⟩ : ∃ U, U = rU S := ⟨_, rfl⟩
      have hnew : ws (rnd kk ww S).l = [w32 (T + U), w32 S.a, w32 S.b, w32 S.c, w32 (S.d + T), w32 S.e, w32 S.f, w32 S.g] := by rw [hTT, hUU]; rfl
      rw [← hTT, ← hUU]
      refine HC.anyC ([(⟨gv, 1, none⟩, w32 S.b), (⟨gv, 2, none⟩, w32 S.c), (⟨gv, 3, none⟩, w32 S.d), (⟨gv, 5, none⟩, w32 S.f), (⟨gv, 6, none⟩, w32 S.g)]) rfl ?_
      refine HB.pa 0 rfl ?_
      refine HB.pa 1 rfl ?_
      refine HB.pa 2 rfl ?_
      refine HB.pa 3 rfl ?_
      refine HB.pa 4 rfl ?_
      refine HB.pa 5 rfl ?_
      refine HB.ld 6 rfl rfl memD ?_
      refine HB.pa 7 rfl ?_
      refine HB.pa 8 rfl ?_
      refine HB.ld 9 rfl rfl memD ?_
      refine HB.pa 10 rfl ?_
      refine HB.pa 11 rfl ?_
      refine HB.ld 12 rfl rfl memD ?_
      refine HB.pa 13 rfl ?_
      refine HB.pa 14 rfl ?_
      refine HB.pa 15 rfl ?_
      refine HB.pa 16 rfl ?_
      refine HB.pa 17 rfl ?_
      refine HB.ld 18 rfl rfl memD ?_
      refine HB.pa 19 rfl ?_
      refine HB.pa 20 rfl ?_
      refine HB.ld 21 rfl rfl memD ?_
      refine HB.all (by (exact Keep.grow memD rfl (Keep.grow memD rfl (Keep.grow memD rfl (Keep.grow memD rfl (Keep.grow memD rfl Keep.nil)))))) [22] (by kernel_rfl) rfl ⟨⟨_, rfl, ?_⟩, trivial⟩
      refine HP.one ?_
      refine H1.lit (cs := [w32 (T + U), w32 S.a, w32 S.b, w32 S.c, w32 (S.d + T), w32 S.e, w32 S.f, w32 S.g]) rfl rfl rfl rfl rfl rfl (fun b9 => ?_)
      apply HB.fold
      refine HB.pa 23 rfl ?_
      refine HB.done (by (exact Keep.grow memD rfl (Keep.grow memD rfl (Keep.grow memD rfl (Keep.grow memD rfl (Keep.grow memD rfl Keep.nil)))))) (by kernel_rfl) ?_
      repeat' (first | apply HL.fold | apply HA.fold | apply HL.nil | apply HX.n_then | apply HC.seq | apply HC.region | refine HL.pa ?_ | refine HL.ga rfl ?_ | refine HL.na rfl ?_ | refine HL.nu rfl rfl ?_ | apply HC.block | apply HC.skip | apply HC.exit | apply HC.ret | apply HX.e_block | refine HX.e_other rfl ?_ | apply HX.e_then | apply HX.e_again | apply HX.n_block | apply HX.r_then | apply HX.r_block | apply HX.r_again | refine HC.cond_yes rfl ?_ | refine HC.cond_no rfl ?_ | refine HL.one (H1.ldb rfl memA rfl rfl ?_) | refine HC.cond rfl (fun hc => ?_) (fun hc => ?_) | refine HC.cond_b rfl (fun hc => ?_) (fun hc => ?_))
      rw [← hnew]
      refine HX.conv (H2 := A.grow 109 1 (some ⟨b9, 0, none⟩) 8 8 (ws (rnd kk ww S).l) :: _) (fun w h => blkGr h rfl (by decide)) ?_
      exact HX.again (i + 1, b9, 8) hlt (by show 64 - (i + 1) < 64 - i; omega) esA (by dsimp only; rw [hstep]; exact Hs.cons Pick.here (Hs.refl _).skip)
    · obtain rfl : i = 64 := by omega
      repeat' (first | apply HL.fold | apply HA.fold | apply HL.nil | apply HX.n_then | apply HC.seq | apply HC.region | refine HL.pa ?_ | refine HL.ga rfl ?_ | refine HL.na rfl ?_ | refine HL.nu rfl rfl ?_ | apply HC.block | apply HC.skip | apply HC.exit | apply HC.ret | apply HX.e_block | refine HX.e_other rfl ?_ | apply HX.e_then | apply HX.e_again | apply HX.n_block | apply HX.r_then | apply HX.r_block | apply HX.r_again | refine HC.cond_yes rfl ?_ | refine HC.cond_no rfl ?_ | refine HL.one (H1.ldb rfl memA rfl rfl ?_) | refine HC.cond rfl (fun hc => ?_) (fun hc => ?_) | refine HC.cond_b rfl (fun hc => ?_) (fun hc => ?_))
      exact HX.cut (gv, cv) trivial esA (Hs.cons Pick.here (Hs.nil _))
  rintro ⟨gv, cv⟩ -
  dsimp only
  obtain ⟨V, hVd⟩ : ∃ V, V = rnds l s 64 := ⟨_, rfl⟩
  have hcomp : comp s l = s.add V := by rw [hVd]; rfl
  rw [hcomp, ← hVd]
  repeat' (first | apply HL.fold | apply HA.fold | apply HL.nil | apply HX.n_then | apply HC.seq | apply HC.region | refine HL.pa ?_ | refine HL.ga rfl ?_ | refine HL.na rfl ?_ | refine HL.nu rfl rfl ?_ | apply HC.block | apply HC.skip | apply HC.exit | apply HC.ret | apply HX.e_block | refine HX.e_other rfl ?_ | apply HX.e_then | apply HX.e_again | apply HX.n_block | apply HX.r_then | apply HX.r_block | apply HX.r_again | refine HC.cond_yes rfl ?_ | refine HC.cond_no rfl ?_ | refine HL.one (H1.ldb rfl memA rfl rfl ?_) | refine HC.cond rfl (fun hc => ?_) (fun hc => ?_) | refine HC.cond_b rfl (fun hc => ?_) (fun hc => ?_))
  refine HC.grow0 109 1 ?_
  refine HC.loop (α := Nat × Option Addr × Nat) (fun z => [(0, .slice (some ⟨bh, oh, none⟩) 8 ch), (11, .slice (some ⟨gv, 0, none⟩) 8 cv), (17, .slice z.2.1 z.1 z.2.2), (18, zv (z.1 : Int))]) (fun z => [A.grow 109 1 z.2.1 z.2.2 z.1 (ws (sumsL s V z.1)), A.grow 109 1 (some ⟨gv, 0, none⟩) cv 8 (ws V.l)]) (fun z => z.1 ≤ 8) (fun z => 8 - z.1) (0, none, 0) (Nat.zero_le _) esA (Hs.refl _) ?_
  rintro ⟨i, ao, co⟩ hi
  dsimp only at hi ⊢
  by_cases hlt : i < 8
  · have hb := hh.cell (S8.get (s := s) hlt)
    have hv := S8.get (s := V) hlt
    have hsn := sumsL_snoc s V i
    generalize s.l.getD i 0 = x at hb hsn
    generalize V.l.getD i 0 = y at hv hsn
    repeat' (first | apply HL.fold | apply HA.fold | apply HL.nil | apply HX.n_then | apply HC.seq | apply HC.region | refine HL.pa ?_ | refine HL.ga rfl ?_ | refine HL.na rfl ?_ | refine HL.nu rfl rfl ?_ | apply HC.block | apply HC.skip | apply HC.exit | apply HC.ret | apply HX.e_block | refine HX.e_other rfl ?_ | apply HX.e_then | apply HX.e_again | apply HX.n_block | apply HX.r_then | apply HX.r_block | apply HX.r_again | refine HC.cond_yes rfl ?_ | refine HC.cond_no rfl ?_ | refine HL.one (H1.ldb rfl memA rfl rfl ?_) | refine HC.cond rfl (fun hc => ?_) (fun hc => ?_) | refine HC.cond_b rfl (fun hc => ?_) (fun hc => ?_))
    refine HC.anyC ([(⟨bh, oh + i, none⟩, w32 x), (⟨gv, i, none⟩, w32 y)]) rfl ?_
    refine HB.pa 0 rfl ?_
    refine HB.pa 1 rfl ?_
    refine HB.pa 2 rfl ?_
    refine HB.pa 3 rfl ?_
    refine HB.ld 4 rfl rfl memD ?_
    refine HB.pa 5 rfl ?_
    refine HB.pa 6 rfl ?_
    refine HB.pa 7 rfl ?_
    refine HB.ld 8 rfl rfl memD ?_
    refine HB.pa 9 rfl ?_
    refine HB.all (by (exact Keep.base hb (Keep.grow (b := gv) (c := cv) (n := 8) (vs := ws V.l) memD hv Keep.nil))) [10] (by kernel_rfl) rfl ⟨⟨_, rfl, ?_⟩, trivial⟩
    refine HP.one ?_
    refine H1.lit (cs := [w32 (x + y)]) rfl rfl rfl rfl rfl rfl (fun b9 => ?_)
    apply HB.fold
    refine HB.all (by (exact Keep.base hb (Keep.grow (b := gv) (c := cv) (n := 8) (vs := ws V.l) memD hv Keep.nil))) [11] (by kernel_rfl) rfl ⟨⟨_, rfl, ?_⟩, trivial⟩
    refine HP.one ?_
    refine H1.app1 (u := w32 (x + y)) rfl rfl (fun _ _ => by first | ((repeat (first | with_reducible exact Rpl.here | with_reducible apply Rpl.there)); done) | (repeat (first | exact Rpl.here | apply Rpl.there))) memA rfl rfl (by omega) rfl rfl (fun a' c' => ?_)
    rw [ws_snoc, hsn]
    apply HB.fold
    refine HB.pa 12 rfl ?_
    refine HB.done (by (exact Keep.base hb (Keep.grow (b := gv) (c := cv) (n := 8) (vs := ws V.l) memD hv Keep.nil))) (by kernel_rfl) ?_
    repeat' (first | apply HL.fold | apply HA.fold | apply HL.nil | apply HX.n_then | apply HC.seq | apply HC.region | refine HL.pa ?_ | refine HL.ga rfl ?_ | refine HL.na rfl ?_ | refine HL.nu rfl rfl ?_ | apply HC.block | apply HC.skip | apply HC.exit | apply HC.ret | apply HX.e_block | refine HX.e_other rfl ?_ | apply HX.e_then | apply HX.e_again | apply HX.n_block | apply HX.r_then | apply HX.r_block | apply HX.r_again | refine HC.cond_yes rfl ?_ | refine HC.cond_no rfl ?_ | refine HL.one (H1.ldb rfl memA rfl rfl ?_) | refine HC.cond rfl (fun hc => ?_) (fun hc => ?_) | refine HC.cond_b rfl (fun hc => ?_) (fun hc => ?_))
    exact HX.again (i + 1, some ⟨a', 0, none⟩, c') hlt (by show 8 - (i + 1) < 8 - i; omega) esA (Hs.cons (Pick.there Pick.here) (Hs.cons (Pick.there Pick.here) (Hs.nil _)))
  · obtain rfl : i = 8 := by omega
    refine HC.openg (e := 109) (sz := 1) (a := ao) (c := co) (n := 8) (xs := ws (sumsL s V 8)) memA (by decide) ?_
    rintro go rfl
    repeat' (first | apply HL.fold | apply HA.fold | apply HL.nil | apply HX.n_then | apply HC.seq | apply HC.region | refine HL.pa ?_ | refine HL.ga rfl ?_ | refine HL.na rfl ?_ | refine HL.nu rfl rfl ?_ | apply HC.block | apply HC.skip | apply HC.exit | apply HC.ret | apply HX.e_block | refine HX.e_other rfl ?_ | apply HX.e_then | apply HX.e_again | apply HX.n_block | apply HX.r_then | apply HX.r_block | apply HX.r_again | refine HC.cond_yes rfl ?_ | refine HC.cond_no rfl ?_ | refine HL.one (H1.ldb rfl memA rfl rfl ?_) | refine HC.cond rfl (fun hc => ?_) (fun hc => ?_) | refine HC.cond_b rfl (fun hc => ?_) (fun hc => ?_))
    exact HX.ret1 rfl rfl fun w' hM => ⟨(go, co), trivial, rfl, hM.sub (Hs.cons Pick.here (Hs.refl _).skip)⟩
end Go.Sx

