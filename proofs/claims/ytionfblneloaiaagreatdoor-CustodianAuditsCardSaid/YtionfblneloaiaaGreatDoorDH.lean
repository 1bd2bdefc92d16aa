/- Chapter 2, the reference: a block: the walk. -/
import Derived.Test.YtionfblneloaiaaGreatDoorDE
import Derived.Test.YtionfblneloaiaaGreatDoorHl
import Derived.Test.YtionfblneloaiaaGreatDoorKL
import Derived.Test.YtionfblneloaiaaGreatDoorDI
namespace Go.Sx
open Go Go.Proofs Go.RowKit
theorem hwDH {G G2 : Prop} (x : G2) (hwq : Hold G2 → G := by
    intro hQq
    repeat' (first | apply HL.fold | apply HA.fold | apply HL.nil | apply HX.n_then | apply HC.seq | apply HC.region | refine HL.pa ?_ | refine HL.ga rfl ?_ | refine HL.na rfl ?_ | refine HL.nu rfl rfl ?_ | apply HC.block | apply HC.skip | apply HC.exit | apply HC.ret | apply HX.e_block | refine HX.e_other rfl ?_ | apply HX.e_then | apply HX.e_again | apply HX.n_block | apply HX.r_then | apply HX.r_block | apply HX.r_again | refine HC.cond_yes rfl ?_ | refine HC.cond_no rfl ?_ | refine HL.one (H1.ldb rfl memA rfl rfl ?_) | refine HC.cond rfl (fun hc => ?_) (fun hc => ?_) | refine HC.cond_b rfl (fun hc => ?_) (fun hc => ?_))
    exact hQq.get) : G := hwq ⟨x⟩
theorem hbDH {G G2 : Prop} (x : G2) (hwq : Hold G2 → G := by
    intro hQq
    repeat' (first | apply HL.fold | apply HA.fold | apply HL.nil | apply HX.n_then | apply HC.seq | apply HC.region | refine HL.pa ?_ | refine HL.ga rfl ?_ | refine HL.na rfl ?_ | refine HL.nu rfl rfl ?_ | apply HC.skip | apply HC.exit | apply HC.ret | apply HX.e_block | refine HX.e_other rfl ?_ | apply HX.e_then | apply HX.e_again | apply HX.n_block | apply HX.r_then | apply HX.r_block | apply HX.r_again | refine HC.cond_yes rfl ?_ | refine HC.cond_no rfl ?_ | refine HL.one (H1.ldb rfl memA rfl rfl ?_) | refine HC.cond rfl (fun hc => ?_) (fun hc => ?_) | refine HC.cond_b rfl (fun hc => ?_) (fun hc => ?_))
    exact hQq.get) : G := hwq ⟨x⟩
theorem blkGr {w0 w : World} {b n sz : Nat} {cs : List Value} {e : TypeId} {H : List Atom} (h : Mm w0 (A.blk b cs e :: H) w) (hl : cs.length = n * sz) (hn : n ≤ 1000000) : Mm w0 (A.grow e sz (some ⟨b, 0, none⟩) n n cs :: H) w := by
  refine ⟨h.ext, fun x hx => ?_, h.nd, h.rng⟩
  rcases List.mem_cons.1 hx with rfl | hx
  · refine ⟨hl, .inr ⟨b, n, cs.toArray, rfl, Nat.zero_le _, h.blk (List.Mem.head _), Nat.le_refl _, by simp only [maxLen]; omega, by simpa using hl, ?_⟩⟩
    rw [← hl, List.take_of_length_le (by simp)]
  · exact h.all x (List.mem_cons_of_mem _ hx)
/-- The words of a block, as far as they are there. -/
def wsr (l : List UInt8) (i : Nat) : List Value := ws ((List.range i).map (wW l))
theorem wsr_snoc (l : List UInt8) (i : Nat) : wsr l i ++ [w32 (wW l i)] = wsr l (i + 1) := by unfold wsr ws; rw [List.range_succ]; simp
theorem wsr_get {l : List UInt8} {i j : Nat} (h : j < i) : (wsr l i)[j]? = some (w32 (wW l j)) := by unfold wsr ws; simp [h]
theorem wsr_len (l : List UInt8) (i : Nat) : (wsr l i).length = i := by unfold wsr ws; simp
theorem ws_len (l : List UInt32) : (ws l).length = l.length := by unfold ws; rw [List.length_map]
theorem ws_snoc (l : List UInt32) (x : UInt32) : ws l ++ [w32 x] = ws (l ++ [x]) := by simp [ws]
def sumsL (s v : S8) (i : Nat) : List UInt32 := (List.range i).map fun j => s.l.getD j 0 + v.l.getD j 0
theorem sumsL_snoc (s v : S8) (i : Nat) : sumsL s v i ++ [s.l.getD i 0 + v.l.getD i 0] = sumsL s v (i + 1) := by unfold sumsL; rw [List.range_succ]; simp
theorem sumsL_8 (s v : S8) : sumsL s v 8 = (s.add v).l := rfl
theorem sumsL_len (s v : S8) (i : Nat) : (sumsL s v i).length = i := by unfold sumsL; simp
theorem rot_or (x : UInt32) (n : Nat) : x >>> UInt32.ofNat n ||| x <<< UInt32.ofNat (32 - n) = rot x n := by unfold rot; rw [UInt32.or_comm]
theorem mix2 (x : UInt32) (a b : Nat) : mixW x [a, b] = rot x a ^^^ rot x b := by
  show (0 ^^^ rot x a) ^^^ rot x b = _
  rw [UInt32.zero_xor]
theorem mix3 (x : UInt32) (a b c : Nat) : mixW x [a, b, c] = rot x a ^^^ rot x b ^^^ rot x c := by
  show ((0 ^^^ rot x a) ^^^ rot x b) ^^^ rot x c = _
  rw [UInt32.zero_xor]
attribute [local irreducible] WC WL WX POp Then Again Fn NX W1 WA WO QL RP RA Yld LoopAt HC HL HX HN H1 HA HO HQ HB HP A.blk A.grow A.rd A.obj A.mp AgainH CutH
theorem rotated_fn (x : UInt32) (n : Nat) (h0 : 0 < n) (h : n < 32) (w : World) : Fn Tryz.prog 94 #[w32 x, zv (n : Int)] w fun v w' => v = w32 (rot x n) ∧ Ext w w' := by
  have e : (32 : Int) - (n : Int) = ((32 - n : Nat) : Int) := by omega
  refine enterH (l := [_, _]) rfl Tryz.ntmps94 rfl ?_
  refine hwDH ?_
  refine HC.quietS [(some 5, [0], []), (some 6, [1], []), (some 7, [5, 6], [0, 1]), (some 8, [0], []), (some 9, [1], []), (some 10, [9], [4]), (some 11, [8, 10], [3, 5]), (some 12, [7, 11], [2, 6]), (some 4, [12], [7, 0, 1, 2, 3, 4, 5, 6, 7])] (by kernel_rfl) (by kernel_rfl) (by kernel_rfl) ?_
  refine HQ.pa ?_ (POp.move rfl)
  refine HQ.pa ?_ (POp.move rfl)
  refine HQ.pa ?_ (POp.shr32 (s := n) rfl rfl rfl h)
  refine HQ.pa ?_ (POp.move rfl)
  refine HQ.pa ?_ (POp.move rfl)
  refine HQ.pa ?_ (POp.sub rfl rfl (by omega) (by omega))
  rw [e]
  refine HQ.pa ?_ (POp.shl32 (s := 32 - n) rfl rfl rfl (by omega))
  repeat' (first | refine HQ.pa ?_ | refine HQ.ga rfl ?_ | refine HQ.na rfl ?_ | refine HQ.nu rfl ?_ | refine HQ.ldb rfl memA rfl rfl ?_)
  rw [rot_or]
  refine HQ.nil ?_
  refine hwDH ?_
  exact HX.ret1 rfl rfl fun w' hM => ⟨rfl, hM.ext⟩
attribute [local irreducible] kL
set_option maxRecDepth 100000 in
theorem constants_fn (w : World) : Fn Tryz.prog 95 #[] w fun v w' => ∃ b : Nat, True ∧ v = .slice (some ⟨b, 0, none⟩) 64 64 ∧ Mm w [A.blk b (ws kL) 85] w' := by
  refine enterH (l := []) rfl Tryz.ntmps95 rfl ?_
  refine hwDH ?_
  refine HL.one (H1.lit (cs := ws kL) rfl rfl (by kernel_rfl) rfl rfl rfl (fun b => ?_))
  refine hwDH ?_
  exact HX.ret1 rfl rfl fun w' hM => ⟨b, trivial, rfl, hM⟩
end Go.Sx
/- Chapter 2, the reference: what a block does to a state: the walk. -/
namespace Go.Sx
open Go Go.Proofs Go.RowKit
attribute [local irreducible] WC WL WX POp Then Again Fn NX W1 WA WO QL RP RA Yld LoopAt HC HL HX HN H1 HA HO HQ HB HP A.blk A.grow A.rd A.obj A.mp AgainH CutH
attribute [local irreducible] kL mixW wsr
set_option maxRecDepth 100000 in
set_option maxHeartbeats 4000000 in
theorem block_fn {bh oh ch bb off c : Nat} (s : S8) (l : List UInt8) (hl : l.length = 64) (w : World) (hr : Rd w (.slice (some ⟨bb, off, none⟩) 64 c) (ub l)) (hh : Rd w (.slice (some ⟨bh, oh, none⟩) 8 ch) (ws s.l)) :
    Fn Tryz.prog 49 #[.slice (some ⟨bh, oh, none⟩) 8 ch, .slice (some ⟨bb, off, none⟩) 64 c] w fun v w' => ∃ z : Nat × Nat, True ∧ v = .slice (some ⟨z.1, 0, none⟩) 8 z.2 ∧ Mm w [A.grow 85 1 (some ⟨z.1, 0, none⟩) z.2 8 (ws (comp s l).l)] w' := by
  refine enterH (l := [_, _]) rfl Tryz.ntmps49 rfl ?_
  refine hbDH ?_
  repeat refine HC.seq ?_
  refine HC.cut (α := Option Addr × Nat) (fun z => [(0, .slice (some ⟨bh, oh, none⟩) 8 ch), (5, .slice z.1 16 z.2)]) (fun z => [A.grow 85 1 z.1 z.2 16 (wsr l 16)]) (fun _ => True) ?_ ?_
  · refine HC.block ?_
    refine HC.grow0 85 1 ?_
    refine HC.loop (α := Nat × Option Addr × Nat) (fun z => [(0, .slice (some ⟨bh, oh, none⟩) 8 ch), (1, .slice (some ⟨bb, off, none⟩) 64 c), (5, .slice z.2.1 z.1 z.2.2), (6, zv (z.1 : Int))]) (fun z => [A.grow 85 1 z.2.1 z.2.2 z.1 (wsr l z.1)]) (fun z => z.1 ≤ 16) (fun z => 16 - z.1) (0, none, 0) (Nat.zero_le _) esA (by show Hs _ [A.grow 85 1 none 0 0 (wsr l 0)]; unfold wsr; exact Hs.refl _) ?_
    rintro ⟨i, a1, c1⟩ hi
    dsimp only at hi ⊢
    by_cases hlt : i < 16
    · have h0 := ub_at hr (i := 4 * i) (by omega)
      have h1 := ub_at hr (i := 4 * i + 1) (by omega)
      have h2 := ub_at hr (i := 4 * i + 2) (by omega)
      have h3 := ub_at hr (i := 4 * i + 3) (by omega)
      have hset := wsr_snoc l i
      rw [wW_lo hlt] at hset
      unfold wordAt bt at hset
      refine hwDH ?_
      refine HC.anyC ([(⟨bb, off + 4 * i, none⟩, b8 (l.getD (4 * i) 0)), (⟨bb, off + (4 * i + 1), none⟩, b8 (l.getD (4 * i + 1) 0)), (⟨bb, off + (4 * i + 2), none⟩, b8 (l.getD (4 * i + 2) 0)), (⟨bb, off + (4 * i + 3), none⟩, b8 (l.getD (4 * i + 3) 0))]) rfl ?_
      refine HB.pa 0 rfl ?_
      refine HB.pa 1 rfl ?_
      refine HB.pa 2 rfl ?_
      refine HB.pa 3 rfl ?_
      refine HB.pa 4 rfl ?_ (POp.index_slice (o := off + 4 * i) rfl rfl (by omega) (by omega) (by omega))
      refine HB.ld 5 rfl rfl memD ?_
      refine HB.pa 6 rfl ?_
      refine HB.pa 7 rfl ?_
      refine HB.pa 8 rfl ?_
      refine HB.pa 9 rfl ?_
      refine HB.pa 10 rfl ?_
      refine HB.pa 11 rfl ?_
      refine HB.pa 12 rfl ?_ (POp.index_slice (o := off + (4 * i + 1)) rfl rfl (by omega) (by omega) (by omega))
      refine HB.ld 13 rfl rfl memD ?_
      refine HB.pa 14 rfl ?_
      refine HB.pa 15 rfl ?_
      refine HB.pa 16 rfl ?_
      refine HB.pa 17 rfl ?_
      refine HB.pa 18 rfl ?_
      refine HB.pa 19 rfl ?_
      refine HB.pa 20 rfl ?_
      refine HB.pa 21 rfl ?_ (POp.index_slice (o := off + (4 * i + 2)) rfl rfl (by omega) (by omega) (by omega))
      refine HB.ld 22 rfl rfl memD ?_
      refine HB.pa 23 rfl ?_
      refine HB.pa 24 rfl ?_
      refine HB.pa 25 rfl ?_
      refine HB.pa 26 rfl ?_
      refine HB.pa 27 rfl ?_
      refine HB.pa 28 rfl ?_
      refine HB.pa 29 rfl ?_
      refine HB.pa 30 rfl ?_ (POp.index_slice (o := off + (4 * i + 3)) rfl rfl (by omega) (by omega) (by omega))
      refine HB.ld 31 rfl rfl memD ?_
      refine HB.pa 32 rfl ?_
      refine HB.pa 33 rfl ?_
      refine HB.all (by (exact Keep.base h0 (Keep.base h1 (Keep.base h2 (Keep.base h3 Keep.nil))))) [34] (by kernel_rfl) rfl ⟨⟨_, rfl, ?_⟩, trivial⟩
      refine HP.one ?_
      refine H1.lit (cs := [w32 (bt l (4 * i) <<< UInt32.ofNat 24 ||| bt l (4 * i + 1) <<< UInt32.ofNat 16 ||| bt l (4 * i + 2) <<< UInt32.ofNat 8 ||| bt l (4 * i + 3))]) rfl rfl rfl rfl rfl rfl (fun b9 => ?_)
      apply HB.fold
      refine HB.all (by (exact Keep.base h0 (Keep.base h1 (Keep.base h2 (Keep.base h3 Keep.nil))))) [35] (by kernel_rfl) rfl ⟨⟨_, rfl, ?_⟩, trivial⟩
      refine HP.one ?_
      refine H1.app1 (u := w32 (bt l (4 * i) <<< UInt32.ofNat 24 ||| bt l (4 * i + 1) <<< UInt32.ofNat 16 ||| bt l (4 * i + 2) <<< UInt32.ofNat 8 ||| bt l (4 * i + 3))) rfl rfl (fun _ _ => by first | ((repeat (first | with_reducible exact Rpl.here | with_reducible apply Rpl.there)); done) | (repeat (first | exact Rpl.here | apply Rpl.there))) memA rfl rfl (by omega) rfl rfl (fun a' c' => ?_)
      unfold bt
      rw [hset]
      apply HB.fold
      refine HB.pa 36 rfl ?_
      refine HB.done (by (exact Keep.base h0 (Keep.base h1 (Keep.base h2 (Keep.base h3 Keep.nil))))) (by kernel_rfl) ?_
      refine hwDH ?_
      exact HX.again (i + 1, some ⟨a', 0, none⟩, c') hlt (by show 16 - (i + 1) < 16 - i; omega) esA (Hs.cons (Pick.there Pick.here) (Hs.nil _))
    · obtain rfl : i = 16 := by omega
      refine hwDH ?_
      exact HX.cut (a1, c1) trivial esA (Hs.refl _)
  rintro ⟨a1, c1⟩ -
  dsimp only
  repeat refine HC.seq ?_
  refine hbDH ?_
  repeat refine HC.seq ?_
  refine HC.cut (α := Option Addr × Nat) (fun z => [(0, .slice (some ⟨bh, oh, none⟩) 8 ch), (5, .slice z.1 64 z.2)]) (fun z => [A.grow 85 1 z.1 z.2 64 (wsr l 64)]) (fun _ => True) ?_ ?_
  · refine HC.block ?_
    refine HC.loop (α := Nat × Option Addr × Nat) (fun z => [(0, .slice (some ⟨bh, oh, none⟩) 8 ch), (5, .slice z.2.1 z.1 z.2.2), (7, zv (z.1 : Int))]) (fun z => [A.grow 85 1 z.2.1 z.2.2 z.1 (wsr l z.1)]) (fun z => 16 ≤ z.1 ∧ z.1 ≤ 64) (fun z => 64 - z.1) (16, a1, c1) ⟨Nat.le_refl _, by show 16 ≤ 64; decide⟩ esA (Hs.refl _) ?_
    rintro ⟨i, a2, c2⟩ ⟨hi0, hi⟩
    dsimp only at hi0 hi ⊢
    by_cases hlt : i < 64
    · refine HC.openg (e := 85) (sz := 1) (a := a2) (c := c2) (n := i) (xs := wsr l i) memA (by omega) ?_
      rintro g2 rfl
      have g2' := wsr_get (l := l) (i := i) (j := i - 2) (by omega)
      have g7 := wsr_get (l := l) (i := i) (j := i - 7) (by omega)
      have g15 := wsr_get (l := l) (i := i) (j := i - 15) (by omega)
      have g16 := wsr_get (l := l) (i := i) (j := i - 16) (by omega)
      have hset := wsr_snoc l i
      rw [wW_hi (by omega), mix2, mix2] at hset
      have e2 : ((i : Int) - 2).toNat = i - 2 := by omega
      have e15 : ((i : Int) - 15).toNat = i - 15 := by omega
      generalize hx2 : wW l (i - 2) = x2 at g2' hset
      generalize hx7 : wW l (i - 7) = x7 at g7 hset
      generalize hx15 : wW l (i - 15) = x15 at g15 hset
      generalize hx16 : wW l (i - 16) = x16 at g16 hset
      refine hwDH ?_
      refine HC.quietS [(some 63, [5], []), (some 64, [7], []), (some 65, [64], [1]), (some 66, [63, 65], [0, 2]), (some 67, [66], [3]), (some 68, [67], [4]), (some 69, [5], []), (some 70, [7], []), (some 71, [70], [7]), (some 72, [69, 71], [6, 8]), (some 73, [72], [9]), (some 74, [73], [10, 5]), (some 75, [68, 74], [5, 11]), (some 76, [5], []), (some 77, [7], []), (some 78, [77], [14]), (some 79, [76, 78], [13, 15]), (some 80, [79], [16]), (some 81, [80], [17]), (some 82, [75, 81], [12, 18]), (some 8, [82], [19, 11, 0, 1, 2, 3, 4, 5, 6, 7, 8, 9, 10, 11, 12, 13, 14, 15, 16, 17, 18, 19])] (by kernel_rfl) (by kernel_rfl) (by kernel_rfl) ?_
      repeat' (first | refine HQ.pa ?_ | refine HQ.ga rfl ?_ | refine HQ.na rfl ?_ | refine HQ.nu rfl ?_ | refine HQ.ldb rfl memA rfl rfl ?_)
      rw [e15]
      refine HQ.ld rfl (fun w' hM => ownsRow_cell (hM.own memA) g15) rfl ?_
      repeat' (first | refine HQ.pa ?_ | refine HQ.ga rfl ?_ | refine HQ.na rfl ?_ | refine HQ.nu rfl ?_ | refine HQ.ldb rfl memA rfl rfl ?_)
      refine HQ.call (vs := [_, zv ((7 : Nat) : Int)]) rfl rfl (fun w' _ => rotated_fn x15 7 (by decide) (by decide) w') ?_
      repeat' (first | refine HQ.pa ?_ | refine HQ.ga rfl ?_ | refine HQ.na rfl ?_ | refine HQ.nu rfl ?_ | refine HQ.ldb rfl memA rfl rfl ?_)
      rw [e15]
      refine HQ.ld rfl (fun w' hM => ownsRow_cell (hM.own memA) g15) rfl ?_
      repeat' (first | refine HQ.pa ?_ | refine HQ.ga rfl ?_ | refine HQ.na rfl ?_ | refine HQ.nu rfl ?_ | refine HQ.ldb rfl memA rfl rfl ?_)
      refine HQ.call (vs := [_, zv ((18 : Nat) : Int)]) rfl rfl (fun w' _ => rotated_fn x15 18 (by decide) (by decide) w') ?_
      repeat' (first | refine HQ.pa ?_ | refine HQ.ga rfl ?_ | refine HQ.na rfl ?_ | refine HQ.nu rfl ?_ | refine HQ.ldb rfl memA rfl rfl ?_)
      rw [e15]
      refine HQ.ld rfl (fun w' hM => ownsRow_cell (hM.own memA) g15) rfl ?_
      repeat' (first | refine HQ.pa ?_ | refine HQ.ga rfl ?_ | refine HQ.na rfl ?_ | refine HQ.nu rfl ?_ | refine HQ.ldb rfl memA rfl rfl ?_)
      refine HQ.nil ?_
      refine hwDH ?_
      refine HC.quietS [(some 83, [5], []), (some 84, [7], []), (some 85, [84], [1]), (some 86, [83, 85], [0, 2]), (some 87, [86], [3]), (some 88, [87], [4]), (some 89, [5], []), (some 90, [7], []), (some 91, [90], [7]), (some 92, [89, 91], [6, 8]), (some 93, [92], [9]), (some 94, [93], [10, 5]), (some 95, [88, 94], [5, 11]), (some 96, [5], []), (some 97, [7], []), (some 98, [97], [14]), (some 99, [96, 98], [13, 15]), (some 100, [99], [16]), (some 101, [100], [17]), (some 102, [95, 101], [12, 18]), (some 9, [102], [19, 11, 0, 1, 2, 3, 4, 5, 6, 7, 8, 9, 10, 11, 12, 13, 14, 15, 16, 17, 18, 19])] (by kernel_rfl) (by kernel_rfl) (by kernel_rfl) ?_
      repeat' (first | refine HQ.pa ?_ | refine HQ.ga rfl ?_ | refine HQ.na rfl ?_ | refine HQ.nu rfl ?_ | refine HQ.ldb rfl memA rfl rfl ?_)
      rw [e2]
      refine HQ.ld rfl (fun w' hM => ownsRow_cell (hM.own memA) g2') rfl ?_
      repeat' (first | refine HQ.pa ?_ | refine HQ.ga rfl ?_ | refine HQ.na rfl ?_ | refine HQ.nu rfl ?_ | refine HQ.ldb rfl memA rfl rfl ?_)
      refine HQ.call (vs := [_, zv ((17 : Nat) : Int)]) rfl rfl (fun w' _ => rotated_fn x2 17 (by decide) (by decide) w') ?_
      repeat' (first | refine HQ.pa ?_ | refine HQ.ga rfl ?_ | refine HQ.na rfl ?_ | refine HQ.nu rfl ?_ | refine HQ.ldb rfl memA rfl rfl ?_)
      rw [e2]
      refine HQ.ld rfl (fun w' hM => ownsRow_cell (hM.own memA) g2') rfl ?_
      repeat' (first | refine HQ.pa ?_ | refine HQ.ga rfl ?_ | refine HQ.na rfl ?_ | refine HQ.nu rfl ?_ | refine HQ.ldb rfl memA rfl rfl ?_)
      refine HQ.call (vs := [_, zv ((19 : Nat) : Int)]) rfl rfl (fun w' _ => rotated_fn x2 19 (by decide) (by decide) w') ?_
      repeat' (first | refine HQ.pa ?_ | refine HQ.ga rfl ?_ | refine HQ.na rfl ?_ | refine HQ.nu rfl ?_ | refine HQ.ldb rfl memA rfl rfl ?_)
      rw [e2]
      refine HQ.ld rfl (fun w' hM => ownsRow_cell (hM.own memA) g2') rfl ?_
      repeat' (first | refine HQ.pa ?_ | refine HQ.ga rfl ?_ | refine HQ.na rfl ?_ | refine HQ.nu rfl ?_ | refine HQ.ldb rfl memA rfl rfl ?_)
      refine HQ.nil ?_
      refine hwDH ?_
      refine HC.sub [(0, .slice (some ⟨bh, oh, none⟩) 8 ch), (5, .slice (some ⟨g2, 0, none⟩) i c2), (7, zv (i : Int)), (8, w32 (rot x15 7 ^^^ rot x15 18 ^^^ x15 >>> UInt32.ofNat 3)), (9, w32 (rot x2 17 ^^^ rot x2 19 ^^^ x2 >>> UInt32.ofNat 10))] [A.grow 85 1 (some ⟨g2, 0, none⟩) c2 i (wsr l i)] ?_ esA (Hs.refl _)
      have e16 : ((i : Int) - 16).toNat = i - 16 := by omega
      have e7 : ((i : Int) - 7).toNat = i - 7 := by omega
      obtain ⟨X, hX⟩ : ∃ X, X = rot x15 7 ^^^ rot x15 18 ^^^ x15 >>> UInt32.ofNat 3 := ⟨_, rfl⟩
      obtain ⟨Y, hY⟩ : ∃ Y, Y = rot x2 17 ^^^ rot x2 19 ^^^ x2 >>> UInt32.ofNat 10 := ⟨_, rfl⟩
      rw [← hX, ← hY] at hset ⊢
      refine HC.any rfl ?_
      refine HA.pa 0 rfl ?_
      refine HA.pa 1 rfl ?_
      refine HA.pa 2 rfl ?_
      refine HA.pa 3 rfl ?_
      refine HA.pa 4 rfl ?_ (POp.index_slice (o := i - 16) rfl rfl (by omega) (by omega) (by omega))
      refine HA.pa 6 rfl ?_
      refine HA.pa 8 rfl ?_
      refine HA.pa 9 rfl ?_
      refine HA.pa 10 rfl ?_
      refine HA.pa 11 rfl ?_ (POp.index_slice (o := i - 7) rfl rfl (by omega) (by omega) (by omega))
      refine HA.pa 14 rfl ?_
      refine HA.all [5, 12] (by kernel_rfl) rfl ⟨⟨_, rfl, ?_⟩, ⟨_, rfl, ?_⟩, trivial⟩
      · refine HO.one ?_
        refine H1.ldg (b := g2) (c := c2) (n := i) (vs := wsr l i) rfl memA g16 rfl ?_
        apply HA.fold
        refine HA.pa 7 rfl ?_
        refine HA.all [12] (by kernel_rfl) rfl ⟨⟨_, rfl, ?_⟩, trivial⟩
        refine HO.one ?_
        refine H1.ldg (b := g2) (c := c2) (n := i) (vs := wsr l i) rfl memA g7 rfl ?_
        apply HA.fold
        refine HA.pa 13 rfl ?_
        refine HA.pa 15 rfl ?_
        refine HA.all [16] (by kernel_rfl) rfl ⟨⟨_, rfl, ?_⟩, trivial⟩
        refine HO.one ?_
        refine H1.lit (cs := [w32 (x16 + X + x7 + Y)]) rfl rfl rfl rfl rfl rfl (fun b9 => ?_)
        apply HA.fold
        refine HA.all [17] (by kernel_rfl) rfl ⟨⟨_, rfl, ?_⟩, trivial⟩
        refine HO.one ?_
        refine H1.app1 (u := w32 (x16 + X + x7 + Y)) rfl rfl (fun _ _ => by first | ((repeat (first | with_reducible exact Rpl.here | with_reducible apply Rpl.there)); done) | (repeat (first | exact Rpl.here | apply Rpl.there))) memA rfl rfl (by omega) rfl rfl (fun a' c' => ?_)
        rw [hset]
        apply HA.fold
        refine HA.pa 18 rfl ?_
        refine HA.done (by kernel_rfl) ?_
        refine hwDH ?_
        exact HX.again (i + 1, some ⟨a', 0, none⟩, c') ⟨by show 16 ≤ i + 1; omega, hlt⟩ (by show 64 - (i + 1) < 64 - i; omega) esA (Hs.cons (Pick.there Pick.here) (Hs.nil _))
      · refine HO.one ?_
        refine H1.ldg (b := g2) (c := c2) (n := i) (vs := wsr l i) rfl memA g7 rfl ?_
        apply HA.fold
        refine HA.all [5] (by kernel_rfl) rfl ⟨⟨_, rfl, ?_⟩, trivial⟩
        refine HO.one ?_
        refine H1.ldg (b := g2) (c := c2) (n := i) (vs := wsr l i) rfl memA g16 rfl ?_
        apply HA.fold
        refine HA.pa 7 rfl ?_
        refine HA.pa 13 rfl ?_
        refine HA.pa 15 rfl ?_
        refine HA.all [16] (by kernel_rfl) rfl ⟨⟨_, rfl, ?_⟩, trivial⟩
        refine HO.one ?_
        refine H1.lit (cs := [w32 (x16 + X + x7 + Y)]) rfl rfl rfl rfl rfl rfl (fun b9 => ?_)
        apply HA.fold
        refine HA.all [17] (by kernel_rfl) rfl ⟨⟨_, rfl, ?_⟩, trivial⟩
        refine HO.one ?_
        refine H1.app1 (u := w32 (x16 + X + x7 + Y)) rfl rfl (fun _ _ => by first | ((repeat (first | with_reducible exact Rpl.here | with_reducible apply Rpl.there)); done) | (repeat (first | exact Rpl.here | apply Rpl.there))) memA rfl rfl (by omega) rfl rfl (fun a' c' => ?_)
        rw [hset]
        apply HA.fold
        refine HA.pa 18 rfl ?_
        refine HA.done (by kernel_rfl) ?_
        refine hwDH ?_
        exact HX.again (i + 1, some ⟨a', 0, none⟩, c') ⟨by show 16 ≤ i + 1; omega, hlt⟩ (by show 64 - (i + 1) < 64 - i; omega) esA (Hs.cons (Pick.there Pick.here) (Hs.nil _))
    · obtain rfl : i = 64 := by omega
      refine hwDH ?_
      exact HX.cut (a2, c2) trivial esA (Hs.refl _)
  rintro ⟨a2, c2⟩ -
  dsimp only
  refine HC.openg (e := 85) (sz := 1) (a := a2) (c := c2) (n := 64) (xs := wsr l 64) memA (by decide) ?_
  rintro g2 rfl
  refine hwDH ?_
  refine HL.one (H1.callz (vs := []) rfl rfl (fun w' _ => constants_fn w') ?_)
  rintro bk -
  refine hwDH ?_
  refine HL.grow0 85 1 ?_
  refine HL.one (H1.appR (n := 0) (vs := ws s.l) rfl rfl rfl (fun _ _ => by first | ((repeat (first | with_reducible exact Rpl.here | with_reducible apply Rpl.there)); done) | (repeat (first | exact Rpl.here | apply Rpl.there))) (fun w' hM => hh.ext hM.ext) ws_one (by show 0 + 8 ≤ 1000000; decide) (by decide) rfl (.inl rfl) (fun av0 cv0 hav => ?_))
  obtain ⟨gv0, rfl⟩ : ∃ b, av0 = some ⟨b, 0, none⟩ := by
    rcases hav with h | h
    · cases h
    · exact h
  refine hbDH ?_
  repeat refine HC.seq ?_
  refine HC.cut (α := Nat × Nat) (fun z => [(0, .slice (some ⟨bh, oh, none⟩) 8 ch), (11, .slice (some ⟨z.1, 0, none⟩) 8 z.2)]) (fun z => [A.grow 85 1 (some ⟨z.1, 0, none⟩) z.2 8 (ws (rnds l s 64).l)]) (fun _ => True) ?_ ?_
  · refine HC.block ?_
    refine HC.loop (α := Nat × Nat × Nat) (fun z => [(0, .slice (some ⟨bh, oh, none⟩) 8 ch), (5, .slice (some ⟨g2, 0, none⟩) 64 c2), (10, .slice (some ⟨bk, 0, none⟩) 64 64), (11, .slice (some ⟨z.2.1, 0, none⟩) 8 z.2.2), (12, zv (z.1 : Int))])
      (fun z => [A.grow 85 1 (some ⟨z.2.1, 0, none⟩) z.2.2 8 (ws (rnds l s z.1).l), A.blk bk (ws kL) 85, A.grow 85 1 (some ⟨g2, 0, none⟩) c2 64 (wsr l 64)]) (fun z => z.1 ≤ 64) (fun z => 64 - z.1) (0, gv0, cv0) (Nat.zero_le _) esA (Hs.refl _) ?_
    rintro ⟨i, gv, cv⟩ hi
    dsimp only at hi ⊢
    by_cases hlt : i < 64
    · have hk := kW_get hlt
      have hw := wsr_get (l := l) (i := 64) hlt
      have hstep : rnds l s (i + 1) = rnd (kW i) (wW l i) (rnds l s i) := rfl
      generalize rnds l s i = S at hstep
      generalize hkk : kW i = kk at hk hstep
      generalize hww : wW l i = ww at hw hstep
      have hT : S.h + (rot S.e 6 ^^^ rot S.e 11 ^^^ rot S.e 25) + (S.e &&& S.f ^^^ ~~~S.e &&& S.g) + kk + ww = rT kk ww S := by unfold rT; rw [mix3]
      have hU : rot S.a 2 ^^^ rot S.a 13 ^^^ rot S.a 22 = mixW S.a [2, 13, 22] := by rw [mix3]
      refine hwDH ?_
      refine HL.one (H1.ldg (b := gv) (c := cv) (n := 8) (vs := ws S.l) (v := w32 S.a) rfl memA rfl rfl ?_)
      refine hwDH ?_
      refine HL.one (H1.ldg (b := gv) (c := cv) (n := 8) (vs := ws S.l) (v := w32 S.e) rfl memA rfl rfl ?_)
      refine hwDH ?_
      refine HC.quietS [(some 135, [11], []), (some 136, [135], [0]), (some 137, [136], [1]), (some 138, [14], []), (some 139, [138], [3]), (some 140, [14], []), (some 141, [140], [5, 4]), (some 142, [139, 141], [4, 6]), (some 143, [14], []), (some 144, [143], [8, 6]), (some 145, [142, 144], [7, 9]), (some 146, [137, 145], [2, 10]), (some 147, [14], []), (some 148, [11], []), (some 149, [148], [13]), (some 150, [149], [14]), (some 151, [147, 150], [12, 15]), (some 152, [14], []), (some 153, [152], [17]), (some 154, [11], []), (some 155, [154], [19]), (some 156, [155], [20]), (some 157, [153, 156], [18, 21]), (some 158, [151, 157], [16, 22]), (some 159, [146, 158], [11, 23]), (some 160, [10], []), (some 161, [12], []), (some 162, [160, 161], [25, 26]), (some 163, [162], [27]), (some 164, [159, 163], [24, 28]), (some 165, [5], []), (some 166, [12], []), (some 167, [165, 166], [30, 31]), (some 168, [167], [32]), (some 169, [164, 168], [29, 33]), (some 15, [169], [34, 9, 0, 1, 2, 3, 4, 5, 6, 7, 8, 9, 10, 11, 12, 13, 14, 15, 16, 17, 18, 19, 20, 21, 22, 23, 24, 25, 26, 27, 28, 29, 30, 31, 32, 33, 34])] (by kernel_rfl) (by kernel_rfl) (by kernel_rfl) ?_
      repeat' (first | refine HQ.pa ?_ | refine HQ.ga rfl ?_ | refine HQ.na rfl ?_ | refine HQ.nu rfl ?_ | refine HQ.ldb rfl memA rfl rfl ?_)
      refine HQ.ld rfl (fun w' hM => ownsRow_cell (hM.own (.head _)) (i := 7) rfl) rfl ?_
      repeat' (first | refine HQ.pa ?_ | refine HQ.ga rfl ?_ | refine HQ.na rfl ?_ | refine HQ.nu rfl ?_ | refine HQ.ldb rfl memA rfl rfl ?_)
      refine HQ.call (vs := [_, zv ((6 : Nat) : Int)]) rfl rfl (fun w' _ => rotated_fn S.e 6 (by decide) (by decide) w') ?_
      repeat' (first | refine HQ.pa ?_ | refine HQ.ga rfl ?_ | refine HQ.na rfl ?_ | refine HQ.nu rfl ?_ | refine HQ.ldb rfl memA rfl rfl ?_)
      refine HQ.call (vs := [_, zv ((11 : Nat) : Int)]) rfl rfl (fun w' _ => rotated_fn S.e 11 (by decide) (by decide) w') ?_
      repeat' (first | refine HQ.pa ?_ | refine HQ.ga rfl ?_ | refine HQ.na rfl ?_ | refine HQ.nu rfl ?_ | refine HQ.ldb rfl memA rfl rfl ?_)
      refine HQ.call (vs := [_, zv ((25 : Nat) : Int)]) rfl rfl (fun w' _ => rotated_fn S.e 25 (by decide) (by decide) w') ?_
      repeat' (first | refine HQ.pa ?_ | refine HQ.ga rfl ?_ | refine HQ.na rfl ?_ | refine HQ.nu rfl ?_ | refine HQ.ldb rfl memA rfl rfl ?_)
      refine HQ.ld rfl (fun w' hM => ownsRow_cell (hM.own (.head _)) (i := 5) rfl) rfl ?_
      repeat' (first | refine HQ.pa ?_ | refine HQ.ga rfl ?_ | refine HQ.na rfl ?_ | refine HQ.nu rfl ?_ | refine HQ.ldb rfl memA rfl rfl ?_)
      refine HQ.ld rfl (fun w' hM => ownsRow_cell (hM.own (.head _)) (i := 6) rfl) rfl ?_
      repeat' (first | refine HQ.pa ?_ | refine HQ.ga rfl ?_ | refine HQ.na rfl ?_ | refine HQ.nu rfl ?_ | refine HQ.ldb rfl memA rfl rfl ?_)
      refine HQ.ldb rfl (.tail _ (.head _)) hk rfl ?_
      repeat' (first | refine HQ.pa ?_ | refine HQ.ga rfl ?_ | refine HQ.na rfl ?_ | refine HQ.nu rfl ?_ | refine HQ.ldb rfl memA rfl rfl ?_)
      refine HQ.ld rfl (fun w' hM => ownsRow_cell (hM.own (.tail _ (.tail _ (.head _)))) hw) rfl ?_
      repeat' (first | refine HQ.pa ?_ | refine HQ.ga rfl ?_ | refine HQ.na rfl ?_ | refine HQ.nu rfl ?_ | refine HQ.ldb rfl memA rfl rfl ?_)
      refine HQ.nil ?_
      rw [hT]
      refine hwDH ?_
      refine HC.quietS [(some 170, [13], []), (some 171, [170], [0]), (some 172, [13], []), (some 173, [172], [2, 1]), (some 174, [171, 173], [1, 3]), (some 175, [13], []), (some 176, [175], [5, 3]), (some 177, [174, 176], [4, 6]), (some 178, [13], []), (some 179, [11], []), (some 180, [179], [9]), (some 181, [180], [10]), (some 182, [178, 181], [8, 11]), (some 183, [13], []), (some 184, [11], []), (some 185, [184], [14]), (some 186, [185], [15]), (some 187, [183, 186], [13, 16]), (some 188, [182, 187], [12, 17]), (some 189, [11], []), (some 190, [189], [19]), (some 191, [190], [20]), (some 192, [11], []), (some 193, [192], [22]), (some 194, [193], [23]), (some 195, [191, 194], [21, 24]), (some 196, [188, 195], [18, 25]), (some 197, [177, 196], [7, 26]), (some 16, [197], [27, 6, 0, 1, 2, 3, 4, 5, 6, 7, 8, 9, 10, 11, 12, 13, 14, 15, 16, 17, 18, 19, 20, 21, 22, 23, 24, 25, 26, 27])] (by kernel_rfl) (by kernel_rfl) (by kernel_rfl) ?_
      repeat' (first | refine HQ.pa ?_ | refine HQ.ga rfl ?_ | refine HQ.na rfl ?_ | refine HQ.nu rfl ?_ | refine HQ.ldb rfl memA rfl rfl ?_)
      refine HQ.call (vs := [_, zv ((2 : Nat) : Int)]) rfl rfl (fun w' _ => rotated_fn S.a 2 (by decide) (by decide) w') ?_
      repeat' (first | refine HQ.pa ?_ | refine HQ.ga rfl ?_ | refine HQ.na rfl ?_ | refine HQ.nu rfl ?_ | refine HQ.ldb rfl memA rfl rfl ?_)
      refine HQ.call (vs := [_, zv ((13 : Nat) : Int)]) rfl rfl (fun w' _ => rotated_fn S.a 13 (by decide) (by decide) w') ?_
      repeat' (first | refine HQ.pa ?_ | refine HQ.ga rfl ?_ | refine HQ.na rfl ?_ | refine HQ.nu rfl ?_ | refine HQ.ldb rfl memA rfl rfl ?_)
      refine HQ.call (vs := [_, zv ((22 : Nat) : Int)]) rfl rfl (fun w' _ => rotated_fn S.a 22 (by decide) (by decide) w') ?_
      repeat' (first | refine HQ.pa ?_ | refine HQ.ga rfl ?_ | refine HQ.na rfl ?_ | refine HQ.nu rfl ?_ | refine HQ.ldb rfl memA rfl rfl ?_)
      refine HQ.ld rfl (fun w' hM => ownsRow_cell (hM.own (.head _)) (i := 1) rfl) rfl ?_
      repeat' (first | refine HQ.pa ?_ | refine HQ.ga rfl ?_ | refine HQ.na rfl ?_ | refine HQ.nu rfl ?_ | refine HQ.ldb rfl memA rfl rfl ?_)
      refine HQ.ld rfl (fun w' hM => ownsRow_cell (hM.own (.head _)) (i := 2) rfl) rfl ?_
      repeat' (first | refine HQ.pa ?_ | refine HQ.ga rfl ?_ | refine HQ.na rfl ?_ | refine HQ.nu rfl ?_ | refine HQ.ldb rfl memA rfl rfl ?_)
      refine HQ.ld rfl (fun w' hM => ownsRow_cell (hM.own (.head _)) (i := 1) rfl) rfl ?_
      repeat' (first | refine HQ.pa ?_ | refine HQ.ga rfl ?_ | refine HQ.na rfl ?_ | refine HQ.nu rfl ?_ | refine HQ.ldb rfl memA rfl rfl ?_)
      refine HQ.ld rfl (fun w' hM => ownsRow_cell (hM.own (.head _)) (i := 2) rfl) rfl ?_
      repeat' (first | refine HQ.pa ?_ | refine HQ.ga rfl ?_ | refine HQ.na rfl ?_ | refine HQ.nu rfl ?_ | refine HQ.ldb rfl memA rfl rfl ?_)
      refine HQ.nil ?_
      refine hwDH ?_
      have hU2 : (rot S.a 2 ^^^ rot S.a 13 ^^^ rot S.a 22) + (S.a &&& S.b ^^^ S.a &&& S.c ^^^ S.b &&& S.c) = rU S := by unfold rU; rw [mix3]
      rw [hU2]
      refine HC.sub [(0, .slice (some ⟨bh, oh, none⟩) 8 ch), (5, .slice (some ⟨g2, 0, none⟩) 64 c2), (10, .slice (some ⟨bk, 0, none⟩) 64 64), (11, .slice (some ⟨gv, 0, none⟩) 8 cv), (12, zv (i : Int)), (13, w32 S.a), (14, w32 S.e), (15, w32 (rT kk ww S)), (16, w32 (rU S))] [A.grow 85 1 (some ⟨gv, 0, none⟩) cv 8 (ws S.l), A.blk bk (ws kL) 85, A.grow 85 1 (some ⟨g2, 0, none⟩) c2 64 (wsr l 64)] ?_ esA (Hs.refl _)
      obtain ⟨T, hTT⟩ : ∃ T, T = rT kk ww S := ⟨_, rfl⟩
      obtain ⟨U, hUU⟩ : ∃ U, U = rU S := ⟨_, rfl⟩
      have hnew : ws (rnd kk ww S).l = [w32 (T + U), w32 S.a, w32 S.b, w32 S.c, w32 (S.d + T), w32 S.e, w32 S.f, w32 S.g] := by rw [hTT, hUU]; rfl
      rw [← hTT, ← hUU]
      refine HC.anyC ([(⟨gv, 1, none⟩, w32 S.b), (⟨gv, 2, none⟩, w32 S.c), (⟨gv, 3, none⟩, w32 S.d), (⟨gv, 5, none⟩, w32 S.f), (⟨gv, 6, none⟩, w32 S.g)]) rfl ?_
      refine HB.pa 0 rfl ?_
      refine HB.pa 1 rfl ?_
      refine HB.pa 2 rfl ?_
      refine HB.pa 3 rfl ?_
      refine HB.pa 4 rfl ?_
      refine HB.pa 5 rfl ?_
      refine HB.ld 6 rfl rfl memD ?_
      refine HB.pa 7 rfl ?_
      refine HB.pa 8 rfl ?_
      refine HB.ld 9 rfl rfl memD ?_
      refine HB.pa 10 rfl ?_
      refine HB.pa 11 rfl ?_
      refine HB.ld 12 rfl rfl memD ?_
      refine HB.pa 13 rfl ?_
      refine HB.pa 14 rfl ?_
      refine HB.pa 15 rfl ?_
      refine HB.pa 16 rfl ?_
      refine HB.pa 17 rfl ?_
      refine HB.ld 18 rfl rfl memD ?_
      refine HB.pa 19 rfl ?_
      refine HB.pa 20 rfl ?_
      refine HB.ld 21 rfl rfl memD ?_
      refine HB.all (by (exact Keep.grow memD rfl (Keep.grow memD rfl (Keep.grow memD rfl (Keep.grow memD rfl (Keep.grow memD rfl Keep.nil)))))) [22] (by kernel_rfl) rfl ⟨⟨_, rfl, ?_⟩, trivial⟩
      refine HP.one ?_
      refine H1.lit (cs := [w32 (T + U), w32 S.a, w32 S.b, w32 S.c, w32 (S.d + T), w32 S.e, w32 S.f, w32 S.g]) rfl rfl rfl rfl rfl rfl (fun b9 => ?_)
      apply HB.fold
      refine HB.pa 23 rfl ?_
      refine HB.done (by (exact Keep.grow memD rfl (Keep.grow memD rfl (Keep.grow memD rfl (Keep.grow memD rfl (Keep.grow memD rfl Keep.nil)))))) (by kernel_rfl) ?_
      refine hwDH ?_
      rw [← hnew]
      refine HX.conv (H2 := A.grow 85 1 (some ⟨b9, 0, none⟩) 8 8 (ws (rnd kk ww S).l) :: _) (fun w h => blkGr h rfl (by decide)) ?_
      exact HX.again (i + 1, b9, 8) hlt (by show 64 - (i + 1) < 64 - i; omega) esA (by dsimp only; rw [hstep]; exact Hs.cons Pick.here (Hs.refl _).skip)
    · obtain rfl : i = 64 := by omega
      refine hwDH ?_
      exact HX.cut (gv, cv) trivial esA (Hs.cons Pick.here (Hs.nil _))
  rintro ⟨gv, cv⟩ -
  dsimp only
  obtain ⟨V, hVd⟩ : ∃ V, V = rnds l s 64 := ⟨_, rfl⟩
  have hcomp : comp s l = s.add V := by rw [hVd]; rfl
  rw [hcomp, ← hVd]
  refine hwDH ?_
  refine HC.grow0 85 1 ?_
  refine HC.loop (α := Nat × Option Addr × Nat) (fun z => [(0, .slice (some ⟨bh, oh, none⟩) 8 ch), (11, .slice (some ⟨gv, 0, none⟩) 8 cv), (17, .slice z.2.1 z.1 z.2.2), (18, zv (z.1 : Int))]) (fun z => [A.grow 85 1 z.2.1 z.2.2 z.1 (ws (sumsL s V z.1)), A.grow 85 1 (some ⟨gv, 0, none⟩) cv 8 (ws V.l)]) (fun z => z.1 ≤ 8) (fun z => 8 - z.1) (0, none, 0) (Nat.zero_le _) esA (Hs.refl _) ?_
  rintro ⟨i, ao, co⟩ hi
  dsimp only at hi ⊢
  by_cases hlt : i < 8
  · have hb := hh.cell (S8.get (s := s) hlt)
    have hv := S8.get (s := V) hlt
    have hsn := sumsL_snoc s V i
    generalize s.l.getD i 0 = x at hb hsn
    generalize V.l.getD i 0 = y at hv hsn
    refine hwDH ?_
    refine HC.anyC ([(⟨bh, oh + i, none⟩, w32 x), (⟨gv, i, none⟩, w32 y)]) rfl ?_
    refine HB.pa 0 rfl ?_
    refine HB.pa 1 rfl ?_
    refine HB.pa 2 rfl ?_
    refine HB.pa 3 rfl ?_
    refine HB.ld 4 rfl rfl memD ?_
    refine HB.pa 5 rfl ?_
    refine HB.pa 6 rfl ?_
    refine HB.pa 7 rfl ?_
    refine HB.ld 8 rfl rfl memD ?_
    refine HB.pa 9 rfl ?_
    refine HB.all (by (exact Keep.base hb (Keep.grow (b := gv) (c := cv) (n := 8) (vs := ws V.l) memD hv Keep.nil))) [10] (by kernel_rfl) rfl ⟨⟨_, rfl, ?_⟩, trivial⟩
    refine HP.one ?_
    refine H1.lit (cs := [w32 (x + y)]) rfl rfl rfl rfl rfl rfl (fun b9 => ?_)
    apply HB.fold
    refine HB.all (by (exact Keep.base hb (Keep.grow (b := gv) (c := cv) (n := 8) (vs := ws V.l) memD hv Keep.nil))) [11] (by kernel_rfl) rfl ⟨⟨_, rfl, ?_⟩, trivial⟩
    refine HP.one ?_
    refine H1.app1 (u := w32 (x + y)) rfl rfl (fun _ _ => by first | ((repeat (first | with_reducible exact Rpl.here | with_reducible apply Rpl.there)); done) | (repeat (first | exact Rpl.here | apply Rpl.there))) memA rfl rfl (by omega) rfl rfl (fun a' c' => ?_)
    rw [ws_snoc, hsn]
    apply HB.fold
    refine HB.pa 12 rfl ?_
    refine HB.done (by (exact Keep.base hb (Keep.grow (b := gv) (c := cv) (n := 8) (vs := ws V.l) memD hv Keep.nil))) (by kernel_rfl) ?_
    refine hwDH ?_
    exact HX.again (i + 1, some ⟨a', 0, none⟩, c') hlt (by show 8 - (i + 1) < 8 - i; omega) esA (Hs.cons (Pick.there Pick.here) (Hs.cons (Pick.there Pick.here) (Hs.nil _)))
  · obtain rfl : i = 8 := by omega
    refine HC.openg (e := 85) (sz := 1) (a := ao) (c := co) (n := 8) (xs := ws (sumsL s V 8)) memA (by decide) ?_
    rintro go rfl
    refine hwDH ?_
    exact HX.ret1 rfl rfl fun w' hM => ⟨(go, co), trivial, rfl, hM.sub (Hs.cons Pick.here (Hs.refl _).skip)⟩
end Go.Sx
/- Chapter 2, the reference: the digest of a string; Chain, Head: the walks. -/
namespace Go.Sx
open Go Go.Proofs Go.RowKit
theorem grow_sub {w : World} {e : TypeId} {b n c off m c2 : Nat} {xs : List Value} (h : w.ownsRow 0 e 1 (.slice (some ⟨b, 0, none⟩) n c) n xs) (hl : xs.length = n) (ho : off + m ≤ n) (hm : m ≤ c2) : Rd w (.slice (some ⟨b, off, none⟩) m c2) ((xs.drop off).take m) := by
  have hlen : ((xs.drop off).take m).length = m := by rw [List.length_take, List.length_drop]; omega
  obtain ⟨hb, -⟩ : b < w.heap.size ∧ True := by
    rcases h.2 with ⟨h1, -⟩ | ⟨g, cap, cur, hv, -, hg, -⟩
    · cases h1
    · cases hv; exact ⟨(Array.getElem?_eq_some_iff.1 hg).1, trivial⟩
  refine ⟨_, _, by rw [hlen], by rw [hlen]; exact hm, .inr ⟨b, off, rfl, hb, fun i u hu => ?_⟩⟩
  have hi : i < m := by
    have := (List.getElem?_eq_some_iff.1 hu).1
    rw [hlen] at this; exact this
  rw [List.getElem?_take_of_lt hi, List.getElem?_drop] at hu
  exact ownsRow_cell h hu
theorem take_b8 {l : List UInt8} {i : Nat} (h : i < l.length) : ub (l.take i) ++ [b8 (l.getD i 0)] = ub (l.take (i + 1)) := by
  have e : l.getD i 0 = l[i] := by simp [h]
  rw [List.take_add_one, List.getElem?_eq_getElem h, ub_app1, e]; rfl
theorem shr_zero (x : UInt32) : x >>> UInt32.ofNat 0 = x := by
  refine UInt32.toNat_inj.1 ?_
  rw [UInt32.toNat_shiftRight]
  simp
def digI (s : S8) (i : Nat) : List UInt8 := (s.l.take i).flatMap by4
theorem digI_snoc (s : S8) {i : Nat} (h : i < 8) : digI s i ++ [(s.l.getD i 0 >>> UInt32.ofNat 24).toUInt8, (s.l.getD i 0 >>> UInt32.ofNat 16).toUInt8, (s.l.getD i 0 >>> UInt32.ofNat 8).toUInt8, (s.l.getD i 0).toUInt8] = digI s (i + 1) := by
  have h8 : i < s.l.length := h
  unfold digI
  rw [List.take_add_one, List.getElem?_eq_getElem h8, List.flatMap_append]
  congr 1
  have e : s.l.getD i 0 = s.l[i] := by simp [h8]
  rw [e]
  show _ = by4 s.l[i] ++ []
  rw [List.append_nil]
  unfold by4
  rw [shr_zero]
theorem digI_len (s : S8) {i : Nat} (h : i ≤ 8) : (digI s i).length = 4 * i := by
  unfold digI
  have : ∀ l : List UInt32, (l.flatMap by4).length = 4 * l.length := by
    intro l
    induction l with
    | nil => rfl
    | cons x l ih => rw [List.flatMap_cons, List.length_append, ih, List.length_cons]; show 4 + _ = _; omega
  rw [this, List.length_take]
  have : s.l.length = 8 := rfl
  omega
theorem digI_8 (s : S8) : digI s 8 = digL s := rfl
theorem ub_app4 (ys zs : List UInt8) : ub ys ++ ub zs = ub (ys ++ zs) := by unfold ub; rw [List.map_append]
theorem HC.capOfG2 {P : Program} {r : Option Nat} {N : Nat} {ds : List Deferred} {Q : Post} {E : Env} {w0 : World} {H : List Atom} {e : TypeId} {co : Code} {n c : Nat} {a : Option Addr} {xs : List Value} (hm : A.grow e 1 a c n xs ∈ H) (h : n ≤ c → HC P r N ds co Q E w0 H) : HC P r N ds co Q E w0 H := fun w hM => by
  refine h ?_ w hM
  rcases (hM.own hm).2 with ⟨h1, rfl⟩ | ⟨g, cap, cur, hv, -, -, hnc, -⟩
  · exact Nat.zero_le _
  · cases hv; exact hnc
attribute [local irreducible] WC WL WX POp Then Again Fn NX W1 WA WO QL RP RA Yld LoopAt HC HL HX HN H1 HA HO HQ HB HP A.blk A.grow A.rd A.obj A.mp AgainH CutH
attribute [local irreducible] shaI shaT
set_option maxHeartbeats 2000000 in
theorem extended_fn (s : ByteArray) (hs : s.size ≤ 900000) (w : World) : Fn Tryz.prog 48 #[.string s] w fun v w' => ∃ z : Nat × Nat, True ∧ v = .slice (some ⟨z.1, 0, none⟩) (shaP s.data.toList).length z.2 ∧ Mm w [A.grow 5 1 (some ⟨z.1, 0, none⟩) z.2 (shaP s.data.toList).length (ub (shaP s.data.toList))] w' := by
  have hlen : s.data.toList.length = s.size := by rw [Array.length_toList]; rfl
  obtain ⟨n, hn⟩ : ∃ n, n = s.size := ⟨_, rfl⟩
  have hz : shaZ n < 64 := by unfold shaZ; omega
  have hP : shaP s.data.toList = s.data.toList ++ [128] ++ List.replicate (shaZ n) 0 ++ (List.range 8).map (shaT n) := by unfold shaP; rw [hlen, hn]
  have hPl := shaP_len s.data.toList
  rw [hlen, ← hn] at hPl
  refine enterH (l := [_]) rfl Tryz.ntmps48 rfl ?_
  refine hwDH ?_
  refine HC.grow0 5 1 ?_
  refine HC.loop (α := Nat × Option Addr × Nat) (fun z => [(0, .string s), (3, .slice z.2.1 z.1 z.2.2), (4, zv (z.1 : Int))]) (fun z => [A.grow 5 1 z.2.1 z.2.2 z.1 (ub (s.data.toList.take z.1))]) (fun z => z.1 ≤ n) (fun z => n - z.1) (0, none, 0) (Nat.zero_le _) esA (Hs.refl _) ?_
  rintro ⟨i, a, c⟩ hi
  dsimp only at hi ⊢
  by_cases hlt : i < n
  · have hlt' : i < s.size := by omega
    have htk := take_b8 (l := s.data.toList) (i := i) (by omega)
    refine hwDH ?_
    refine HL.one (H1.lit (cs := [b8 (s.data.toList.getD i 0)]) rfl rfl rfl rfl rfl rfl (fun b9 => ?_))
    refine hwDH ?_
    refine HL.one (H1.app1 (u := b8 (s.data.toList.getD i 0)) rfl rfl (fun _ _ => by first | ((repeat (first | with_reducible exact Rpl.here | with_reducible apply Rpl.there)); done) | (repeat (first | exact Rpl.here | apply Rpl.there))) memA rfl rfl (by omega) rfl rfl (fun a' c' => ?_))
    rw [htk]
    refine hwDH ?_
    exact HX.again (i + 1, some ⟨a', 0, none⟩, c') hlt (by show n - (i + 1) < n - i; omega) esA (Hs.cons (Pick.there Pick.here) (Hs.nil _))
  have hlt' : ¬ i < s.size := by omega
  obtain rfl : i = n := by omega
  rw [List.take_of_length_le (by omega)]
  refine hwDH ?_
  refine HL.one (H1.lit (cs := [b8 128]) rfl rfl rfl rfl rfl rfl (fun b9 => ?_))
  refine hwDH ?_
  refine HL.one (H1.app1 (u := b8 128) rfl rfl (fun _ _ => by first | ((repeat (first | with_reducible exact Rpl.here | with_reducible apply Rpl.there)); done) | (repeat (first | exact Rpl.here | apply Rpl.there))) memA rfl rfl (by omega) rfl rfl (fun a1 c1 => ?_))
  rw [ub_app1]
  refine hwDH ?_
  refine HC.loop (α := Nat × Nat × Nat) (fun z => [(0, .string s), (3, .slice (some ⟨z.2.1, 0, none⟩) (i + 1 + z.1) z.2.2)]) (fun z => [A.grow 5 1 (some ⟨z.2.1, 0, none⟩) z.2.2 (i + 1 + z.1) (ub (s.data.toList ++ [128] ++ List.replicate z.1 0))]) (fun z => z.1 ≤ shaZ i) (fun z => shaZ i - z.1) (0, a1, c1) (Nat.zero_le _) esA
    (by show Hs _ [A.grow _ 1 _ c1 (i + 1) (ub (s.data.toList ++ [128] ++ []))]; rw [List.append_nil]; exact Hs.cons (Pick.there Pick.here) (Hs.nil _)) ?_
  rintro ⟨j, a2, c2⟩ hj
  dsimp only at hj ⊢
  by_cases hlt2 : j < shaZ i
  · have hne : ¬ (((i + 1 + j : Nat) : Int) % 64 = 56) := by unfold shaZ at hlt2; omega
    refine hwDH ?_
    refine HL.one (H1.lit (cs := [b8 0]) rfl rfl rfl rfl rfl rfl (fun b9 => ?_))
    refine hwDH ?_
    refine HL.one (H1.app1 (u := b8 0) rfl rfl (fun _ _ => by first | ((repeat (first | with_reducible exact Rpl.here | with_reducible apply Rpl.there)); done) | (repeat (first | exact Rpl.here | apply Rpl.there))) memA rfl rfl (by omega) rfl rfl (fun a' c' => ?_))
    rw [ub_app1, rep_snoc]
    refine hwDH ?_
    exact HX.again (j + 1, a', c') hlt2 (by show shaZ i - (j + 1) < shaZ i - j; omega) esA (Hs.cons (Pick.there Pick.here) (Hs.nil _))
  obtain rfl : j = shaZ i := by omega
  have hne : ((i + 1 + shaZ i : Nat) : Int) % 64 = 56 := by unfold shaZ; omega
  refine hwDH ?_
  refine HC.loop (α := Nat × Nat × Nat) (fun z => [(0, .string s), (3, .slice (some ⟨z.2.1, 0, none⟩) (i + 1 + shaZ i + z.1) z.2.2), (5, zv (7 - (z.1 : Int)))]) (fun z => [A.grow 5 1 (some ⟨z.2.1, 0, none⟩) z.2.2 (i + 1 + shaZ i + z.1) (ub (s.data.toList ++ [128] ++ List.replicate (shaZ i) 0 ++ (List.range z.1).map (shaT i)))]) (fun z => z.1 ≤ 8) (fun z => 8 - z.1) (0, a2, c2) (Nat.zero_le _) esA
    (by show Hs _ [A.grow _ 1 _ c2 (i + 1 + shaZ i) (ub (s.data.toList ++ [128] ++ List.replicate (shaZ i) 0 ++ []))]; rw [List.append_nil]; exact Hs.refl _) ?_
  rintro ⟨k, a3, c3⟩ hk
  dsimp only at hk ⊢
  by_cases hlt3 : k < 8
  · have hge : (0 : Int) ≤ 7 - (k : Int) := by omega
    refine hwDH ?_
    rw [← hn]
    refine hwDH ?_
    refine HL.pa ?_ (POp.shr (a := 8 * i) (b := 8 * (7 - k)) rfl rfl (by omega) (by omega) (by omega))
    refine hwDH ?_
    refine HL.one (H1.lit (cs := [b8 (shaT i k)]) rfl rfl (by unfold shaT; rfl) rfl rfl rfl (fun b9 => ?_))
    refine hwDH ?_
    refine HL.one (H1.app1 (u := b8 (shaT i k)) rfl rfl (fun _ _ => by first | ((repeat (first | with_reducible exact Rpl.here | with_reducible apply Rpl.there)); done) | (repeat (first | exact Rpl.here | apply Rpl.there))) memA rfl rfl (by omega) rfl rfl (fun a' c' => ?_))
    rw [ub_app1, rng_snoc]
    refine hwDH ?_
    refine HX.again (k + 1, a', c') hlt3 (by show 8 - (k + 1) < 8 - k; omega) ⟨rfl, rfl, ?_, trivial⟩ (Hs.cons (Pick.there Pick.here) (Hs.nil _))
    show some (zv _) = some (zv _)
    congr 2
    show (7 - (k : Int)) - 1 = 7 - ((k + 1 : Nat) : Int)
    omega
  · obtain rfl : k = 8 := by omega
    have hge : ¬ ((0 : Int) ≤ 7 - ((8 : Nat) : Int)) := by omega
    rw [← hP, show i + 1 + shaZ i + 8 = (shaP s.data.toList).length from by rw [hPl]]
    refine hwDH ?_
    exact HX.ret1 rfl rfl fun w' hM => ⟨(a3, c3), trivial, rfl, hM⟩
attribute [local irreducible] digL
set_option maxHeartbeats 4000000 in
theorem refSum_fn (s : ByteArray) (hs : s.size ≤ 900000) (w : World) : Fn Tryz.prog 17 #[.string s] w fun v w' => v = .string (sumS s) ∧ Ext w w' := by
  have hlen : s.data.toList.length = s.size := by rw [Array.length_toList]; rfl
  have hPl := shaP_len s.data.toList
  have hPm := shaP_mod s.data.toList
  have hz : shaZ s.data.toList.length < 64 := by unfold shaZ; omega
  obtain ⟨nq, hnq⟩ : ∃ nq, nq = (shaP s.data.toList).length / 64 := ⟨_, rfl⟩
  have hq : 64 * nq = (shaP s.data.toList).length := by omega
  have hsum : sumS s = ⟨(digL (sums (shaP s.data.toList) nq)).toArray⟩ := by unfold sumS sumL; rw [hnq]
  rw [hsum]
  refine enterH (l := [_]) rfl Tryz.ntmps17 rfl ?_
  refine hwDH ?_
  refine HL.one (H1.lit (cs := ws shaI.l) rfl rfl (by kernel_rfl) rfl rfl rfl (fun b0 => ?_))
  refine hwDH ?_
  refine HL.one (H1.callz (vs := [.string s]) rfl rfl (fun w' _ => extended_fn s hs w') ?_)
  rintro ⟨gb, cb⟩ -
  dsimp only
  refine hwDH ?_
  have hqb : nq ≤ 15000 := by omega
  generalize hPd : shaP s.data.toList = Pd at hq
  rw [← hq]
  refine HC.conv (H2 := A.grow 85 1 (some ⟨b0, 0, none⟩) 8 8 (ws (sums Pd 0).l) :: [A.grow 5 1 (some ⟨gb, 0, none⟩) cb (64 * nq) (ub Pd)]) (fun w h => blkGr (h.sub (Hs.cons (Pick.there Pick.here) (Hs.refl _))) rfl (by decide)) ?_
  refine HC.loop (α := Nat × Nat × Nat) (fun z => [(3, .slice (some ⟨z.2.1, 0, none⟩) 8 z.2.2), (4, .slice (some ⟨gb, 0, none⟩) (64 * nq) cb), (5, zv ((64 * z.1 : Nat) : Int))]) (fun z => A.grow 85 1 (some ⟨z.2.1, 0, none⟩) z.2.2 8 (ws (sums Pd z.1).l) :: [A.grow 5 1 (some ⟨gb, 0, none⟩) cb (64 * nq) (ub Pd)]) (fun z => z.1 ≤ nq) (fun z => nq - z.1) (0, b0, 8) (Nat.zero_le _) esA (Hs.refl _) ?_
  rintro ⟨q, gh, ch⟩ hqn
  dsimp only at hqn ⊢
  by_cases hlt : q < nq
  · have hstep : sums Pd (q + 1) = comp (sums Pd q) ((Pd.drop (64 * q)).take 64) := rfl
    have hl64 : ((Pd.drop (64 * q)).take 64).length = 64 := by rw [List.length_take, List.length_drop]; omega
    refine HC.capOfG2 (e := 5) (a := some ⟨gb, 0, none⟩) (c := cb) (n := 64 * nq) (xs := ub Pd) memA fun hcb => ?_
    refine HC.capOfG2 (e := 85) (a := some ⟨gh, 0, none⟩) (c := ch) (n := 8) (xs := ws (sums Pd q).l) memA fun hch => ?_
    refine hwDH ?_
    refine HL.pa ?_ (POp.cut_lh rfl rfl rfl (by omega) (by omega) (by omega) (by omega))
    rw [show 0 + ((64 * q : Nat) : Int).toNat * 1 = 64 * q from by omega, show (((64 * q : Nat) : Int) + 64).toNat - ((64 * q : Nat) : Int).toNat = 64 from by omega]
    refine hwDH ?_
    refine HL.one (H1.callz (vs := [_, _]) rfl rfl (fun w' hM => block_fn (sums Pd q) ((Pd.drop (64 * q)).take 64) hl64 w' ?_ ?_) ?_)
    · have := grow_sub (hM.own (e := 5) (sz := 1) (a := some ⟨gb, 0, none⟩) (c := cb) (n := 64 * nq) (xs := ub Pd) memA) (by rw [ub_len, ← hq]) (off := 64 * q) (m := 64) (c2 := cb - ((64 * q : Nat) : Int).toNat) (by omega) (by omega)
      rwa [ub_mid] at this
    · exact Mm.gr (e := 85) (a := some ⟨gh, 0, none⟩) (c := ch) hM (.head _)
    rintro ⟨g2, c2⟩ -
    dsimp only
    rw [← hstep]
    refine hwDH ?_
    exact HX.again (q + 1, g2, c2) hlt (by show nq - (q + 1) < nq - q; omega) esA (Hs.cons Pick.here (Hs.refl _).skip)
  obtain rfl : q = nq := by omega
  generalize hS : sums Pd q = S
  refine hwDH ?_
  refine HC.grow0 5 1 ?_
  refine HC.loop (α := Nat × Option Addr × Nat) (fun z => [(3, .slice (some ⟨gh, 0, none⟩) 8 ch), (6, .slice z.2.1 (4 * z.1) z.2.2), (7, zv (z.1 : Int))]) (fun z => [A.grow 5 1 z.2.1 z.2.2 (4 * z.1) (ub (digI S z.1)), A.grow 85 1 (some ⟨gh, 0, none⟩) ch 8 (ws S.l)]) (fun z => z.1 ≤ 8) (fun z => 8 - z.1) (0, none, 0) (Nat.zero_le _) esA (Hs.cons Pick.here (Hs.cons Pick.here (Hs.refl _).skip)) ?_
  rintro ⟨i, a, c⟩ hi
  dsimp only at hi ⊢
  by_cases hlt8 : i < 8
  · have hv := S8.get (s := S) hlt8
    have hsn := digI_snoc S hlt8
    generalize S.l.getD i 0 = x at hv hsn
    refine hwDH ?_
    refine HC.anyC ([(⟨gh, i, none⟩, w32 x)]) rfl ?_
    refine HB.pa 0 rfl ?_
    refine HB.pa 1 rfl ?_
    refine HB.pa 2 rfl ?_
    refine HB.pa 3 rfl ?_
    refine HB.ld 4 rfl rfl memD ?_
    refine HB.pa 5 rfl ?_
    refine HB.pa 6 rfl ?_
    refine HB.pa 7 rfl ?_
    refine HB.pa 8 rfl ?_
    refine HB.pa 9 rfl ?_
    refine HB.ld 10 rfl rfl memD ?_
    refine HB.pa 11 rfl ?_
    refine HB.pa 12 rfl ?_
    refine HB.pa 13 rfl ?_
    refine HB.pa 14 rfl ?_
    refine HB.pa 15 rfl ?_
    refine HB.ld 16 rfl rfl memD ?_
    refine HB.pa 17 rfl ?_
    refine HB.pa 18 rfl ?_
    refine HB.pa 19 rfl ?_
    refine HB.pa 20 rfl ?_
    refine HB.pa 21 rfl ?_
    refine HB.ld 22 rfl rfl memD ?_
    refine HB.pa 23 rfl ?_
    refine HB.all (by (exact Keep.grow (b := gh) (c := ch) (n := 8) (vs := ws S.l) memD hv Keep.nil)) [24] (by kernel_rfl) rfl ⟨⟨_, rfl, ?_⟩, trivial⟩
    refine HP.one ?_
    refine H1.lit (cs := ub [(x >>> UInt32.ofNat 24).toUInt8, (x >>> UInt32.ofNat 16).toUInt8, (x >>> UInt32.ofNat 8).toUInt8, x.toUInt8]) rfl rfl rfl rfl rfl rfl (fun b9 => ?_)
    apply HB.fold
    refine HB.all (by (exact Keep.grow (b := gh) (c := ch) (n := 8) (vs := ws S.l) memD hv Keep.nil)) [25] (by kernel_rfl) rfl ⟨⟨_, rfl, ?_⟩, trivial⟩
    refine HP.one ?_
    refine H1.app (sz := 1) (m := 4) (news := ub [(x >>> UInt32.ofNat 24).toUInt8, (x >>> UInt32.ofNat 16).toUInt8, (x >>> UInt32.ofNat 8).toUInt8, x.toUInt8]) rfl (by decide) rfl rfl (fun _ _ => by first | ((repeat (first | with_reducible exact Rpl.here | with_reducible apply Rpl.there)); done) | (repeat (first | exact Rpl.here | apply Rpl.there))) rfl (fun w' hM j u hj => ?_) (by
        intro v hv
        obtain ⟨y, -, rfl⟩ := List.mem_map.1 hv
        rfl) (by omega) (by decide) rfl (fun a' c' hac => ?_)
    · rw [add_lit, Nat.zero_add]; exact (hM.blk (b := b9) memA).cell hj
    rw [ub_app4, hsn, show 4 * i + 4 = 4 * (i + 1) from by omega]
    apply HB.fold
    refine HB.pa 26 rfl ?_
    refine HB.done (by (exact Keep.grow (b := gh) (c := ch) (n := 8) (vs := ws S.l) memD hv Keep.nil)) (by kernel_rfl) ?_
    refine hwDH ?_
    exact HX.again (i + 1, a', c') hlt8 (by show 8 - (i + 1) < 8 - i; omega) esA (Hs.cons (Pick.there Pick.here) (Hs.cons (Pick.there Pick.here) (Hs.nil _)))
  · obtain rfl : i = 8 := by omega
    refine HC.openg (e := 5) (sz := 1) (a := a) (c := c) (n := 4 * 8) (xs := ub (digI S 8)) memA (by decide) ?_
    rintro go rfl
    rw [digI_8]
    have hdl : (digL S).length = 4 * 8 := digL_len S
    rw [← hdl]
    refine hwDH ?_
    refine HL.one (H1.bstrg (ys := digL S) (c := c) (b := go) rfl (.head _) rfl ?_)
    refine hwDH ?_
    exact HX.ret1 rfl rfl fun w' hM => ⟨rfl, hM.ext⟩
end Go.Sx

