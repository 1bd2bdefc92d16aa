/- Chapter 2, the reference: a block: the walk. -/
import Derived.Test.YtehehfcmanccjaaGreatDoorQI09
namespace Go.Sx
open Go Go.Proofs Go.RowKit
theorem blkGr {w0 w : World} {b n sz : Nat} {cs : List Value} {e : TypeId} {H : List Atom} (h : Mm w0 (A.blk b cs e :: H) w) (hl : cs.length = n * sz) (hn : n ≤ 1000000) : Mm w0 (A.grow e sz (some ⟨b, 0, none⟩) n n cs :: H) w := by
 refine ⟨h.ext, fun x hx => ?_, h.nd, h.rng⟩
 rcases List.mem_cons.1 hx with rfl | hx
 ·refine ⟨hl, .inr ⟨b, n, cs.toArray, rfl, Nat.zero_le _, h.blk (List.Mem.head _), Nat.le_refl _, by simp only [maxLen]; omega, by simpa using hl, ?_⟩⟩
  rw [← hl, List.take_of_length_le (by simp)]
 ·exact h.all x (List.mem_cons_of_mem _ hx)
def wsr (l : List UInt8) (i : Nat) : List Value := ws ((List.range i).map (wW l))
theorem wsr_snoc (l : List UInt8) (i : Nat) : wsr l i ++ [w32 (wW l i)] = wsr l (i + 1) := by unfold wsr ws; rw [List.range_succ]; simp
theorem wsr_get {l : List UInt8} {i j : Nat} (h : j < i) : (wsr l i)[j]? = some (w32 (wW l j)) := by unfold wsr ws; simp [h]
theorem ws_snoc (l : List UInt32) (x : UInt32) : ws l ++ [w32 x] = ws (l ++ [x]) := by simp [ws]
def sumsL (s v : S8) (i : Nat) : List UInt32 := (List.range i).map fun j => s.l.getD j 0 + v.l.getD j 0
theorem sumsL_snoc (s v : S8) (i : Nat) : sumsL s v i ++ [s.l.getD i 0 + v.l.getD i 0] = sumsL s v (i + 1) := by unfold sumsL; rw [List.range_succ]; simp
theorem rot_or (x : UInt32) (n : Nat) : x >>> UInt32.ofNat n ||| x <<< UInt32.ofNat (32 - n) = rot x n := by unfold rot; rw [UInt32.or_comm]
theorem mix2 (x : UInt32) (a b : Nat) : mixW x [a, b] = rot x a ^^^ rot x b := by
 show (0 ^^^ rot x a) ^^^ rot x b = _
 rw [UInt32.zero_xor]
theorem mix3 (x : UInt32) (a b c : Nat) : mixW x [a, b, c] = rot x a ^^^ rot x b ^^^ rot x c := by
 show ((0 ^^^ rot x a) ^^^ rot x b) ^^^ rot x c = _
 rw [UInt32.zero_xor]
attribute [local irreducible] WC WL WX POp Then Again Fn NX W1 WA WO QL RP RA Yld LoopAt HC HL HX HN H1 HA HO HQ HB HP A.blk A.grow A.rd A.obj A.mp AgainH CutH
theorem rotated_fn (x : UInt32) (n : Nat) (h0 : 0 < n) (h : n < 32) (w : World) : Fn Tryz.prog 113 #[w32 x, zv (n : Int)] w fun v w' => v = w32 (rot x n) ∧ Ext w w' := by
 have e : (32 : Int) - (n : Int) = ((32 - n : Nat) : Int) := by omega
 refine enterH (l := [_, _]) rfl Tryz.ntmps113 rfl ?_
 refine hwNE ?_
 refine HC.quietS [(some 5, [0], []), (some 6, [1], []), (some 7, [5, 6], [0, 1]), (some 8, [0], []), (some 9, [1], []), (some 10, [9], [4]), (some 11, [8, 10], [3, 5]), (some 12, [7, 11], [2, 6]), (some 4, [12], [7, 0, 1, 2, 3, 4, 5, 6, 7])] (by kernel_rfl) (by kernel_rfl) (by kernel_rfl) ?_
 refine HQ.pa ?_ (POp.move rfl)
 refine HQ.pa ?_ (POp.move rfl)
 refine HQ.pa ?_ (POp.shr32 (s := n) rfl rfl rfl h)
 refine HQ.pa ?_ (POp.move rfl)
 refine HQ.pa ?_ (POp.move rfl)
 refine HQ.pa ?_ (POp.sub rfl rfl (by omega) (by omega))
 rw [e]
 refine HQ.pa ?_ (POp.shl32 (s := 32 - n) rfl rfl rfl (by omega))
 refine qwA ?_
 rw [rot_or]
 refine HQ.nil ?_
 refine hwNE ?_
 exact HX.ret1 rfl rfl fun w' hM => ⟨rfl, hM.ext⟩
attribute [local irreducible] kL
set_option maxRecDepth 100000 in
theorem constants_fn (w : World) : Fn Tryz.prog 114 #[] w fun v w' => ∃ b : Nat, True ∧ v = .slice (some ⟨b, 0, none⟩) 64 64 ∧ Mm w [A.blk b (ws kL) 114] w' := by
 refine enterH (l := []) rfl Tryz.ntmps114 rfl ?_
 refine hwNE ?_
 refine HL.one (H1.lit (cs := ws kL) rfl rfl (by kernel_rfl) rfl rfl rfl (fun b => ?_))
 refine hwNE ?_
 exact HX.ret1 rfl rfl fun w' hM => ⟨b, trivial, rfl, hM⟩
end Go.Sx
/- Chapter 2, the reference: what a block does to a state: the walk. -/
namespace Go.Sx
open Go Go.Proofs Go.RowKit
attribute [local irreducible] WC WL WX POp Then Again Fn NX W1 WA WO QL RP RA Yld LoopAt HC HL HX HN H1 HA HO HQ HB HP A.blk A.grow A.rd A.obj A.mp AgainH CutH
attribute [local irreducible] kL mixW wsr
set_option maxRecDepth 100000 in
set_option maxHeartbeats 4000000 in
theorem block_fn {bh oh ch bb off c : Nat} (s : S8) (l : List UInt8) (hl : l.length = 64) (w : World) (hr : Rd w (.slice (some ⟨bb, off, none⟩) 64 c) (ub l)) (hh : Rd w (.slice (some ⟨bh, oh, none⟩) 8 ch) (ws s.l)) :
  Fn Tryz.prog 80 #[.slice (some ⟨bh, oh, none⟩) 8 ch, .slice (some ⟨bb, off, none⟩) 64 c] w fun v w' => ∃ z : Nat × Nat, True ∧ v = .slice (some ⟨z.1, 0, none⟩) 8 z.2 ∧ Mm w [A.grow 114 1 (some ⟨z.1, 0, none⟩) z.2 8 (ws (comp s l).l)] w' := by
 refine enterH (l := [_, _]) rfl Tryz.ntmps80 rfl ?_
 refine hbDD ?_
 repeat refine HC.seq ?_
 refine HC.cut (α := Option Addr × Nat) (fun z => [(0, .slice (some ⟨bh, oh, none⟩) 8 ch), (5, .slice z.1 16 z.2)]) (fun z => [A.grow 114 1 z.1 z.2 16 (wsr l 16)]) (fun _ => True) ?_ ?_
 ·refine HC.block ?_
  refine HC.grow0 114 1 ?_
  refine HC.loop (α := Nat × Option Addr × Nat) (fun z => [(0, .slice (some ⟨bh, oh, none⟩) 8 ch), (1, .slice (some ⟨bb, off, none⟩) 64 c), (5, .slice z.2.1 z.1 z.2.2), (6, zv (z.1 : Int))]) (fun z => [A.grow 114 1 z.2.1 z.2.2 z.1 (wsr l z.1)]) (fun z => z.1 ≤ 16) (fun z => 16 - z.1) (0, none, 0) (Nat.zero_le _) esA (by show Hs _ [A.grow 114 1 none 0 0 (wsr l 0)]; unfold wsr; exact Hs.refl _) ?_
  rintro ⟨i, a1, c1⟩ hi
  dsimp only at hi ⊢
  by_cases hlt : i < 16
  ·have h0 := ub_at hr (i := 4 * i) (by omega)
   have h1 := ub_at hr (i := 4 * i + 1) (by omega)
   have h2 := ub_at hr (i := 4 * i + 2) (by omega)
   have h3 := ub_at hr (i := 4 * i + 3) (by omega)
   have hset := wsr_snoc l i
   rw [wW_lo hlt] at hset
   unfold wordAt bt at hset
   refine hwNE ?_
   refine HC.anyC ([(⟨bb, off + 4 * i, none⟩, b8 (l.getD (4 * i) 0)), (⟨bb, off + (4 * i + 1), none⟩, b8 (l.getD (4 * i + 1) 0)), (⟨bb, off + (4 * i + 2), none⟩, b8 (l.getD (4 * i + 2) 0)), (⟨bb, off + (4 * i + 3), none⟩, b8 (l.getD (4 * i + 3) 0))]) rfl ?_
   refine HB.pa 0 rfl ?_
   refine HB.pa 1 rfl ?_
   refine HB.pa 2 rfl ?_
   refine HB.pa 3 rfl ?_
   refine HB.pa 4 rfl ?_ (POp.index_slice (o := off + 4 * i) rfl rfl (by omega) (by omega) (by omega))
   refine HB.ld 5 rfl rfl memD ?_
   refine HB.pa 6 rfl ?_
   refine HB.pa 7 rfl ?_
   refine HB.pa 8 rfl ?_
   refine HB.pa 9 rfl ?_
   refine HB.pa 10 rfl ?_
   refine HB.pa 11 rfl ?_
   refine HB.pa 12 rfl ?_ (POp.index_slice (o := off + (4 * i + 1)) rfl rfl (by omega) (by omega) (by omega))
   refine HB.ld 13 rfl rfl memD ?_
   refine HB.pa 14 rfl ?_
   refine HB.pa 15 rfl ?_
   refine HB.pa 16 rfl ?_
   refine HB.pa 17 rfl ?_
   refine HB.pa 18 rfl ?_
   refine HB.pa 19 rfl ?_
   refine HB.pa 20 rfl ?_
   refine HB.pa 21 rfl ?_ (POp.index_slice (o := off + (4 * i + 2)) rfl rfl (by omega) (by omega) (by omega))
   refine HB.ld 22 rfl rfl memD ?_
   refine HB.pa 23 rfl ?_
   refine HB.pa 24 rfl ?_
   refine HB.pa 25 rfl ?_
   refine HB.pa 26 rfl ?_
   refine HB.pa 27 rfl ?_
   refine HB.pa 28 rfl ?_
   refine HB.pa 29 rfl ?_
   refine HB.pa 30 rfl ?_ (POp.index_slice (o := off + (4 * i + 3)) rfl rfl (by omega) (by omega) (by omega))
   refine HB.ld 31 rfl rfl memD ?_
   refine HB.pa 32 rfl ?_
   refine HB.pa 33 rfl ?_
   refine HB.all (by (exact Keep.base h0 (Keep.base h1 (Keep.base h2 (Keep.base h3 Keep.nil))))) [34] (by kernel_rfl) rfl ⟨⟨_, rfl, ?_⟩, trivial⟩
   refine HP.one ?_
   refine H1.lit (cs := [w32 (bt l (4 * i) <<< UInt32.ofNat 24 ||| bt l (4 * i + 1) <<< UInt32.ofNat 16 ||| bt l (4 * i + 2) <<< UInt32.ofNat 8 ||| bt l (4 * i + 3))]) rfl rfl rfl rfl rfl rfl (fun b9 => ?_)
   apply HB.fold
   refine HB.all (by (exact Keep.base h0 (Keep.base h1 (Keep.base h2 (Keep.base h3 Keep.nil))))) [35] (by kernel_rfl) rfl ⟨⟨_, rfl, ?_⟩, trivial⟩
   refine HP.one ?_
   refine H1.app1 (u := w32 (bt l (4 * i) <<< UInt32.ofNat 24 ||| bt l (4 * i + 1) <<< UInt32.ofNat 16 ||| bt l (4 * i + 2) <<< UInt32.ofNat 8 ||| bt l (4 * i + 3))) rfl rfl (fun _ _ => by first | ((repeat (first | with_reducible exact Rpl.here | with_reducible apply Rpl.there)); done) | (repeat (first | exact Rpl.here | apply Rpl.there))) memA rfl rfl (by omega) rfl rfl (fun a' c' => ?_)
   unfold bt
   rw [hset]
   apply HB.fold
   refine HB.pa 36 rfl ?_
   refine HB.done (by (exact Keep.base h0 (Keep.base h1 (Keep.base h2 (Keep.base h3 Keep.nil))))) (by kernel_rfl) ?_
   refine hwNE ?_
   exact HX.again (i + 1, some ⟨a', 0, none⟩, c') hlt (by show 16 - (i + 1) < 16 - i; omega) esA (Hs.cons (Pick.there Pick.here) (Hs.nil _))
  ·obtain rfl : i = 16 := by omega
   refine hwNE ?_
   exact HX.cut (a1, c1) trivial esA (Hs.refl _)
 rintro ⟨a1, c1⟩ -
 dsimp only
 repeat refine HC.seq ?_
 refine hbDD ?_
 repeat refine HC.seq ?_
 refine HC.cut (α := Option Addr × Nat) (fun z => [(0, .slice (some ⟨bh, oh, none⟩) 8 ch), (5, .slice z.1 64 z.2)]) (fun z => [A.grow 114 1 z.1 z.2 64 (wsr l 64)]) (fun _ => True) ?_ ?_
 ·refine HC.block ?_
  refine HC.loop (α := Nat × Option Addr × Nat) (fun z => [(0, .slice (some ⟨bh, oh, none⟩) 8 ch), (5, .slice z.2.1 z.1 z.2.2), (7, zv (z.1 : Int))]) (fun z => [A.grow 114 1 z.2.1 z.2.2 z.1 (wsr l z.1)]) (fun z => 16 ≤ z.1 ∧ z.1 ≤ 64) (fun z => 64 - z.1) (16, a1, c1) ⟨Nat.le_refl _, by show 16 ≤ 64; decide⟩ esA (Hs.refl _) ?_
  rintro ⟨i, a2, c2⟩ ⟨hi0, hi⟩
  dsimp only at hi0 hi ⊢
  by_cases hlt : i < 64
  ·refine HC.openg (e := 114) (sz := 1) (a := a2) (c := c2) (n := i) (xs := wsr l i) memA (by omega) ?_
   rintro g2 rfl
   have g2' := wsr_get (l := l) (i := i) (j := i - 2) (by omega)
   have g7 := wsr_get (l := l) (i := i) (j := i - 7) (by omega)
   have g15 := wsr_get (l := l) (i := i) (j := i - 15) (by omega)
   have g16 := wsr_get (l := l) (i := i) (j := i - 16) (by omega)
   have hset := wsr_snoc l i
   rw [wW_hi (by omega), mix2, mix2] at hset
   have e2 : ((i : Int) - 2).toNat = i - 2 := by omega
   have e15 : ((i : Int) - 15).toNat = i - 15 := by omega
   generalize hx2 : wW l (i - 2) = x2 at g2' hset
   generalize hx7 : wW l (i - 7) = x7 at g7 hset
   generalize hx15 : wW l (i - 15) = x15 at g15 hset
   generalize hx16 : wW l (i - 16) = x16 at g16 hset
   refine hwNE ?_
   refine HC.quietS [(some 63, [5], []), (some 64, [7], []), (some 65, [64], [1]), (some 66, [63, 65], [0, 2]), (some 67, [66], [3]), (some 68, [67], [4]), (some 69, [5], []), (some 70, [7], []), (some 71, [70], [7]), (some 72, [69, 71], [6, 8]), (some 73, [72], [9]), (some 74, [73], [10, 5]), (some 75, [68, 74], [5, 11]), (some 76, [5], []), (some 77, [7], []), (some 78, [77], [14]), (some 79, [76, 78], [13, 15]), (some 80, [79], [16]), (some 81, [80], [17]), (some 82, [75, 81], [12, 18]), (some 8, [82], [19, 11, 0, 1, 2, 3, 4, 5, 6, 7, 8, 9, 10, 11, 12, 13, 14, 15, 16, 17, 18, 19])] (by kernel_rfl) (by kernel_rfl) (by kernel_rfl) ?_
   refine qwA ?_
   rw [e15]
   refine HQ.ld rfl (fun w' hM => ownsRow_cell (hM.own memA) g15) rfl ?_
   refine qwA ?_
   refine HQ.call (vs := [_, zv ((7 : Nat) : Int)]) rfl rfl (fun w' _ => rotated_fn x15 7 (by decide) (by decide) w') ?_
   refine qwA ?_
   rw [e15]
   refine HQ.ld rfl (fun w' hM => ownsRow_cell (hM.own memA) g15) rfl ?_
   refine qwA ?_
   refine HQ.call (vs := [_, zv ((18 : Nat) : Int)]) rfl rfl (fun w' _ => rotated_fn x15 18 (by decide) (by decide) w') ?_
   refine qwA ?_
   rw [e15]
   refine HQ.ld rfl (fun w' hM => ownsRow_cell (hM.own memA) g15) rfl ?_
   refine qwA ?_
   refine HQ.nil ?_
   refine hwNE ?_
   refine HC.quietS [(some 83, [5], []), (some 84, [7], []), (some 85, [84], [1]), (some 86, [83, 85], [0, 2]), (some 87, [86], [3]), (some 88, [87], [4]), (some 89, [5], []), (some 90, [7], []), (some 91, [90], [7]), (some 92, [89, 91], [6, 8]), (some 93, [92], [9]), (some 94, [93], [10, 5]), (some 95, [88, 94], [5, 11]), (some 96, [5], []), (some 97, [7], []), (some 98, [97], [14]), (some 99, [96, 98], [13, 15]), (some 100, [99], [16]), (some 101, [100], [17]), (some 102, [95, 101], [12, 18]), (some 9, [102], [19, 11, 0, 1, 2, 3, 4, 5, 6, 7, 8, 9, 10, 11, 12, 13, 14, 15, 16, 17, 18, 19])] (by kernel_rfl) (by kernel_rfl) (by kernel_rfl) ?_
   refine qwA ?_
   rw [e2]
   refine HQ.ld rfl (fun w' hM => ownsRow_cell (hM.own memA) g2') rfl ?_
   refine qwA ?_
   refine HQ.call (vs := [_, zv ((17 : Nat) : Int)]) rfl rfl (fun w' _ => rotated_fn x2 17 (by decide) (by decide) w') ?_
   refine qwA ?_
   rw [e2]
   refine HQ.ld rfl (fun w' hM => ownsRow_cell (hM.own memA) g2') rfl ?_
   refine qwA ?_
   refine HQ.call (vs := [_, zv ((19 : Nat) : Int)]) rfl rfl (fun w' _ => rotated_fn x2 19 (by decide) (by decide) w') ?_
   refine qwA ?_
   rw [e2]
   refine HQ.ld rfl (fun w' hM => ownsRow_cell (hM.own memA) g2') rfl ?_
   refine qwA ?_
   refine HQ.nil ?_
   refine hwNE ?_
   refine HC.sub [(0, .slice (some ⟨bh, oh, none⟩) 8 ch), (5, .slice (some ⟨g2, 0, none⟩) i c2), (7, zv (i : Int)), (8, w32 (rot x15 7 ^^^ rot x15 18 ^^^ x15 >>> UInt32.ofNat 3)), (9, w32 (rot x2 17 ^^^ rot x2 19 ^^^ x2 >>> UInt32.ofNat 10))] [A.grow 114 1 (some ⟨g2, 0, none⟩) c2 i (wsr l i)] ?_ esA (Hs.refl _)
   have e16 : ((i : Int) - 16).toNat = i - 16 := by omega
   have e7 : ((i : Int) - 7).toNat = i - 7 := by omega
   obtain ⟨X, hX⟩ : ∃ X, X = rot x15 7 ^^^ rot x15 18 ^^^ x15 >>> UInt32.ofNat 3 := ⟨_, rfl⟩
   obtain ⟨Y, hY⟩ : ∃ Y, Y = rot x2 17 ^^^ rot x2 19 ^^^ x2 >>> UInt32.ofNat 10 := ⟨_, rfl⟩
   rw [← hX, ← hY] at hset ⊢
   refine HC.any rfl ?_
   refine HA.pa 0 rfl ?_
   refine HA.pa 1 rfl ?_
   refine HA.pa 2 rfl ?_
   refine HA.pa 3 rfl ?_
   refine HA.pa 4 rfl ?_ (POp.index_slice (o := i - 16) rfl rfl (by omega) (by omega) (by omega))
   refine HA.pa 6 rfl ?_
   refine HA.pa 8 rfl ?_
   refine HA.pa 9 rfl ?_
   refine HA.pa 10 rfl ?_
   refine HA.pa 11 rfl ?_ (POp.index_slice (o := i - 7) rfl rfl (by omega) (by omega) (by omega))
   refine HA.pa 14 rfl ?_
   refine HA.all [5, 12] (by kernel_rfl) rfl ⟨⟨_, rfl, ?_⟩, ⟨_, rfl, ?_⟩, trivial⟩
   ·refine HO.one ?_
    refine H1.ldg (b := g2) (c := c2) (n := i) (vs := wsr l i) rfl memA g16 rfl ?_
    apply HA.fold
    refine HA.pa 7 rfl ?_
    refine HA.all [12] (by kernel_rfl) rfl ⟨⟨_, rfl, ?_⟩, trivial⟩
    refine HO.one ?_
    refine H1.ldg (b := g2) (c := c2) (n := i) (vs := wsr l i) rfl memA g7 rfl ?_
    apply HA.fold
    refine HA.pa 13 rfl ?_
    refine HA.pa 15 rfl ?_
    refine HA.all [16] (by kernel_rfl) rfl ⟨⟨_, rfl, ?_⟩, trivial⟩
    refine HO.one ?_
    refine H1.lit (cs := [w32 (x16 + X + x7 + Y)]) rfl rfl rfl rfl rfl rfl (fun b9 => ?_)
    apply HA.fold
    refine HA.all [17] (by kernel_rfl) rfl ⟨⟨_, rfl, ?_⟩, trivial⟩
    refine HO.one ?_
    refine H1.app1 (u := w32 (x16 + X + x7 + Y)) rfl rfl (fun _ _ => by first | ((repeat (first | with_reducible exact Rpl.here | with_reducible apply Rpl.there)); done) | (repeat (first | exact Rpl.here | apply Rpl.there))) memA rfl rfl (by omega) rfl rfl (fun a' c' => ?_)
    rw [hset]
    apply HA.fold
    refine HA.pa 18 rfl ?_
    refine HA.done (by kernel_rfl) ?_
    refine hwNE ?_
    exact HX.again (i + 1, some ⟨a', 0, none⟩, c') ⟨by show 16 ≤ i + 1; omega, hlt⟩ (by show 64 - (i + 1) < 64 - i; omega) esA (Hs.cons (Pick.there Pick.here) (Hs.nil _))
   ·refine HO.one ?_
    refine H1.ldg (b := g2) (c := c2) (n := i) (vs := wsr l i) rfl memA g7 rfl ?_
    apply HA.fold
    refine HA.all [5] (by kernel_rfl) rfl ⟨⟨_, rfl, ?_⟩, trivial⟩
    refine HO.one ?_
    refine H1.ldg (b := g2) (c := c2) (n := i) (vs := wsr l i) rfl memA g16 rfl ?_
    apply HA.fold
    refine HA.pa 7 rfl ?_
    refine HA.pa 13 rfl ?_
    refine HA.pa 15 rfl ?_
    refine HA.all [16] (by kernel_rfl) rfl ⟨⟨_, rfl, ?_⟩, trivial⟩
    refine HO.one ?_
    refine H1.lit (cs := [w32 (x16 + X + x7 + Y)]) rfl rfl rfl rfl rfl rfl (fun b9 => ?_)
    apply HA.fold
    refine HA.all [17] (by kernel_rfl) rfl ⟨⟨_, rfl, ?_⟩, trivial⟩
    refine HO.one ?_
    refine H1.app1 (u := w32 (x16 + X + x7 + Y)) rfl rfl (fun _ _ => by first | ((repeat (first | with_reducible exact Rpl.here | with_reducible apply Rpl.there)); done) | (repeat (first | exact Rpl.here | apply Rpl.there))) memA rfl rfl (by omega) rfl rfl (fun a' c' => ?_)
    rw [hset]
    apply HA.fold
    refine HA.pa 18 rfl ?_
    refine HA.done (by kernel_rfl) ?_
    refine hwNE ?_
    exact HX.again (i + 1, some ⟨a', 0, none⟩, c') ⟨by show 16 ≤ i + 1; omega, hlt⟩ (by show 64 - (i + 1) < 64 - i; omega) esA (Hs.cons (Pick.there Pick.here) (Hs.nil _))
  ·obtain rfl : i = 64 := by omega
   refine hwNE ?_
   exact HX.cut (a2, c2) trivial esA (Hs.refl _)
 rintro ⟨a2, c2⟩ -
 dsimp only
 refine HC.openg (e := 114) (sz := 1) (a := a2) (c := c2) (n := 64) (xs := wsr l 64) memA (by decide) ?_
 rintro g2 rfl
 refine hwNE ?_
 refine HL.one (H1.callz (vs := []) rfl rfl (fun w' _ => constants_fn w') ?_)
 rintro bk -
 refine hwNE ?_
 refine HL.grow0 114 1 ?_
 refine HL.one (H1.appR (n := 0) (vs := ws s.l) rfl rfl rfl (fun _ _ => by first | ((repeat (first | with_reducible exact Rpl.here | with_reducible apply Rpl.there)); done) | (repeat (first | exact Rpl.here | apply Rpl.there))) (fun w' hM => hh.ext hM.ext) ws_one (by show 0 + 8 ≤ 1000000; decide) (by decide) rfl (.inl rfl) (fun av0 cv0 hav => ?_))
 obtain ⟨gv0, rfl⟩ : ∃ b, av0 = some ⟨b, 0, none⟩ := by
  rcases hav with h | h
  ·cases h
  ·exact h
 refine hbDD ?_
 repeat refine HC.seq ?_
 refine HC.cut (α := Nat × Nat) (fun z => [(0, .slice (some ⟨bh, oh, none⟩) 8 ch), (11, .slice (some ⟨z.1, 0, none⟩) 8 z.2)]) (fun z => [A.grow 114 1 (some ⟨z.1, 0, none⟩) z.2 8 (ws (rnds l s 64).l)]) (fun _ => True) ?_ ?_
 ·refine HC.block ?_
  refine HC.loop (α := Nat × Nat × Nat) (fun z => [(0, .slice (some ⟨bh, oh, none⟩) 8 ch), (5, .slice (some ⟨g2, 0, none⟩) 64 c2), (10, .slice (some ⟨bk, 0, none⟩) 64 64), (11, .slice (some ⟨z.2.1, 0, none⟩) 8 z.2.2), (12, zv (z.1 : Int))])
   (fun z => [A.grow 114 1 (some ⟨z.2.1, 0, none⟩) z.2.2 8 (ws (rnds l s z.1).l), A.blk bk (ws kL) 114, A.grow 114 1 (some ⟨g2, 0, none⟩) c2 64 (wsr l 64)]) (fun z => z.1 ≤ 64) (fun z => 64 - z.1) (0, gv0, cv0) (Nat.zero_le _) esA (Hs.refl _) ?_
  rintro ⟨i, gv, cv⟩ hi
  dsimp only at hi ⊢
  by_cases hlt : i < 64
  ·have hk := kW_get hlt
   have hw := wsr_get (l := l) (i := 64) hlt
   have hstep : rnds l s (i + 1) = rnd (kW i) (wW l i) (rnds l s i) := rfl
   generalize rnds l s i = S at hstep
   generalize hkk : kW i = kk at hk hstep
   generalize hww : wW l i = ww at hw hstep
   have hT : S.h + (rot S.e 6 ^^^ rot S.e 11 ^^^ rot S.e 25) + (S.e &&& S.f ^^^ ~~~S.e &&& S.g) + kk + ww = rT kk ww S := by unfold rT; rw [mix3]
   have hU : rot S.a 2 ^^^ rot S.a 13 ^^^ rot S.a 22 = mixW S.a [2, 13, 22] := by rw [mix3]
   refine hwNE ?_
   refine HL.one (H1.ldg (b := gv) (c := cv) (n := 8) (vs := ws S.l) (v := w32 S.a) rfl memA rfl rfl ?_)
   refine hwNE ?_
   refine HL.one (H1.ldg (b := gv) (c := cv) (n := 8) (vs := ws S.l) (v := w32 S.e) rfl memA rfl rfl ?_)
   refine hwNE ?_
   refine HC.quietS [(some 135, [11], []), (some 136, [135], [0]), (some 137, [136], [1]), (some 138, [14], []), (some 139, [138], [3]), (some 140, [14], []), (some 141, [140], [5, 4]), (some 142, [139, 141], [4, 6]), (some 143, [14], []), (some 144, [143], [8, 6]), (some 145, [142, 144], [7, 9]), (some 146, [137, 145], [2, 10]), (some 147, [14], []), (some 148, [11], []), (some 149, [148], [13]), (some 150, [149], [14]), (some 151, [147, 150], [12, 15]), (some 152, [14], []), (some 153, [152], [17]), (some 154, [11], []), (some 155, [154], [19]), (some 156, [155], [20]), (some 157, [153, 156], [18, 21]), (some 158, [151, 157], [16, 22]), (some 159, [146, 158], [11, 23]), (some 160, [10], []), (some 161, [12], []), (some 162, [160, 161], [25, 26]), (some 163, [162], [27]), (some 164, [159, 163], [24, 28]), (some 165, [5], []), (some 166, [12], []), (some 167, [165, 166], [30, 31]), (some 168, [167], [32]), (some 169, [164, 168], [29, 33]), (some 15, [169], [34, 9, 0, 1, 2, 3, 4, 5, 6, 7, 8, 9, 10, 11, 12, 13, 14, 15, 16, 17, 18, 19, 20, 21, 22, 23, 24, 25, 26, 27, 28, 29, 30, 31, 32, 33, 34])] (by kernel_rfl) (by kernel_rfl) (by kernel_rfl) ?_
   refine qwA ?_
   refine HQ.ld rfl (fun w' hM => ownsRow_cell (hM.own (.head _)) (i := 7) rfl) rfl ?_
   refine qwA ?_
   refine HQ.call (vs := [_, zv ((6 : Nat) : Int)]) rfl rfl (fun w' _ => rotated_fn S.e 6 (by decide) (by decide) w') ?_
   refine qwA ?_
   refine HQ.call (vs := [_, zv ((11 : Nat) : Int)]) rfl rfl (fun w' _ => rotated_fn S.e 11 (by decide) (by decide) w') ?_
   refine qwA ?_
   refine HQ.call (vs := [_, zv ((25 : Nat) : Int)]) rfl rfl (fun w' _ => rotated_fn S.e 25 (by decide) (by decide) w') ?_
   refine qwA ?_
   refine HQ.ld rfl (fun w' hM => ownsRow_cell (hM.own (.head _)) (i := 5) rfl) rfl ?_
   refine qwA ?_
   refine HQ.ld rfl (fun w' hM => ownsRow_cell (hM.own (.head _)) (i := 6) rfl) rfl ?_
   refine qwA ?_
   refine HQ.ldb rfl (.tail _ (.head _)) hk rfl ?_
   refine qwA ?_
   refine HQ.ld rfl (fun w' hM => ownsRow_cell (hM.own (.tail _ (.tail _ (.head _)))) hw) rfl ?_
   refine qwA ?_
   refine HQ.nil ?_
   rw [hT]
   refine hwNE ?_
   refine HC.quietS [(some 170, [13], []), (some 171, [170], [0]), (some 172, [13], []), (some 173, [172], [2, 1]), (some 174, [171, 173], [1, 3]), (some 175, [13], []), (some 176, [175], [5, 3]), (some 177, [174, 176], [4, 6]), (some 178, [13], []), (some 179, [11], []), (some 180, [179], [9]), (some 181, [180], [10]), (some 182, [178, 181], [8, 11]), (some 183, [13], []), (some 184, [11], []), (some 185, [184], [14]), (some 186, [185], [15]), (some 187, [183, 186], [13, 16]), (some 188, [182, 187], [12, 17]), (some 189, [11], []), (some 190, [189], [19]), (some 191, [190], [20]), (some 192, [11], []), (some 193, [192], [22]), (some 194, [193], [23]), (some 195, [191, 194], [21, 24]), (some 196, [188, 195], [18, 25]), (some 197, [177, 196], [7, 26]), (some 16, [197], [27, 6, 0, 1, 2, 3, 4, 5, 6, 7, 8, 9, 10, 11, 12, 13, 14, 15, 16, 17, 18, 19, 20, 21, 22, 23, 24, 25, 26, 27])] (by kernel_rfl) (by kernel_rfl) (by kernel_rfl) ?_
   refine qwA ?_
   refine HQ.call (vs := [_, zv ((2 : Nat) : Int)]) rfl rfl (fun w' _ => rotated_fn S.a 2 (by decide) (by decide) w') ?_
   refine qwA ?_
   refine HQ.call (vs := [_, zv ((13 : Nat) : Int)]) rfl rfl (fun w' _ => rotated_fn S.a 13 (by decide) (by decide) w') ?_
   refine qwA ?_
   refine HQ.call (vs := [_, zv ((22 : Nat) : Int)]) rfl rfl (fun w' _ => rotated_fn S.a 22 (by decide) (by decide) w') ?_
   refine qwA ?_
   refine HQ.ld rfl (fun w' hM => ownsRow_cell (hM.own (.head _)) (i := 1) rfl) rfl ?_
   refine qwA ?_
   refine HQ.ld rfl (fun w' hM => ownsRow_cell (hM.own (.head _)) (i := 2) rfl) rfl ?_
   refine qwA ?_
   refine HQ.ld rfl (fun w' hM => ownsRow_cell (hM.own (.head _)) (i := 1) rfl) rfl ?_
   refine qwA ?_
   refine HQ.ld rfl (fun w' hM => ownsRow_cell (hM.own (.head _)) (i := 2) rfl) rfl ?_
   refine qwA ?_
   refine HQ.nil ?_
   refine hwNE ?_
   have hU2 : (rot S.a 2 ^^^ rot S.a 13 ^^^ rot S.a 22) + (S.a &&& S.b ^^^ S.a &&& S.c ^^^ S.b &&& S.c) = rU S := by unfold rU; rw [mix3]
   rw [hU2]
   refine HC.sub [(0, .slice (some ⟨bh, oh, none⟩) 8 ch), (5, .slice (some ⟨g2, 0, none⟩) 64 c2), (10, .slice (some ⟨bk, 0, none⟩) 64 64), (11, .slice (some ⟨gv, 0, none⟩) 8 cv), (12, zv (i : Int)), (13, w32 S.a), (14, w32 S.e), (15, w32 (rT kk ww S)), (16, w32 (rU S))] [A.grow 114 1 (some ⟨gv, 0, none⟩) cv 8 (ws S.l), A.blk bk (ws kL) 114, A.grow 114 1 (some ⟨g2, 0, none⟩) c2 64 (wsr l 64)] ?_ esA (Hs.refl _)
   obtain ⟨T, hTT⟩ : ∃ T, T = rT kk ww S := ⟨_, rfl⟩
   obtain ⟨U, hUU⟩ : ∃ U, U = rU S := ⟨_, rfl⟩
   have hnew : ws (rnd kk ww S).l = [w32 (T + U), w32 S.a, w32 S.b, w32 S.c, w32 (S.d + T), w32 S.e, w32 S.f, w32 S.g] := by rw [hTT, hUU]; rfl
   rw [← hTT, ← hUU]
   refine HC.anyC ([(⟨gv, 1, none⟩, w32 S.b), (⟨gv, 2, none⟩, w32 S.c), (⟨gv, 3, none⟩, w32 S.d), (⟨gv, 5, none⟩, w32 S.f), (⟨gv, 6, none⟩, w32 S.g)]) rfl ?_
   refine HB.pa 0 rfl ?_
   refine HB.pa 1 rfl ?_
   refine HB.pa 2 rfl ?_
   refine HB.pa 3 rfl ?_
   refine HB.pa 4 rfl ?_
   refine HB.pa 5 rfl ?_
   refine HB.ld 6 rfl rfl memD ?_
   refine HB.pa 7 rfl ?_
   refine HB.pa 8 rfl ?_
   refine HB.ld 9 rfl rfl memD ?_
   refine HB.pa 10 rfl ?_
   refine HB.pa 11 rfl ?_
   refine HB.ld 12 rfl rfl memD ?_
   refine HB.pa 13 rfl ?_
   refine HB.pa 14 rfl ?_
   refine HB.pa 15 rfl ?_
   refine HB.pa 16 rfl ?_
   refine HB.pa 17 rfl ?_
   refine HB.ld 18 rfl rfl memD ?_
   refine HB.pa 19 rfl ?_
   refine HB.pa 20 rfl ?_
   refine HB.ld 21 rfl rfl memD ?_
   refine HB.all (by (exact Keep.grow memD rfl (Keep.grow memD rfl (Keep.grow memD rfl (Keep.grow memD rfl (Keep.grow memD rfl Keep.nil)))))) [22] (by kernel_rfl) rfl ⟨⟨_, rfl, ?_⟩, trivial⟩
   refine HP.one ?_
   refine H1.lit (cs := [w32 (T + U), w32 S.a, w32 S.b, w32 S.c, w32 (S.d + T), w32 S.e, w32 S.f, w32 S.g]) rfl rfl rfl rfl rfl rfl (fun b9 => ?_)
   apply HB.fold
   refine HB.pa 23 rfl ?_
   refine HB.done (by (exact Keep.grow memD rfl (Keep.grow memD rfl (Keep.grow memD rfl (Keep.grow memD rfl (Keep.grow memD rfl Keep.nil)))))) (by kernel_rfl) ?_
   refine hwNE ?_
   rw [← hnew]
   refine HX.conv (H2 := A.grow 114 1 (some ⟨b9, 0, none⟩) 8 8 (ws (rnd kk ww S).l) :: _) (fun w h => blkGr h rfl (by decide)) ?_
   exact HX.again (i + 1, b9, 8) hlt (by show 64 - (i + 1) < 64 - i; omega) esA (by dsimp only; rw [hstep]; exact Hs.cons Pick.here (Hs.refl _).skip)
  ·obtain rfl : i = 64 := by omega
   refine hwNE ?_
   exact HX.cut (gv, cv) trivial esA (Hs.cons Pick.here (Hs.nil _))
 rintro ⟨gv, cv⟩ -
 dsimp only
 obtain ⟨V, hVd⟩ : ∃ V, V = rnds l s 64 := ⟨_, rfl⟩
 have hcomp : comp s l = s.add V := by rw [hVd]; rfl
 rw [hcomp, ← hVd]
 refine hwNE ?_
 refine HC.grow0 114 1 ?_
 refine HC.loop (α := Nat × Option Addr × Nat) (fun z => [(0, .slice (some ⟨bh, oh, none⟩) 8 ch), (11, .slice (some ⟨gv, 0, none⟩) 8 cv), (17, .slice z.2.1 z.1 z.2.2), (18, zv (z.1 : Int))]) (fun z => [A.grow 114 1 z.2.1 z.2.2 z.1 (ws (sumsL s V z.1)), A.grow 114 1 (some ⟨gv, 0, none⟩) cv 8 (ws V.l)]) (fun z => z.1 ≤ 8) (fun z => 8 - z.1) (0, none, 0) (Nat.zero_le _) esA (Hs.refl _) ?_
 rintro ⟨i, ao, co⟩ hi
 dsimp only at hi ⊢
 by_cases hlt : i < 8
 ·have hb := hh.cell (S8.get (s := s) hlt)
  have hv := S8.get (s := V) hlt
  have hsn := sumsL_snoc s V i
  generalize s.l.getD i 0 = x at hb hsn
  generalize V.l.getD i 0 = y at hv hsn
  refine hwNE ?_
  refine HC.anyC ([(⟨bh, oh + i, none⟩, w32 x), (⟨gv, i, none⟩, w32 y)]) rfl ?_
  refine HB.pa 0 rfl ?_
  refine HB.pa 1 rfl ?_
  refine HB.pa 2 rfl ?_
  refine HB.pa 3 rfl ?_
  refine HB.ld 4 rfl rfl memD ?_
  refine HB.pa 5 rfl ?_
  refine HB.pa 6 rfl ?_
  refine HB.pa 7 rfl ?_
  refine HB.ld 8 rfl rfl memD ?_
  refine HB.pa 9 rfl ?_
  refine HB.all (by (exact Keep.base hb (Keep.grow (b := gv) (c := cv) (n := 8) (vs := ws V.l) memD hv Keep.nil))) [10] (by kernel_rfl) rfl ⟨⟨_, rfl, ?_⟩, trivial⟩
  refine HP.one ?_
  refine H1.lit (cs := [w32 (x + y)]) rfl rfl rfl rfl rfl rfl (fun b9 => ?_)
  apply HB.fold
  refine HB.all (by (exact Keep.base hb (Keep.grow (b := gv) (c := cv) (n := 8) (vs := ws V.l) memD hv Keep.nil))) [11] (by kernel_rfl) rfl ⟨⟨_, rfl, ?_⟩, trivial⟩
  refine HP.one ?_
  refine H1.app1 (u := w32 (x + y)) rfl rfl (fun _ _ => by first | ((repeat (first | with_reducible exact Rpl.here | with_reducible apply Rpl.there)); done) | (repeat (first | exact Rpl.here | apply Rpl.there))) memA rfl rfl (by omega) rfl rfl (fun a' c' => ?_)
  rw [ws_snoc, hsn]
  apply HB.fold
  refine HB.pa 12 rfl ?_
  refine HB.done (by (exact Keep.base hb (Keep.grow (b := gv) (c := cv) (n := 8) (vs := ws V.l) memD hv Keep.nil))) (by kernel_rfl) ?_
  refine hwNE ?_
  exact HX.again (i + 1, some ⟨a', 0, none⟩, c') hlt (by show 8 - (i + 1) < 8 - i; omega) esA (Hs.cons (Pick.there Pick.here) (Hs.cons (Pick.there Pick.here) (Hs.nil _)))
 ·obtain rfl : i = 8 := by omega
  refine HC.openg (e := 114) (sz := 1) (a := ao) (c := co) (n := 8) (xs := ws (sumsL s V 8)) memA (by decide) ?_
  rintro go rfl
  refine hwNE ?_
  exact HX.ret1 rfl rfl fun w' hM => ⟨(go, co), trivial, rfl, hM.sub (Hs.cons Pick.here (Hs.refl _).skip)⟩
end Go.Sx
/- Chapter 2, the reference: the digest of a string; Chain, Head: the walks. -/
namespace Go.Sx
open Go Go.Proofs Go.RowKit
theorem grow_sub {w : World} {e : TypeId} {b n c off m c2 : Nat} {xs : List Value} (h : w.ownsRow 0 e 1 (.slice (some ⟨b, 0, none⟩) n c) n xs) (hl : xs.length = n) (ho : off + m ≤ n) (hm : m ≤ c2) : Rd w (.slice (some ⟨b, off, none⟩) m c2) ((xs.drop off).take m) := by
 have hlen : ((xs.drop off).take m).length = m := by rw [List.length_take, List.length_drop]; omega
 obtain ⟨hb, -⟩ : b < w.heap.size ∧ True := by
  rcases h.2 with ⟨h1, -⟩ | ⟨g, cap, cur, hv, -, hg, -⟩
  ·cases h1
  ·cases hv; exact ⟨(Array.getElem?_eq_some_iff.1 hg).1, trivial⟩
 refine ⟨_, _, by rw [hlen], by rw [hlen]; exact hm, .inr ⟨b, off, rfl, hb, fun i u hu => ?_⟩⟩
 have hi : i < m := by
  have := (List.getElem?_eq_some_iff.1 hu).1
  rw [hlen] at this; exact this
 rw [List.getElem?_take_of_lt hi, List.getElem?_drop] at hu
 exact ownsRow_cell h hu
theorem take_b8 {l : List UInt8} {i : Nat} (h : i < l.length) : ub (l.take i) ++ [b8 (l.getD i 0)] = ub (l.take (i + 1)) := by
 have e : l.getD i 0 = l[i] := by simp [h]
 rw [List.take_add_one, List.getElem?_eq_getElem h, ub_app1, e]; rfl
theorem shr_zero (x : UInt32) : x >>> UInt32.ofNat 0 = x := by
 refine UInt32.toNat_inj.1 ?_
 rw [UInt32.toNat_shiftRight]
 simp
def digI (s : S8) (i : Nat) : List UInt8 := (s.l.take i).flatMap by4
theorem digI_snoc (s : S8) {i : Nat} (h : i < 8) : digI s i ++ [(s.l.getD i 0 >>> UInt32.ofNat 24).toUInt8, (s.l.getD i 0 >>> UInt32.ofNat 16).toUInt8, (s.l.getD i 0 >>> UInt32.ofNat 8).toUInt8, (s.l.getD i 0).toUInt8] = digI s (i + 1) := by
 have h8 : i < s.l.length := h
 unfold digI
 rw [List.take_add_one, List.getElem?_eq_getElem h8, List.flatMap_append]
 congr 1
 have e : s.l.getD i 0 = s.l[i] := by simp [h8]
 rw [e]
 show _ = by4 s.l[i] ++ []
 rw [List.append_nil]
 unfold by4
 rw [shr_zero]
theorem digI_8 (s : S8) : digI s 8 = digL s := rfl
theorem ub_app4 (ys zs : List UInt8) : ub ys ++ ub zs = ub (ys ++ zs) := by unfold ub; rw [List.map_append]
theorem HC.capOfG2 {P : Program} {r : Option Nat} {N : Nat} {ds : List Deferred} {Q : Post} {E : Env} {w0 : World} {H : List Atom} {e : TypeId} {co : Code} {n c : Nat} {a : Option Addr} {xs : List Value} (hm : A.grow e 1 a c n xs ∈ H) (h : n ≤ c → HC P r N ds co Q E w0 H) : HC P r N ds co Q E w0 H := fun w hM => by
 refine h ?_ w hM
 rcases (hM.own hm).2 with ⟨h1, rfl⟩ | ⟨g, cap, cur, hv, -, -, hnc, -⟩
 ·exact Nat.zero_le _
 ·cases hv; exact hnc
attribute [local irreducible] WC WL WX POp Then Again Fn NX W1 WA WO QL RP RA Yld LoopAt HC HL HX HN H1 HA HO HQ HB HP A.blk A.grow A.rd A.obj A.mp AgainH CutH
attribute [local irreducible] shaI shaT
set_option maxHeartbeats 2000000 in
theorem extended_fn (s : ByteArray) (hs : s.size ≤ 900000) (w : World) : Fn Tryz.prog 79 #[.string s] w fun v w' => ∃ z : Nat × Nat, True ∧ v = .slice (some ⟨z.1, 0, none⟩) (shaP s.data.toList).length z.2 ∧ Mm w [A.grow 5 1 (some ⟨z.1, 0, none⟩) z.2 (shaP s.data.toList).length (ub (shaP s.data.toList))] w' := by
 have hlen : s.data.toList.length = s.size := by rw [Array.length_toList]; rfl
 obtain ⟨n, hn⟩ : ∃ n, n = s.size := ⟨_, rfl⟩
 have hz : shaZ n < 64 := by unfold shaZ; omega
 have hP : shaP s.data.toList = s.data.toList ++ [128] ++ List.replicate (shaZ n) 0 ++ (List.range 8).map (shaT n) := by unfold shaP; rw [hlen, hn]
 have hPl := shaP_len s.data.toList
 rw [hlen, ← hn] at hPl
 refine enterH (l := [_]) rfl Tryz.ntmps79 rfl ?_
 refine hwNE ?_
 refine HC.grow0 5 1 ?_
 refine HC.loop (α := Nat × Option Addr × Nat) (fun z => [(0, .string s), (3, .slice z.2.1 z.1 z.2.2), (4, zv (z.1 : Int))]) (fun z => [A.grow 5 1 z.2.1 z.2.2 z.1 (ub (s.data.toList.take z.1))]) (fun z => z.1 ≤ n) (fun z => n - z.1) (0, none, 0) (Nat.zero_le _) esA (Hs.refl _) ?_
 rintro ⟨i, a, c⟩ hi
 dsimp only at hi ⊢
 by_cases hlt : i < n
 ·have hlt' : i < s.size := by omega
  have htk := take_b8 (l := s.data.toList) (i := i) (by omega)
  refine hwNE ?_
  refine HL.one (H1.lit (cs := [b8 (s.data.toList.getD i 0)]) rfl rfl rfl rfl rfl rfl (fun b9 => ?_))
  refine hwNE ?_
  refine HL.one (H1.app1 (u := b8 (s.data.toList.getD i 0)) rfl rfl (fun _ _ => by first | ((repeat (first | with_reducible exact Rpl.here | with_reducible apply Rpl.there)); done) | (repeat (first | exact Rpl.here | apply Rpl.there))) memA rfl rfl (by omega) rfl rfl (fun a' c' => ?_))
  rw [htk]
  refine hwNE ?_
  exact HX.again (i + 1, some ⟨a', 0, none⟩, c') hlt (by show n - (i + 1) < n - i; omega) esA (Hs.cons (Pick.there Pick.here) (Hs.nil _))
 have hlt' : ¬ i < s.size := by omega
 obtain rfl : i = n := by omega
 rw [List.take_of_length_le (by omega)]
 refine hwNE ?_
 refine HL.one (H1.lit (cs := [b8 128]) rfl rfl rfl rfl rfl rfl (fun b9 => ?_))
 refine hwNE ?_
 refine HL.one (H1.app1 (u := b8 128) rfl rfl (fun _ _ => by first | ((repeat (first | with_reducible exact Rpl.here | with_reducible apply Rpl.there)); done) | (repeat (first | exact Rpl.here | apply Rpl.there))) memA rfl rfl (by omega) rfl rfl (fun a1 c1 => ?_))
 rw [ub_app1]
 refine hwNE ?_
 refine HC.loop (α := Nat × Nat × Nat) (fun z => [(0, .string s), (3, .slice (some ⟨z.2.1, 0, none⟩) (i + 1 + z.1) z.2.2)]) (fun z => [A.grow 5 1 (some ⟨z.2.1, 0, none⟩) z.2.2 (i + 1 + z.1) (ub (s.data.toList ++ [128] ++ List.replicate z.1 0))]) (fun z => z.1 ≤ shaZ i) (fun z => shaZ i - z.1) (0, a1, c1) (Nat.zero_le _) esA
  (by show Hs _ [A.grow _ 1 _ c1 (i + 1) (ub (s.data.toList ++ [128] ++ []))]; rw [List.append_nil]; exact Hs.cons (Pick.there Pick.here) (Hs.nil _)) ?_
 rintro ⟨j, a2, c2⟩ hj
 dsimp only at hj ⊢
 by_cases hlt2 : j < shaZ i
 ·have hne : ¬ (((i + 1 + j : Nat) : Int) % 64 = 56) := by unfold shaZ at hlt2; omega
  refine hwNE ?_
  refine HL.one (H1.lit (cs := [b8 0]) rfl rfl rfl rfl rfl rfl (fun b9 => ?_))
  refine hwNE ?_
  refine HL.one (H1.app1 (u := b8 0) rfl rfl (fun _ _ => by first | ((repeat (first | with_reducible exact Rpl.here | with_reducible apply Rpl.there)); done) | (repeat (first | exact Rpl.here | apply Rpl.there))) memA rfl rfl (by omega) rfl rfl (fun a' c' => ?_))
  rw [ub_app1, rep_snoc]
  refine hwNE ?_
  exact HX.again (j + 1, a', c') hlt2 (by show shaZ i - (j + 1) < shaZ i - j; omega) esA (Hs.cons (Pick.there Pick.here) (Hs.nil _))
 obtain rfl : j = shaZ i := by omega
 have hne : ((i + 1 + shaZ i : Nat) : Int) % 64 = 56 := by unfold shaZ; omega
 refine hwNE ?_
 refine HC.loop (α := Nat × Nat × Nat) (fun z => [(0, .string s), (3, .slice (some ⟨z.2.1, 0, none⟩) (i + 1 + shaZ i + z.1) z.2.2), (5, zv (7 - (z.1 : Int)))]) (fun z => [A.grow 5 1 (some ⟨z.2.1, 0, none⟩) z.2.2 (i + 1 + shaZ i + z.1) (ub (s.data.toList ++ [128] ++ List.replicate (shaZ i) 0 ++ (List.range z.1).map (shaT i)))]) (fun z => z.1 ≤ 8) (fun z => 8 - z.1) (0, a2, c2) (Nat.zero_le _) esA
  (by show Hs _ [A.grow _ 1 _ c2 (i + 1 + shaZ i) (ub (s.data.toList ++ [128] ++ List.replicate (shaZ i) 0 ++ []))]; rw [List.append_nil]; exact Hs.refl _) ?_
 rintro ⟨k, a3, c3⟩ hk
 dsimp only at hk ⊢
 by_cases hlt3 : k < 8
 ·have hge : (0 : Int) ≤ 7 - (k : Int) := by omega
  refine hwNE ?_
  rw [← hn]
  refine hwNE ?_
  refine HL.pa ?_ (POp.shr (a := 8 * i) (b := 8 * (7 - k)) rfl rfl (by omega) (by omega) (by omega))
  refine hwNE ?_
  refine HL.one (H1.lit (cs := [b8 (shaT i k)]) rfl rfl (by unfold shaT; rfl) rfl rfl rfl (fun b9 => ?_))
  refine hwNE ?_
  refine HL.one (H1.app1 (u := b8 (shaT i k)) rfl rfl (fun _ _ => by first | ((repeat (first | with_reducible exact Rpl.here | with_reducible apply Rpl.there)); done) | (repeat (first | exact Rpl.here | apply Rpl.there))) memA rfl rfl (by omega) rfl rfl (fun a' c' => ?_))
  rw [ub_app1, rng_snoc]
  refine hwNE ?_
  refine HX.again (k + 1, a', c') hlt3 (by show 8 - (k + 1) < 8 - k; omega) ⟨rfl, rfl, ?_, trivial⟩ (Hs.cons (Pick.there Pick.here) (Hs.nil _))
  show some (zv _) = some (zv _)
  congr 2
  show (7 - (k : Int)) - 1 = 7 - ((k + 1 : Nat) : Int)
  omega
 ·obtain rfl : k = 8 := by omega
  have hge : ¬ ((0 : Int) ≤ 7 - ((8 : Nat) : Int)) := by omega
  rw [← hP, show i + 1 + shaZ i + 8 = (shaP s.data.toList).length from by rw [hPl]]
  refine hwNE ?_
  exact HX.ret1 rfl rfl fun w' hM => ⟨(a3, c3), trivial, rfl, hM⟩
attribute [local irreducible] digL
set_option maxHeartbeats 4000000 in
theorem refSum_fn (s : ByteArray) (hs : s.size ≤ 900000) (w : World) : Fn Tryz.prog 34 #[.string s] w fun v w' => v = .string (sumS s) ∧ Ext w w' := by
 have hlen : s.data.toList.length = s.size := by rw [Array.length_toList]; rfl
 have hPl := shaP_len s.data.toList
 have hPm := shaP_mod s.data.toList
 have hz : shaZ s.data.toList.length < 64 := by unfold shaZ; omega
 obtain ⟨nq, hnq⟩ : ∃ nq, nq = (shaP s.data.toList).length / 64 := ⟨_, rfl⟩
 have hq : 64 * nq = (shaP s.data.toList).length := by omega
 have hsum : sumS s = ⟨(digL (sums (shaP s.data.toList) nq)).toArray⟩ := by unfold sumS sumL; rw [hnq]
 rw [hsum]
 refine enterH (l := [_]) rfl Tryz.ntmps34 rfl ?_
 refine hwNE ?_
 refine HL.one (H1.lit (cs := ws shaI.l) rfl rfl (by kernel_rfl) rfl rfl rfl (fun b0 => ?_))
 refine hwNE ?_
 refine HL.one (H1.callz (vs := [.string s]) rfl rfl (fun w' _ => extended_fn s hs w') ?_)
 rintro ⟨gb, cb⟩ -
 dsimp only
 refine hwNE ?_
 have hqb : nq ≤ 15000 := by omega
 generalize hPd : shaP s.data.toList = Pd at hq
 rw [← hq]
 refine HC.conv (H2 := A.grow 114 1 (some ⟨b0, 0, none⟩) 8 8 (ws (sums Pd 0).l) :: [A.grow 5 1 (some ⟨gb, 0, none⟩) cb (64 * nq) (ub Pd)]) (fun w h => blkGr (h.sub (Hs.cons (Pick.there Pick.here) (Hs.refl _))) rfl (by decide)) ?_
 refine HC.loop (α := Nat × Nat × Nat) (fun z => [(3, .slice (some ⟨z.2.1, 0, none⟩) 8 z.2.2), (4, .slice (some ⟨gb, 0, none⟩) (64 * nq) cb), (5, zv ((64 * z.1 : Nat) : Int))]) (fun z => A.grow 114 1 (some ⟨z.2.1, 0, none⟩) z.2.2 8 (ws (sums Pd z.1).l) :: [A.grow 5 1 (some ⟨gb, 0, none⟩) cb (64 * nq) (ub Pd)]) (fun z => z.1 ≤ nq) (fun z => nq - z.1) (0, b0, 8) (Nat.zero_le _) esA (Hs.refl _) ?_
 rintro ⟨q, gh, ch⟩ hqn
 dsimp only at hqn ⊢
 by_cases hlt : q < nq
 ·have hstep : sums Pd (q + 1) = comp (sums Pd q) ((Pd.drop (64 * q)).take 64) := rfl
  have hl64 : ((Pd.drop (64 * q)).take 64).length = 64 := by rw [List.length_take, List.length_drop]; omega
  refine HC.capOfG2 (e := 5) (a := some ⟨gb, 0, none⟩) (c := cb) (n := 64 * nq) (xs := ub Pd) memA fun hcb => ?_
  refine HC.capOfG2 (e := 114) (a := some ⟨gh, 0, none⟩) (c := ch) (n := 8) (xs := ws (sums Pd q).l) memA fun hch => ?_
  refine hwNE ?_
  refine HL.pa ?_ (POp.cut_lh rfl rfl rfl (by omega) (by omega) (by omega) (by omega))
  rw [show 0 + ((64 * q : Nat) : Int).toNat * 1 = 64 * q from by omega, show (((64 * q : Nat) : Int) + 64).toNat - ((64 * q : Nat) : Int).toNat = 64 from by omega]
  refine hwNE ?_
  refine HL.one (H1.callz (vs := [_, _]) rfl rfl (fun w' hM => block_fn (sums Pd q) ((Pd.drop (64 * q)).take 64) hl64 w' ?_ ?_) ?_)
  ·have := grow_sub (hM.own (e := 5) (sz := 1) (a := some ⟨gb, 0, none⟩) (c := cb) (n := 64 * nq) (xs := ub Pd) memA) (by rw [ub_len, ← hq]) (off := 64 * q) (m := 64) (c2 := cb - ((64 * q : Nat) : Int).toNat) (by omega) (by omega)
   rwa [ub_mid] at this
  ·exact Mm.gr (e := 114) (a := some ⟨gh, 0, none⟩) (c := ch) hM (.head _)
  rintro ⟨g2, c2⟩ -
  dsimp only
  rw [← hstep]
  refine hwNE ?_
  exact HX.again (q + 1, g2, c2) hlt (by show nq - (q + 1) < nq - q; omega) esA (Hs.cons Pick.here (Hs.refl _).skip)
 obtain rfl : q = nq := by omega
 generalize hS : sums Pd q = S
 refine hwNE ?_
 refine HC.grow0 5 1 ?_
 refine HC.loop (α := Nat × Option Addr × Nat) (fun z => [(3, .slice (some ⟨gh, 0, none⟩) 8 ch), (6, .slice z.2.1 (4 * z.1) z.2.2), (7, zv (z.1 : Int))]) (fun z => [A.grow 5 1 z.2.1 z.2.2 (4 * z.1) (ub (digI S z.1)), A.grow 114 1 (some ⟨gh, 0, none⟩) ch 8 (ws S.l)]) (fun z => z.1 ≤ 8) (fun z => 8 - z.1) (0, none, 0) (Nat.zero_le _) esA (Hs.cons Pick.here (Hs.cons Pick.here (Hs.refl _).skip)) ?_
 rintro ⟨i, a, c⟩ hi
 dsimp only at hi ⊢
 by_cases hlt8 : i < 8
 ·have hv := S8.get (s := S) hlt8
  have hsn := digI_snoc S hlt8
  generalize S.l.getD i 0 = x at hv hsn
  refine hwNE ?_
  refine HC.anyC ([(⟨gh, i, none⟩, w32 x)]) rfl ?_
  refine HB.pa 0 rfl ?_
  refine HB.pa 1 rfl ?_
  refine HB.pa 2 rfl ?_
  refine HB.pa 3 rfl ?_
  refine HB.ld 4 rfl rfl memD ?_
  refine HB.pa 5 rfl ?_
  refine HB.pa 6 rfl ?_
  refine HB.pa 7 rfl ?_
  refine HB.pa 8 rfl ?_
  refine HB.pa 9 rfl ?_
  refine HB.ld 10 rfl rfl memD ?_
  refine HB.pa 11 rfl ?_
  refine HB.pa 12 rfl ?_
  refine HB.pa 13 rfl ?_
  refine HB.pa 14 rfl ?_
  refine HB.pa 15 rfl ?_
  refine HB.ld 16 rfl rfl memD ?_
  refine HB.pa 17 rfl ?_
  refine HB.pa 18 rfl ?_
  refine HB.pa 19 rfl ?_
  refine HB.pa 20 rfl ?_
  refine HB.pa 21 rfl ?_
  refine HB.ld 22 rfl rfl memD ?_
  refine HB.pa 23 rfl ?_
  refine HB.all (by (exact Keep.grow (b := gh) (c := ch) (n := 8) (vs := ws S.l) memD hv Keep.nil)) [24] (by kernel_rfl) rfl ⟨⟨_, rfl, ?_⟩, trivial⟩
  refine HP.one ?_
  refine H1.lit (cs := ub [(x >>> UInt32.ofNat 24).toUInt8, (x >>> UInt32.ofNat 16).toUInt8, (x >>> UInt32.ofNat 8).toUInt8, x.toUInt8]) rfl rfl rfl rfl rfl rfl (fun b9 => ?_)
  apply HB.fold
  refine HB.all (by (exact Keep.grow (b := gh) (c := ch) (n := 8) (vs := ws S.l) memD hv Keep.nil)) [25] (by kernel_rfl) rfl ⟨⟨_, rfl, ?_⟩, trivial⟩
  refine HP.one ?_
  refine H1.app (sz := 1) (m := 4) (news := ub [(x >>> UInt32.ofNat 24).toUInt8, (x >>> UInt32.ofNat 16).toUInt8, (x >>> UInt32.ofNat 8).toUInt8, x.toUInt8]) rfl (by decide) rfl rfl (fun _ _ => by first | ((repeat (first | with_reducible exact Rpl.here | with_reducible apply Rpl.there)); done) | (repeat (first | exact Rpl.here | apply Rpl.there))) rfl (fun w' hM j u hj => ?_) (by
    intro v hv
    obtain ⟨y, -, rfl⟩ := List.mem_map.1 hv
    rfl) (by omega) (by decide) rfl (fun a' c' hac => ?_)
  ·rw [add_lit, Nat.zero_add]; exact (hM.blk (b := b9) memA).cell hj
  rw [ub_app4, hsn, show 4 * i + 4 = 4 * (i + 1) from by omega]
  apply HB.fold
  refine HB.pa 26 rfl ?_
  refine HB.done (by (exact Keep.grow (b := gh) (c := ch) (n := 8) (vs := ws S.l) memD hv Keep.nil)) (by kernel_rfl) ?_
  refine hwNE ?_
  exact HX.again (i + 1, a', c') hlt8 (by show 8 - (i + 1) < 8 - i; omega) esA (Hs.cons (Pick.there Pick.here) (Hs.cons (Pick.there Pick.here) (Hs.nil _)))
 ·obtain rfl : i = 8 := by omega
  refine HC.openg (e := 5) (sz := 1) (a := a) (c := c) (n := 4 * 8) (xs := ub (digI S 8)) memA (by decide) ?_
  rintro go rfl
  rw [digI_8]
  have hdl : (digL S).length = 4 * 8 := digL_len S
  rw [← hdl]
  refine hwNE ?_
  refine HL.one (H1.bstrg (ys := digL S) (c := c) (b := go) rfl (.head _) rfl ?_)
  refine hwNE ?_
  exact HX.ret1 rfl rfl fun w' hM => ⟨rfl, hM.ext⟩
end Go.Sx
/- Chapter 21: equality of lists of records, of bases; picked numbers. -/
namespace Go.Sx
open Go Go.Proofs Go.RowKit
noncomputable def eqR (r s : Rc) : Bool := @decide (r = s) (Classical.propDecidable _)
noncomputable def eqLB (l m : List Rc) : Bool := @decide (l = m) (Classical.propDecidable _)
def pickI21 (c n : Int) : Int := if c < 0 then (-(c + 1)) % n else c % n
theorem pickI21_lt (c : Int) {n : Int} (hn : 0 < n) : 0 ≤ pickI21 c n ∧ pickI21 c n < n := by
 unfold pickI21
 split
 ·exact ⟨Int.emod_nonneg _ (by omega), Int.emod_lt_of_pos _ hn⟩
 ·exact ⟨Int.emod_nonneg _ (by omega), Int.emod_lt_of_pos _ hn⟩
attribute [local irreducible] WC WL WX POp Then Again Fn NX W1 WA WO QL RP RA Yld LoopAt HC HL HX HN H1 HA HO HQ HB HP A.blk A.grow A.rd A.obj A.mp AgainH CutH
attribute [local irreducible] A.dfr A.loop
theorem pick20_fn (c n : Int) (h1 : -9223372036854775808 ≤ c) (h2 : c ≤ 9223372036854775807) (hn : 0 < n) (w : World) : Fn Tryz.prog 100 #[zv c, zv n] w fun v w' => v = zv (pickI21 c n) ∧ w = w' := by
 refine enter (l := [_, _]) rfl Tryz.ntmps100 rfl ?_
 by_cases h : c < 0
 ·repeat' (first | apply WL.fold | apply WA.fold | apply WL.nil | apply WX.n_then | apply WC.seq | apply WC.region | refine WL.pa ?_ | refine WL.ga rfl ?_ | refine WL.na rfl ?_ | refine WL.nu rfl rfl ?_ | apply WC.block | apply WC.skip | apply WC.exit | apply WC.ret | apply WX.e_block | refine WX.e_other rfl ?_ | apply WX.e_then | apply WX.e_again | apply WX.n_block | apply WX.r_then | apply WX.r_block | apply WX.r_again | refine WC.cond_yes rfl ?_ | refine WC.cond_no rfl ?_ | refine WC.cond rfl (fun hc => ?_) (fun hc => ?_) | refine WC.cond_b rfl (fun hc => ?_) (fun hc => ?_))
  exact WX.ret1 rfl rfl ⟨by rw [pickI21, if_pos h], rfl⟩
 ·repeat' (first | apply WL.fold | apply WA.fold | apply WL.nil | apply WX.n_then | apply WC.seq | apply WC.region | refine WL.pa ?_ | refine WL.ga rfl ?_ | refine WL.na rfl ?_ | refine WL.nu rfl rfl ?_ | apply WC.block | apply WC.skip | apply WC.exit | apply WC.ret | apply WX.e_block | refine WX.e_other rfl ?_ | apply WX.e_then | apply WX.e_again | apply WX.n_block | apply WX.r_then | apply WX.r_block | apply WX.r_again | refine WC.cond_yes rfl ?_ | refine WC.cond_no rfl ?_ | refine WC.cond rfl (fun hc => ?_) (fun hc => ?_) | refine WC.cond_b rfl (fun hc => ?_) (fun hc => ?_))
  exact WX.ret1 rfl rfl ⟨by rw [pickI21, if_neg h], rfl⟩
def EqB (A B : Nat → List Rc) : Prop := ∀ i, i < 8 → A i = B i
noncomputable def eqBB (A B : Nat → List Rc) : Bool := @decide (EqB A B) (Classical.propDecidable _)
theorem SameInts_fn (v u : Value) (l m : List Int) (w : World) (hR : Rd w v (ints l)) (hS : Rd w u (ints m)) (hl : l.length ≤ 1000000) :
  Fn Tryz.prog 15 #[v, u] w fun u w' => u = .bool (decide (l = m)) ∧ Ext w w' := by
 obtain ⟨a, c, rfl, hc⟩ := hR.isInts
 obtain ⟨a', c', rfl, hc'⟩ := hS.isInts
 refine enterH (l := [_, _]) rfl Tryz.ntmps15 rfl ?_
 by_cases hlen : l.length = m.length
 rotate_left
 ·have hlen' : ¬ (l.length : Int) = (m.length : Int) := by omega
  refine hwNE ?_
  exact HX.ret1 rfl rfl fun w' hM => ⟨by rw [decide_eq_false fun e => hlen (by rw [e])], hM.ext⟩
 rw [← hlen] at hS ⊢
 refine hwNE ?_
 refine HC.loop (α := Nat) (fun j => [(0, .slice a l.length c), (1, .slice a' l.length c'), (5, zv (j : Int))]) (fun _ => []) (fun j => j ≤ l.length ∧ l.take j = m.take j) (fun j => l.length - j) 0 ⟨Nat.zero_le _, rfl⟩ esA (Hs.refl _) ?_
 rintro j ⟨hj, hI⟩
 by_cases hlt : j < l.length
 ·have hlt2 : j < m.length := by omega
  obtain ⟨b1, o1, rfl, -⟩ := hR.iat (fun e => by rw [e] at hlt; exact absurd hlt (Nat.not_lt_zero _))
  obtain ⟨b2, o2, rfl, -⟩ := hS.iat (fun e => by rw [e] at hlt2; exact absurd hlt2 (Nat.not_lt_zero _))
  have hd1 := hR.cell (ints_get hlt)
  have hd2 := hS.cell (ints_get hlt2)
  have h1 := take_at hlt
  have h2 := take_at hlt2
  have hno : ¬ at' l j = at' m j → decide (l = m) = false := fun h => decide_eq_false fun e => h (by rw [e])
  have hyes : at' l j = at' m j → l.take (j + 1) = m.take (j + 1) := fun h => by rw [h1, h2, hI, h]
  refine hwNE ?_
  refine HC.any rfl ?_
  refine HA.pa 0 rfl ?_
  refine HA.pa 1 rfl ?_
  refine HA.pa 2 rfl ?_
  refine HA.pa 4 rfl ?_
  refine HA.pa 5 rfl ?_
  refine HA.pa 6 rfl ?_
  refine HA.all [3, 7] (by kernel_rfl) rfl ⟨⟨_, rfl, ?_⟩, ⟨_, rfl, ?_⟩, trivial⟩
  ·refine HO.one ?_
   refine H1.ld0 rfl hd1 rfl ?_
   apply HA.fold
   refine HA.all [7] (by kernel_rfl) rfl ⟨⟨_, rfl, ?_⟩, trivial⟩
   refine HO.one ?_
   refine H1.ld0 rfl hd2 rfl ?_
   apply HA.fold
   refine HA.pa 8 rfl ?_
   refine HA.done (by kernel_rfl) ?_
   repeat' (first | apply HL.fold | apply HA.fold | apply HL.nil | apply HX.n_then | apply HC.seq | apply HC.region | refine HL.pa ?_ | refine HL.ga rfl ?_ | refine HL.na rfl ?_ | refine HL.nu rfl rfl ?_ | apply HC.block | apply HC.skip | apply HC.exit | apply HC.ret | apply HX.e_block | refine HX.e_other rfl ?_ | apply HX.e_then | apply HX.e_again | apply HX.n_block | apply HX.r_then | apply HX.r_block | apply HX.r_again | refine HC.cond_yes rfl ?_ | refine HC.cond_no rfl ?_ | refine HL.one (H1.ldb rfl memA rfl rfl ?_) | refine HC.cond rfl (fun hc => ?_) (fun hc => ?_) | refine HC.cond_b rfl (fun hc => ?_) (fun hc => ?_))
   ·exact HX.ret1 rfl rfl fun w' hM => ⟨by rw [hno hc], hM.ext⟩
   ·exact HX.again (j + 1) ⟨hlt, hyes (Decidable.not_not.1 hc)⟩ (by omega) esA (Hs.refl _)
  ·refine HO.one ?_
   refine H1.ld0 rfl hd2 rfl ?_
   apply HA.fold
   refine HA.all [3] (by kernel_rfl) rfl ⟨⟨_, rfl, ?_⟩, trivial⟩
   refine HO.one ?_
   refine H1.ld0 rfl hd1 rfl ?_
   apply HA.fold
   refine HA.pa 8 rfl ?_
   refine HA.done (by kernel_rfl) ?_
   repeat' (first | apply HL.fold | apply HA.fold | apply HL.nil | apply HX.n_then | apply HC.seq | apply HC.region | refine HL.pa ?_ | refine HL.ga rfl ?_ | refine HL.na rfl ?_ | refine HL.nu rfl rfl ?_ | apply HC.block | apply HC.skip | apply HC.exit | apply HC.ret | apply HX.e_block | refine HX.e_other rfl ?_ | apply HX.e_then | apply HX.e_again | apply HX.n_block | apply HX.r_then | apply HX.r_block | apply HX.r_again | refine HC.cond_yes rfl ?_ | refine HC.cond_no rfl ?_ | refine HL.one (H1.ldb rfl memA rfl rfl ?_) | refine HC.cond rfl (fun hc => ?_) (fun hc => ?_) | refine HC.cond_b rfl (fun hc => ?_) (fun hc => ?_))
   ·exact HX.ret1 rfl rfl fun w' hM => ⟨by rw [hno hc], hM.ext⟩
   ·exact HX.again (j + 1) ⟨hlt, hyes (Decidable.not_not.1 hc)⟩ (by omega) esA (Hs.refl _)
 obtain rfl : j = l.length := by omega
 have e1 : l = m := by rw [List.take_length, hlen, List.take_length] at hI; exact hI
 refine hwNE ?_
 exact HX.ret1 rfl rfl fun w' hM => ⟨by rw [decide_eq_true e1], hM.ext⟩
end Go.Sx
/- Chapter 24: the fixed examples of the laws: the walks. -/
namespace Go.Sx
open Go Go.Proofs Go.RowKit
def ndc5 (a b c d e : Nd) (va vb vc vd ve : Value) : List Value := ndC a va ++ ndC b vb ++ ndC c vc ++ ndC d vd ++ ndC e ve
theorem litN5 (a b c d e : Nd) (va vb vc vd ve : Value) : litC (fun i => some (i * 4, 4)) (zeroRow (5 * 4) (ndC ⟨0, 0, 0, []⟩ (.slice none 0 0))) [(0, ndV a va), (1, ndV b vb), (2, ndV c vc), (3, ndV d vd), (4, ndV e ve)] = some (ndc5 a b c d e va vb vc vd ve) := by kernel_rfl
theorem exD_take {k : Nat} (h : k < 5) : exD.take (k + 1) = exD.take k ++ [exdg k] := by
 match k, h with
 | 0, _ | 1, _ | 2, _ | 3, _ | 4, _ => rfl
attribute [local irreducible] WC WL WX POp Then Again Fn NX W1 WA WO QL RP RA Yld LoopAt HC HL HX HN H1 HA HO HQ HB HP A.blk A.grow A.rd A.obj A.mp AgainH CutH
attribute [local irreducible] A.mq A.mit A.all sumS
theorem example24_fn (w : World) : Fn Tryz.prog 36 #[] w fun u w' => (∃ v g U, u = .tuple #[v, g] ∧ RdN w' v exN U ∧ Rd w' g (strs exD)) ∧ Ext w w' := by
 refine enterH (l := []) rfl Tryz.ntmps36 rfl ?_
 refine hwNB ?_
 refine HL.build (cs := ndC ⟨1, 1, 7, []⟩ (.slice none 0 0)) rfl rfl rfl ?_
 refine hwNB ?_
 refine HL.build (cs := ndC ⟨2, 1, 8, []⟩ (.slice none 0 0)) rfl rfl rfl ?_
 refine hwNB ?_
 refine HL.one (H1.lit (cs := ints [1]) rfl rfl rfl rfl rfl rfl (fun b1 => ?_))
 refine hwNB ?_
 refine HL.build (cs := ndC ⟨3, 2, 7, [1]⟩ (.slice (some ⟨b1, 0, none⟩) 1 1)) rfl rfl rfl ?_
 refine hwNB ?_
 refine HL.one (H1.lit (cs := ints [2, 3]) rfl rfl rfl rfl rfl rfl (fun b2 => ?_))
 refine hwNB ?_
 refine HL.build (cs := ndC ⟨4, 5, 8, [2, 3]⟩ (.slice (some ⟨b2, 0, none⟩) 2 2)) rfl rfl rfl ?_
 refine hwNB ?_
 refine HL.one (H1.lit (cs := ints [2]) rfl rfl rfl rfl rfl rfl (fun b3 => ?_))
 refine hwNB ?_
 refine HL.build (cs := ndC ⟨5, 4, 8, [2]⟩ (.slice (some ⟨b3, 0, none⟩) 1 1)) rfl rfl rfl ?_
 refine hwNB ?_
 refine HL.one (H1.lit (zs := ndC ⟨0, 0, 0, []⟩ (.slice none 0 0)) (pv := [(0, ndV ⟨1, 1, 7, []⟩ (.slice none 0 0)), (1, ndV ⟨2, 1, 8, []⟩ (.slice none 0 0)), (2, ndV ⟨3, 2, 7, [1]⟩ (.slice (some ⟨b1, 0, none⟩) 1 1)), (3, ndV ⟨4, 5, 8, [2, 3]⟩ (.slice (some ⟨b2, 0, none⟩) 2 2)), (4, ndV ⟨5, 4, 8, [2]⟩ (.slice (some ⟨b3, 0, none⟩) 1 1))]) rfl rfl (litN5 _ _ _ _ _ _ _ _ _ _) rfl rfl rfl (fun b4 => ?_))
 refine hwNB ?_
 refine HC.grow0 9 1 ?_
 refine HC.loop (α := Nat × Option Addr × Nat) (fun q => [(2, .slice (some ⟨b4, 0, none⟩) 5 5), (3, .slice q.2.1 q.1 q.2.2), (4, zv (q.1 : Int))]) (fun q => [A.grow 9 1 q.2.1 q.2.2 q.1 (strs (exD.take q.1)), A.blk b4 (ndc5 ⟨1, 1, 7, []⟩ ⟨2, 1, 8, []⟩ ⟨3, 2, 7, [1]⟩ ⟨4, 5, 8, [2, 3]⟩ ⟨5, 4, 8, [2]⟩ (.slice none 0 0) (.slice none 0 0) (.slice (some ⟨b1, 0, none⟩) 1 1) (.slice (some ⟨b2, 0, none⟩) 2 2) (.slice (some ⟨b3, 0, none⟩) 1 1)) 31, A.blk b3 (ints [2]) 3, A.blk b2 (ints [2, 3]) 3, A.blk b1 (ints [1]) 3]) (fun q => q.1 ≤ 5) (fun q => 5 - q.1) (0, none, 0) (Nat.zero_le _) esA (by repeat (first | exact Hs.nil _ | (refine Hs.cons pickA ?_))) ?_
 rintro ⟨k, a1, c1⟩ hk
 dsimp only at hk ⊢
 by_cases hlt : k < 5
 ·have hn : ((k : Nat) : Int) < ((5 : Nat) : Int) := by omega
  have hst : strs (exD.take k) ++ [.string (exdg k)] = strs (exD.take (k + 1)) := by rw [exD_take hlt, strs_snoc]
  have hub : [Value.int .u8 ((k : Nat) : Int)] = ub [UInt8.ofNat k] := by
   have h : (UInt8.ofNat k).toNat = k := by rw [UInt8.toNat_ofNat']; omega
   simp [ub, h]
  have hdg : exdg k = sumS ⟨([UInt8.ofNat k] : List UInt8).toArray⟩ := rfl
  refine hwNB ?_
  refine HL.one (H1.lit (cs := [.int .u8 ((k : Nat) : Int)]) rfl rfl rfl rfl rfl rfl (fun b8 => ?_))
  rw [hub]
  refine hwNB ?_
  refine HL.one (H1.bstrB (ys := [UInt8.ofNat k]) (c := 1) (b := b8) rfl memA rfl ?_)
  refine hwNB ?_
  refine HL.one (H1.callx (vs := [_]) rfl rfl (fun w' hM => refSum_fn ⟨([UInt8.ofNat k] : List UInt8).toArray⟩ (by show 1 ≤ _; omega) w') ?_)
  rw [← hdg]
  refine hwNB ?_
  refine HL.one (H1.lit (cs := [.string (exdg k)]) rfl rfl rfl rfl rfl rfl (fun b9 => ?_))
  refine hwNB ?_
  refine HL.one (H1.app1 (u := .string (exdg k)) rfl rfl (fun _ _ => by first | ((repeat (first | with_reducible exact Rpl.here | with_reducible apply Rpl.there)); done) | (repeat (first | exact Rpl.here | apply Rpl.there))) memA rfl rfl (by omega) rfl rfl (fun a' c' => ?_))
  rw [hst]
  refine hwNB ?_
  exact HX.again (k + 1, some ⟨a', 0, none⟩, c') hlt (by show 5 - (k + 1) < 5 - k; omega) esA (by repeat (first | exact Hs.nil _ | (refine Hs.cons pickA ?_)))
 have hn : ¬ ((k : Nat) : Int) < ((5 : Nat) : Int) := by omega
 obtain rfl : k = 5 := by omega
 refine hwNB ?_
 refine HX.ret2 rfl rfl rfl fun w' hM => ⟨⟨_, _, fun i => match i with | 2 => .slice (some ⟨b1, 0, none⟩) 1 1 | 3 => .slice (some ⟨b2, 0, none⟩) 2 2 | 4 => .slice (some ⟨b3, 0, none⟩) 1 1 | _ => .slice none 0 0, rfl, ?_, ?_⟩, hM.ext⟩
 ·have h4 := hM.blk (b := b4) (e := 31) memA
  refine ⟨⟨_, _, rfl, Nat.le_refl 5, .inr ⟨b4, 0, rfl, fun i hi j u hu => ?_⟩⟩, fun i hi => ?_⟩
  ·have hj : j < 4 := (List.getElem?_eq_some_iff.1 hu).1
   rw [Nat.zero_add]
   refine h4.cell ?_
   have hi5 : i < 5 := hi
   match i, hi5, j, hj, hu with
   | 0, _, 0, _, hu | 0, _, 1, _, hu | 0, _, 2, _, hu | 0, _, 3, _, hu | 1, _, 0, _, hu | 1, _, 1, _, hu | 1, _, 2, _, hu | 1, _, 3, _, hu | 2, _, 0, _, hu | 2, _, 1, _, hu | 2, _, 2, _, hu | 2, _, 3, _, hu | 3, _, 0, _, hu | 3, _, 1, _, hu | 3, _, 2, _, hu | 3, _, 3, _, hu | 4, _, 0, _, hu | 4, _, 1, _, hu | 4, _, 2, _, hu | 4, _, 3, _, hu => exact hu
  ·have hi5 : i < 5 := hi
   match i, hi5 with
   | 0, _ | 1, _ => exact ⟨_, _, rfl, Nat.le_refl _, .inl rfl⟩
   | 2, _ => exact blk_rd (hM.blk (b := b1) (e := 3) memA) rfl
   | 3, _ => exact blk_rd (hM.blk (b := b2) (e := 3) memA) rfl
   | 4, _ => exact blk_rd (hM.blk (b := b3) (e := 3) memA) rfl
 ·exact hM.gr (e := 9) (a := a1) (c := c1) (n := 5) memA
end Go.Sx
/- Chapter 24: sane: the walk. -/
namespace Go.Sx
open Go Go.Proofs Go.RowKit
def baseC (s4 s7 : Value) : List Value := [.slice none 0 0, .slice none 0 0, .slice none 0 0, .slice none 0 0, s4, .slice none 0 0, .slice none 0 0, s7]
theorem rdR_nil (w : World) : RdR w (.slice none 0 0) [] := ⟨none, 0, rfl, Nat.zero_le _, .inl rfl⟩
theorem baseV_of {w : World} {s4 s7 : Value} {B : Nat → List Rc} (h : ∀ i, i ≠ 4 → i ≠ 7 → B i = []) (h4 : RdR w s4 (B 4)) (h7 : RdR w s7 (B 7)) : BaseV w (.agg (baseC s4 s7).toArray) B := by
 refine ⟨fun i => match i with | 4 => s4 | 7 => s7 | _ => .slice none 0 0, rfl, fun i hi => ?_⟩
 match i, hi with
 | 4, _ => exact h4
 | 7, _ => exact h7
 | 0, _ => rw [h 0 (by decide) (by decide)]; exact rdR_nil w
 | 1, _ => rw [h 1 (by decide) (by decide)]; exact rdR_nil w
 | 2, _ => rw [h 2 (by decide) (by decide)]; exact rdR_nil w
 | 3, _ => rw [h 3 (by decide) (by decide)]; exact rdR_nil w
 | 5, _ => rw [h 5 (by decide) (by decide)]; exact rdR_nil w
 | 6, _ => rw [h 6 (by decide) (by decide)]; exact rdR_nil w
theorem exB_no : ∀ i, i ≠ 4 → i ≠ 7 → exB i = [] := fun i _ h => by unfold exB; rw [if_neg h]
theorem exB2_no : ∀ i, i ≠ 4 → i ≠ 7 → exB2 i = [] := fun i h4 h => by unfold exB2; rw [if_neg h, if_neg h4]
section
variable {vb v g : Value} {B : Nat → List Rc} {l : List Nd} {D : List ByteArray} {U : Nat → Value} {o d : Int}
theorem delete_no (hq : delQ B l D o d = none) (hl : l.length ≤ 400000) (hls : ∀ i, i < l.length → (ndAt l i).src.length ≤ 1000000) (hD : D.length ≤ 1000000) (hDs : ∀ d ∈ D, d.size ≤ 1000) (hB7 : (B 7).length ≤ 1000000) (hB4 : (B 4).length ≤ 1000000) (hB5 : (B 5).length ≤ 1000000) (w : World) (hG : RoundG w) (hB : BaseV w vb B) (hR : RdN w v l U) (hS : Rd w g (strs D)) :
  Fn Tryz.prog 22 #[vb, v, g, zv o, zv d] w fun u w' => u = delNo ∧ Ext w w' := (delete_fn o d hl hls hD hDs hB7 hB4 hB5 w hG hB hR hS).mono fun u w' h => by
 rcases h with ⟨-, h⟩ | ⟨pk, h, -⟩
 ·exact h
 ·rw [hq] at h; cases h
theorem delete_yes {pk : Int} (hq : delQ B l D o d = some pk) (hl : l.length ≤ 400000) (hls : ∀ i, i < l.length → (ndAt l i).src.length ≤ 1000000) (hD : D.length ≤ 1000000) (hDs : ∀ d ∈ D, d.size ≤ 1000) (hB7 : (B 7).length ≤ 1000000) (hB4 : (B 4).length ≤ 1000000) (hB5 : (B 5).length ≤ 1000000) (w : World) (hG : RoundG w) (hB : BaseV w vb B) (hR : RdN w v l U) (hS : Rd w g (strs D)) :
  Fn Tryz.prog 22 #[vb, v, g, zv o, zv d] w fun u w' => ∃ z : DelZ, ndsZ z.left = ndsP (prN l D (goneL l pk) false) ∧ u = delYes o d l D pk z ∧ Mm w (delH l D pk z) w' := (delete_fn o d hl hls hD hDs hB7 hB4 hB5 w hG hB hR hS).mono fun u w' h => by
 rcases h with ⟨h, -⟩ | ⟨pk', h, h2⟩
 ·rw [hq] at h; cases h
 ·rw [hq] at h; cases h; exact h2
end
theorem exN_src : ∀ i, i < exN.length → (ndAt exN i).src.length ≤ 1000000 := by
 intro i hi
 have := (hasN_iff.1 ((validN_iff.1 exN_ok).node i hi)).len
 omega
theorem exD_size : ∀ d ∈ exD, d.size ≤ 1000 := fun d hd => by have := (okS_facts exS_ok).2.2 d hd; omega
attribute [local irreducible] WC WL WX POp Then Again Fn NX W1 WA WO QL RP RA Yld LoopAt HC HL HX HN H1 HA HO HQ HB HP A.blk A.grow A.rd A.obj A.mp AgainH CutH
attribute [local irreducible] A.mq A.mit A.all sumS rootP
set_option maxHeartbeats 8000000 in
theorem sane24_fn (w : World) (hG : RoundG w) : Fn Tryz.prog 10 #[] w fun u w' => u = .bool true ∧ Ext w w' := by
 refine enterH (l := []) rfl Tryz.ntmps10 rfl ?_
 refine hwNB ?_
 refine HL.one (H1.callr (vs := []) rfl rfl (fun w' _ => example24_fn w') ?_)
 rintro wa u w1 hMa ⟨⟨vl, vg, U, rfl, hN, hD⟩, hxa⟩
 have hx1 : Ext w w1 := hMa.ext.trans hxa
 have hG1 := hG.ext hx1
 obtain ⟨al, cl, rfl, -⟩ := hN.shape
 obtain ⟨ag, cg, hsg, hcg, -⟩ := id hD
 have hel : exN.length = 5 := rfl
 have heg : (strs exD).length = 5 := rfl
 rw [heg] at hsg hcg
 subst hsg
 rw [hel] at hN ⊢
 refine hwNB ?_
 refine HL.build (cs := rcells exOrd) rfl rfl rfl ?_
 refine hwNB ?_
 refine HL.one (H1.lit (cs := rcells exOrd) rfl rfl rfl rfl rfl rfl (fun b1 => ?_))
 refine hwNB ?_
 refine HL.build (cs := baseC (.slice none 0 0) (.slice (some ⟨b1, 0, none⟩) 1 1)) rfl rfl rfl ?_
 refine hwNB ?_
 refine HL.one (H1.alloc (cs := baseC (.slice none 0 0) (.slice none 0 0)) rfl rfl (fun b3 => ?_))
 refine hwNB ?_
 refine HL.one (H1.stAgg (b := b3) (cs := baseC (.slice none 0 0) (.slice none 0 0)) (vs := baseC (.slice none 0 0) (.slice (some ⟨b1, 0, none⟩) 1 1)) rfl rfl rfl (by intro v hv; simp only [baseC, List.mem_cons, List.not_mem_nil, or_false] at hv; rcases hv with rfl | rfl | rfl | rfl | rfl | rfl | rfl | rfl <;> rfl) rplA rfl ?_)
 refine hwNB ?_
 refine HL.one (H1.ldAgg (b := b3) (vs := baseC (.slice none 0 0) (.slice (some ⟨b1, 0, none⟩) 1 1)) rfl memA rfl (fun i v h => by rwa [Nat.zero_add]) rfl ?_)
 refine hwNB ?_
 refine HL.one (H1.callz (vs := [_, _, _, zv 3, zv 20]) rfl rfl (fun w' hM => delete_yes exDel1 (by decide) exN_src (by decide) exD_size (by decide) (by decide) (by decide) w' (hG1.ext hM.ext) (baseV_of exB_no (rdR_nil w') (RdR.of_blk (l := [exOrd]) (hM.blk (b := b1) memA))) (hN.ext hM.ext) (hD.ext hM.ext)) ?_)
 rintro z hz
 rw [exLeft] at hz
 obtain ⟨left, a1, c1, a2, c2, ai, ci, ad, cd⟩ := z
 obtain ⟨x0, x1, rfl, e0, e1⟩ : ∃ x0 x1 : NdZ, left = [x0, x1] ∧ x0.1 = ⟨2, 1, 8, []⟩ ∧ x1.1 = ⟨5, 4, 8, [2]⟩ := by
  unfold ndsZ at hz
  rcases left with _ | ⟨x0, _ | ⟨x1, _ | ⟨x2, t⟩⟩⟩
  ·cases hz
  ·injection hz with h1 h2; cases h2
  ·injection hz with h1 h2; injection h2 with h2 h3; exact ⟨x0, x1, rfl, h1, h2⟩
  ·injection hz with h1 h2; injection h2 with h2 h3; cases h3
 have hgl : (goneL exN 7).length = 3 := by rw [exGone]; rfl
 unfold delH delYes tombV
 dsimp only
 rw [hgl, exSrt, exKept, exLostD, show [x0, x1].length = 2 from rfl]
 refine hwNB ?_
 refine HL.one (H1.alloc (cs := tomb0) rfl rfl (fun b6 => ?_))
 refine hwNB ?_
 refine HL.one (H1.stAgg (b := b6) (cs := tomb0) (vs := [zv 3, zv 20, .string (rootP (exN.zip exD)), .string (rootP (prN exN exD (goneL exN 7) false)), .slice ai 3 ci, .slice ad 3 cd]) rfl rfl rfl (by intro v hv; simp only [List.mem_cons, List.not_mem_nil, or_false] at hv; rcases hv with rfl | rfl | rfl | rfl | rfl | rfl <;> rfl) rplA rfl ?_)
 refine hwNB ?_
 refine HL.one (H1.ldAgg (b := b3) (vs := baseC (.slice none 0 0) (.slice (some ⟨b1, 0, none⟩) 1 1)) rfl memA rfl (fun i v h => by rwa [Nat.zero_add]) rfl ?_)
 refine hwNB ?_
 refine HL.one (H1.callx (vs := [_, _, _, zv 3, zv 9]) rfl rfl (fun w' hM => delete_no exDel2 (by decide) exN_src (by decide) exD_size (by decide) (by decide) (by decide) w' (hG1.ext hM.ext) (baseV_of exB_no (rdR_nil w') (RdR.of_blk (l := [exOrd]) (hM.blk (b := b1) memA))) (hN.ext hM.ext) (hD.ext hM.ext)) ?_)
 unfold delNo
 refine hwNB ?_
 refine HL.one (H1.alloc (cs := tomb0) rfl rfl (fun b10 => ?_))
 refine hwNB ?_
 refine HL.one (H1.stAgg (b := b10) (cs := tomb0) (vs := tomb0) rfl rfl rfl (by intro v hv; simp only [tomb0, List.mem_cons, List.not_mem_nil, or_false] at hv; rcases hv with rfl | rfl | rfl | rfl | rfl | rfl <;> rfl) rplA rfl ?_)
 refine hwNB ?_
 refine HL.build (cs := rcells exHold) rfl rfl rfl ?_
 refine hwNB ?_
 refine HL.one (H1.lit (cs := rcells exHold) rfl rfl rfl rfl rfl rfl (fun b2 => ?_))
 refine hwNB ?_
 refine HL.one (H1.st (b := b3) (i := 4) rfl rfl (by intro _ h; cases h) (by intro _ h; cases h) rplA (by show 4 < 8; decide) ?_)
 rw [show (baseC (.slice none 0 0) (.slice (some ⟨b1, 0, none⟩) 1 1)).set 4 (.slice (some ⟨b2, 0, none⟩) 1 1) = baseC (.slice (some ⟨b2, 0, none⟩) 1 1) (.slice (some ⟨b1, 0, none⟩) 1 1) from rfl]
 refine hwNB ?_
 refine HL.one (H1.ldAgg (b := b3) (vs := baseC (.slice (some ⟨b2, 0, none⟩) 1 1) (.slice (some ⟨b1, 0, none⟩) 1 1)) rfl memA rfl (fun i v h => by rwa [Nat.zero_add]) rfl ?_)
 refine hwNB ?_
 refine HL.one (H1.callx (vs := [_, _, _, zv 3, zv 20]) rfl rfl (fun w' hM => delete_no exDel3 (by decide) exN_src (by decide) exD_size (by decide) (by decide) (by decide) w' (hG1.ext hM.ext) (baseV_of exB2_no (RdR.of_blk (l := [exHold]) (hM.blk (b := b2) memA)) (RdR.of_blk (l := [exOrd]) (hM.blk (b := b1) memA))) (hN.ext hM.ext) (hD.ext hM.ext)) ?_)
 unfold delNo
 refine hwNB ?_
 refine HL.one (H1.alloc (cs := tomb0) rfl rfl (fun b14 => ?_))
 refine hwNB ?_
 refine HL.one (H1.stAgg (b := b14) (cs := tomb0) (vs := tomb0) rfl rfl rfl (by intro v hv; simp only [tomb0, List.mem_cons, List.not_mem_nil, or_false] at hv; rcases hv with rfl | rfl | rfl | rfl | rfl | rfl <;> rfl) rplA rfl ?_)
 refine hwNB ?_
 refine HL.one (H1.callx (vs := [_, _]) rfl rfl (fun w' hM => linRoot_fn (by decide) exN_src (by decide) exD_size w' (hG1.ext hM.ext) (hN.ext hM.ext) (hD.ext hM.ext)) ?_)
 rw [if_pos exS_ok]
 refine hwNB ?_
 have hzn : ndsZ [x0, x1] = ndsP (prN exN exD (goneL exN 7) false) := by rw [exLeft]; unfold ndsZ; rw [List.map_cons, List.map_cons, e0, e1]; rfl
 refine HC.openg (e := 31) (sz := 4) (a := a1) (c := c1) (n := 2) (xs := ndsV [x0, x1]) memA (by decide) ?_
 rintro bn rfl
 refine HC.openg (e := 9) (sz := 1) (a := a2) (c := c2) (n := 2) (xs := strs [exdg 1, exdg 4]) memA (by decide) ?_
 rintro bk rfl
 obtain ⟨bg, og, rfl⟩ := rd_addr hD (show 4 < 5 by decide)
 have hg4 := hD.cell (i := 4) (u := .string (exdg 4)) rfl
 have hc0 : (ndsV [x0, x1])[0]? = some (zv 2) := by
  show some (zv x0.1.id) = _; rw [e0]
 have hc4 : (ndsV [x0, x1])[4]? = some (zv 5) := by
  show some (zv x1.1.id) = _; rw [e1]
 refine HC.cut (α := Unit) (fun _ => [(1, .slice al 5 cl), (2, .slice (some ⟨bg, og, none⟩) 5 cg), (4, .slice (some ⟨bn, 0, none⟩) 2 c1), (5, .slice (some ⟨bk, 0, none⟩) 2 c2), (6, .pointer (some ⟨b6, 0, none⟩)), (16, .string (rootP (exN.zip exD))), (17, zv 0), (18, .bool true)])
  (fun _ => [A.blk b6 [zv 3, zv 20, .string (rootP (exN.zip exD)), .string (rootP (prN exN exD (goneL exN 7) false)), .slice ai 3 ci, .slice ad 3 cd] 51, A.grow 31 4 (some ⟨bn, 0, none⟩) c1 2 (ndsV [x0, x1]), A.grow 9 1 (some ⟨bk, 0, none⟩) c2 2 (strs [exdg 1, exdg 4]), A.all (rowsA [x0, x1]), A.grow 3 1 ai ci 3 (ints [1, 3, 4]), A.grow 9 1 ad cd 3 (strs [exdg 0, exdg 2, exdg 3])]) (fun _ => True) ?_ ?_
 ·refine HC.anyC ([(⟨b6, 4, none⟩, .slice ai 3 ci), (⟨bn, 0, none⟩, zv 2), (⟨bn, 4, none⟩, zv 5), (⟨bk, 1, none⟩, .string (exdg 4)), (⟨bg, og + 4, none⟩, .string (exdg 4))]) rfl ?_
  refine HB.pa 0 rfl ?_
  refine HB.pa 1 rfl ?_
  refine HB.pa 2 rfl ?_
  first | refine HB.ga 3 rfl rfl ?_ | refine HB.na 3 rfl rfl ?_ | refine HB.nu 3 rfl rfl ?_
  refine HB.ldg 4 rfl rfl rfl (.head _) ?_
  refine HB.all (by (exact Keep.blk (b := b6) (cs := [zv 3, zv 20, .string (rootP (exN.zip exD)), .string (rootP (prN exN exD (goneL exN 7) false)), .slice ai 3 ci, .slice ad 3 cd]) (e := 51) memD rfl (Keep.grow (b := bn) (sz := 4) (n := 2) (c := c1) (vs := ndsV [x0, x1]) (e := 31) memD hc0 (Keep.grow (b := bn) (sz := 4) (n := 2) (c := c1) (vs := ndsV [x0, x1]) (e := 31) memD hc4 (Keep.grow (b := bk) (sz := 1) (n := 2) (c := c2) (vs := strs [exdg 1, exdg 4]) (e := 9) memD rfl (Keep.base hg4 Keep.nil)))))) [5] (by kernel_rfl) rfl ⟨⟨_, rfl, ?_⟩, trivial⟩
  refine HP.one_a rfl ?_
  refine H1.lit (cs := ints [1, 3, 4]) rfl rfl rfl rfl rfl rfl (fun b8 => ?_)
  apply HB.fold
  refine HB.all (by (exact Keep.blk (b := b6) (cs := [zv 3, zv 20, .string (rootP (exN.zip exD)), .string (rootP (prN exN exD (goneL exN 7) false)), .slice ai 3 ci, .slice ad 3 cd]) (e := 51) memD rfl (Keep.grow (b := bn) (sz := 4) (n := 2) (c := c1) (vs := ndsV [x0, x1]) (e := 31) memD hc0 (Keep.grow (b := bn) (sz := 4) (n := 2) (c := c1) (vs := ndsV [x0, x1]) (e := 31) memD hc4 (Keep.grow (b := bk) (sz := 1) (n := 2) (c := c2) (vs := strs [exdg 1, exdg 4]) (e := 9) memD rfl (Keep.base hg4 Keep.nil)))))) [6] (by kernel_rfl) rfl ⟨⟨_, rfl, ?_⟩, trivial⟩
  refine HP.one_a rfl ?_
  refine H1.callx (u := .bool true) (vs := [_, _]) rfl rfl (fun w' hM => (SameInts_fn _ _ [1, 3, 4] [1, 3, 4] w' (hM.gr (a := ai) (c := ci) memA) (blk_rd (hM.blk (b := b8) memA) rfl) (by decide)).mono fun v w'' h => ⟨h.1.trans (by rw [decide_eq_true rfl]), h.2⟩) ?_
  apply HB.fold
  refine HB.pa 7 rfl ?_
  refine HB.pa 8 rfl ?_
  first | refine HB.ga 9 rfl rfl ?_ | refine HB.na 9 rfl rfl ?_ | refine HB.nu 9 rfl rfl ?_
  first | refine HB.ga 10 rfl rfl ?_ | refine HB.na 10 rfl rfl ?_ | refine HB.nu 10 rfl rfl ?_
  first | refine HB.ga 11 rfl rfl ?_ | refine HB.na 11 rfl rfl ?_ | refine HB.nu 11 rfl rfl ?_
  refine HB.ldg 12 rfl rfl rfl (.tail _ (.head _)) ?_
  first | refine HB.ga 13 rfl rfl ?_ | refine HB.na 13 rfl rfl ?_ | refine HB.nu 13 rfl rfl ?_
  refine HB.pa 14 rfl ?_
  refine HB.pa 15 rfl ?_
  first | refine HB.ga 16 rfl rfl ?_ | refine HB.na 16 rfl rfl ?_ | refine HB.nu 16 rfl rfl ?_
  first | refine HB.ga 17 rfl rfl ?_ | refine HB.na 17 rfl rfl ?_ | refine HB.nu 17 rfl rfl ?_
  first | refine HB.ga 18 rfl rfl ?_ | refine HB.na 18 rfl rfl ?_ | refine HB.nu 18 rfl rfl ?_
  refine HB.ldg 19 rfl rfl rfl (.tail _ (.tail _ (.head _))) ?_
  first | refine HB.ga 20 rfl rfl ?_ | refine HB.na 20 rfl rfl ?_ | refine HB.nu 20 rfl rfl ?_
  refine HB.pa 21 rfl ?_
  refine HB.pa 22 rfl ?_
  first | refine HB.ga 23 rfl rfl ?_ | refine HB.na 23 rfl rfl ?_ | refine HB.nu 23 rfl rfl ?_
  first | refine HB.ga 24 rfl rfl ?_ | refine HB.na 24 rfl rfl ?_ | refine HB.nu 24 rfl rfl ?_
  refine HB.ldg 25 rfl rfl rfl (.tail _ (.tail _ (.tail _ (.head _)))) ?_
  first | refine HB.ga 26 rfl rfl ?_ | refine HB.na 26 rfl rfl ?_ | refine HB.nu 26 rfl rfl ?_
  first | refine HB.ga 27 rfl rfl ?_ | refine HB.na 27 rfl rfl ?_ | refine HB.nu 27 rfl rfl ?_
  refine HB.ldg 28 rfl rfl rfl (.tail _ (.tail _ (.tail _ (.tail _ (.head _))))) ?_
  first | refine HB.ga 29 rfl rfl ?_ | refine HB.na 29 rfl rfl ?_ | refine HB.nu 29 rfl rfl ?_
  refine HB.pa 30 rfl ?_
  refine HB.pa 31 rfl ?_
  first | refine HB.ga 32 rfl rfl ?_ | refine HB.na 32 rfl rfl ?_ | refine HB.nu 32 rfl rfl ?_
  first | refine HB.ga 33 rfl rfl ?_ | refine HB.na 33 rfl rfl ?_ | refine HB.nu 33 rfl rfl ?_
  refine HB.pa 34 rfl ?_
  refine HB.pa 35 rfl ?_
  first | refine HB.ga 36 rfl rfl ?_ | refine HB.na 36 rfl rfl ?_ | refine HB.nu 36 rfl rfl ?_
  first | refine HB.ga 37 rfl rfl ?_ | refine HB.na 37 rfl rfl ?_ | refine HB.nu 37 rfl rfl ?_
  refine HB.pa 38 rfl ?_
  refine HB.pa 39 rfl ?_
  refine HB.done (by (exact Keep.blk (b := b6) (cs := [zv 3, zv 20, .string (rootP (exN.zip exD)), .string (rootP (prN exN exD (goneL exN 7) false)), .slice ai 3 ci, .slice ad 3 cd]) (e := 51) memD rfl (Keep.grow (b := bn) (sz := 4) (n := 2) (c := c1) (vs := ndsV [x0, x1]) (e := 31) memD hc0 (Keep.grow (b := bn) (sz := 4) (n := 2) (c := c1) (vs := ndsV [x0, x1]) (e := 31) memD hc4 (Keep.grow (b := bk) (sz := 1) (n := 2) (c := c2) (vs := strs [exdg 1, exdg 4]) (e := 9) memD rfl (Keep.base hg4 Keep.nil)))))) (by kernel_rfl) ?_
  exact HX.cut () trivial esA (by repeat (first | exact Hs.nil _ | (refine Hs.cons pickA ?_)))
 rintro - -
 have hch1 := exChk1
 rw [exSrt, exKept, exLostD] at hch1
 refine hwNB ?_
 refine HL.one (H1.ldAgg (b := b6) (vs := [zv 3, zv 20, .string (rootP (exN.zip exD)), .string (rootP (prN exN exD (goneL exN 7) false)), .slice ai 3 ci, .slice ad 3 cd]) rfl memA rfl (fun i v h => by rwa [Nat.zero_add]) rfl ?_)
 refine hwNB ?_
 refine HL.one (H1.callx (u := .bool true) (vs := [_, _, _, _, _]) rfl rfl (fun w' hM => by
  have h := check_fn (l := exN) (D := exD) (l2 := ndsZ [x0, x1]) (D2 := [exdg 1, exdg 4]) (ns := [1, 3, 4]) (ds := [exdg 0, exdg 2, exdg 3]) 3 20 (rootP (exN.zip exD)) (rootP (prN exN exD (goneL exN 7) false)) (by decide) exN_src (by decide) exD_size (by rw [hzn, exLeft]; decide) (by rw [hzn, exLeft]; decide) (by decide) (fun d hd => by
   simp only [List.mem_cons, List.not_mem_nil, or_false] at hd
   rcases hd with rfl | rfl <;> (rw [exdg_size]; decide)) (by decide) (by decide) w' (hG1.ext hM.ext) (hN.ext hM.ext) (hD.ext hM.ext) (hM.rdN (a := some ⟨bn, 0, none⟩) (c := c1) (z := [x0, x1]) memA memA) (hM.gr (a := some ⟨bk, 0, none⟩) (c := c2) memA) (hM.gr (a := ai) (c := ci) memA) (hM.gr (a := ad) (c := cd) memA)
  rw [hzn, hch1] at h
  exact h) ?_)
 refine hwNB ?_
 refine HL.one (H1.ldAgg (b := b6) (vs := [zv 3, zv 20, .string (rootP (exN.zip exD)), .string (rootP (prN exN exD (goneL exN 7) false)), .slice ai 3 ci, .slice ad 3 cd]) rfl memA rfl (fun i v h => by rwa [Nat.zero_add]) rfl ?_)
 refine hwNB ?_
 refine HL.one (H1.callx (u := .bool false) (vs := [_, _, _, _, _]) rfl rfl (fun w' hM => by
  have h := check_fn (l := exN) (D := exD) (l2 := exN) (D2 := exD) (ns := [1, 3, 4]) (ds := [exdg 0, exdg 2, exdg 3]) 3 20 (rootP (exN.zip exD)) (rootP (prN exN exD (goneL exN 7) false)) (by decide) exN_src (by decide) exD_size (by decide) exN_src (by decide) exD_size (by decide) (by decide) w' (hG1.ext hM.ext) (hN.ext hM.ext) (hD.ext hM.ext) (hN.ext hM.ext) (hD.ext hM.ext) (hM.gr (a := ai) (c := ci) memA) (hM.gr (a := ad) (c := cd) memA)
  have hch2 := exChk2 (rootP (exN.zip exD)) (rootP (prN exN exD (goneL exN 7) false)) [exdg 0, exdg 2, exdg 3]
  rw [exSrt] at hch2
  rw [hch2] at h
  exact h) ?_)
 refine hwNB ?_
 refine HL.one (H1.callx (u := .bool true) (vs := [_]) rfl rfl (fun w' hM => by
  have h := valid24_fn (l := exN) (by decide) exN_src w' (hN.ext hM.ext)
  rw [exN_ok] at h
  exact h) ?_)
 refine hwNB ?_
 refine HL.one (H1.lit (cs := ints [5, 9]) rfl rfl rfl rfl rfl rfl (fun b21 => ?_))
 refine hwNB ?_
 refine HL.one (H1.callz (α := Option Addr × Nat) (V := fun z => .slice z.1 1 z.2) (Hn := fun z => [A.grow 3 1 z.1 z.2 1 (ints [5])]) (I := fun _ => True) (vs := [_, _]) rfl rfl (fun w' hM => by
  have h := derivedA_fn (l := exN) (f := [5, 9]) (by decide) exN_src (by decide) w' (hN.ext hM.ext) (blk_rd (hM.blk (b := b21) memA) rfl)
  rw [exDer] at h
  exact h) ?_)
 rintro ⟨az, cz⟩ -
 refine hwNB ?_
 refine HL.one (H1.lit (cs := ints [5]) rfl rfl rfl rfl rfl rfl (fun b22 => ?_))
 refine hwNB ?_
 refine HL.one (H1.callx (u := .bool true) (vs := [_, _]) rfl rfl (fun w' hM => (SameInts_fn _ _ [5] [5] w' (hM.gr (a := az) (c := cz) memA) (blk_rd (hM.blk (b := b22) memA) rfl) (by decide)).mono fun v w'' h => ⟨h.1.trans (by rw [decide_eq_true rfl]), h.2⟩) ?_)
 refine hwNB ?_
 exact HX.ret1 rfl rfl fun w' hM => ⟨rfl, hx1.trans hM.ext⟩
end Go.Sx
/- Plain, chapter 24: the nodes that integers determine are valid. -/
namespace Go.Sx
open Go Go.RowKit
def yI (y : List Int) (j : Nat) : Int := y.getD j 0
def lastId : List Nd → Int
 | [] => 0
 | n :: l => match l with
  | [] => n.id
  | _ :: _ => lastId l
theorem lastId_snoc (l : List Nd) (n : Nd) : lastId (l ++ [n]) = n.id := by
 induction l with
 | nil => rfl
 | cons m l ih =>
  cases l with
  | nil => rfl
  | cons k l => exact ih
def srcA (l : List Nd) (y : List Int) : Nat := (pickI21 (yI y 2) l.length).toNat
def srcB (l : List Nd) (y : List Int) : Nat := (pickI21 (yI y 3) l.length).toNat
def idM (l : List Nd) (y : List Int) : Int := lastId l + 1 + pickI21 (yI y 0) 3
def isSrc (l : List Nd) (y : List Int) : Prop := 0 < l.length ∧ 0 < pickI21 ((yI y 0).tdiv 3) 3
instance (l : List Nd) (y : List Int) : Decidable (isSrc l y) := by unfold isSrc; infer_instance
def mkNd (l : List Nd) (y : List Int) : Nd :=
 if isSrc l y then ⟨idM l y, 2 + pickI21 ((yI y 1).tdiv 4) 4, (ndAt l (srcA l y)).pack, (ndAt l (min (srcA l y) (srcB l y))).id :: if srcA l y = srcB l y then [] else [(ndAt l (max (srcA l y) (srcB l y))).id]⟩
 else ⟨idM l y, 1, 1 + pickI21 (yI y 1) 4, []⟩
def madeL (rows : List (List Int)) : Nat → List Nd
 | 0 => []
 | i + 1 => madeL rows i ++ [mkNd (madeL rows i) (rows.getD i [])]
theorem madeL_len (rows : List (List Int)) : ∀ i, (madeL rows i).length = i
 | 0 => rfl
 | i + 1 => by show (_ ++ [_]).length = _; rw [List.length_append, madeL_len rows i]; rfl
theorem mkNd_id (l : List Nd) (y : List Int) : (mkNd l y).id = idM l y := by unfold mkNd; split <;> rfl
theorem ndAt_app_l {l : List Nd} {n : Nd} {i : Nat} (h : i < l.length) : ndAt (l ++ [n]) i = ndAt l i := by unfold ndAt; rw [List.getD_eq_getElem?_getD, List.getD_eq_getElem?_getD, List.getElem?_append_left h]
theorem ndAt_app_r (l : List Nd) (n : Nd) : ndAt (l ++ [n]) l.length = n := by unfold ndAt; simp
theorem valid_snoc {l : List Nd} {n : Nd} (h : ValidP l) (hl : l.length < 400) (hn : HasP l n) (hi : ∀ j, j < l.length → (ndAt l j).id < n.id) : ValidP (l ++ [n]) := by
 refine ⟨by rw [List.length_append]; exact hl, fun i j hij hj => ?_, fun i hi2 => ?_⟩
 ·rw [List.length_append, List.length_singleton] at hj
  by_cases e : j = l.length
  ·subst e
   rw [ndAt_app_r, ndAt_app_l hij]
   exact hi i hij
  ·rw [ndAt_app_l (by omega), ndAt_app_l (by omega)]
   exact h.asc i j hij (by omega)
 ·rw [List.length_append, List.length_singleton] at hi2
  by_cases e : i = l.length
  ·subst e
   rw [ndAt_app_r, List.take_left' rfl]
   exact hasN_iff.2 hn
  ·rw [ndAt_app_l (by omega), List.take_append_of_le_length (by omega)]
   exact h.node i (by omega)
structure MadeP (l : List Nd) : Prop where
 valid : ValidP l
 id : ∀ j, j < l.length → (ndAt l j).id ≤ lastId l
 last : 0 ≤ lastId l ∧ lastId l ≤ 3 * l.length
 pack : ∀ j, j < l.length → 1 ≤ (ndAt l j).pack ∧ (ndAt l j).pack ≤ 4
theorem ValidP.nil : ValidP [] := ⟨Nat.zero_le _, (fun _ _ _ h => by cases h), (fun _ h => by cases h)⟩
theorem made_nil : MadeP [] := ⟨ValidP.nil, (fun _ h => by cases h), by decide, (fun _ h => by cases h)⟩
theorem pickNat (c : Int) {n : Nat} (h : 0 < n) : (pickI21 c n).toNat < n ∧ ((pickI21 c n).toNat : Int) = pickI21 c n := by
 have := pickI21_lt c (n := (n : Int)) (by omega)
 omega
theorem made_step {l : List Nd} (h : MadeP l) (hl : l.length < 100) (y : List Int) : MadeP (l ++ [mkNd l y]) := by
 have h1 := pickI21_lt (yI y 0) (n := 3) (by decide)
 have h2 := pickI21_lt (yI y 1) (n := 4) (by decide)
 have h3 := pickI21_lt ((yI y 1).tdiv 4) (n := 4) (by decide)
 have hl1 := h.last
 have hid : idM l y = lastId l + 1 + pickI21 (yI y 0) 3 := rfl
 have hok : idOk (idM l y) := by unfold idOk; omega
 have hless : ∀ j, j < l.length → (ndAt l j).id < idM l y := fun j hj => by have := h.id j hj; omega
 have hnd : (idsN l).Nodup := ascI_nodup (idsN_asc h.valid)
 have hn : HasP l (mkNd l y) ∧ 1 ≤ (mkNd l y).pack ∧ (mkNd l y).pack ≤ 4 := by
  unfold mkNd
  split
  ·rename_i hs
   have ha := pickNat (yI y 2) hs.1
   have hb := pickNat (yI y 3) hs.1
   rw [show (pickI21 (yI y 2) l.length).toNat = srcA l y from rfl] at ha
   rw [show (pickI21 (yI y 3) l.length).toNat = srcB l y from rfl] at hb
   generalize srcA l y = a at ha
   generalize srcB l y = b at hb
   have hpa := h.pack a ha.1
   have hida : ∀ j, j < l.length → ∃ n ∈ l, (ndAt l j).id = n.id := fun j hj => ⟨_, mem_nd.2 ⟨j, hj, rfl⟩, rfl⟩
   have hmem : (ndAt l a).id ∈ (ndAt l (min a b)).id :: if a = b then [] else [(ndAt l (max a b)).id] := by
    by_cases e : a = b
    ·rw [if_pos e]; subst e; rw [Nat.min_self]; exact .head _
    ·rw [if_neg e]
     by_cases e2 : a ≤ b
     ·rw [Nat.min_eq_left e2]; exact .head _
     ·rw [Nat.max_eq_left (by omega)]; exact .tail _ (.head _)
   refine ⟨⟨hok, ⟨hpa.1, by dsimp only; omega⟩, by dsimp only; omega, by dsimp only; omega, ?_, ?_, ?_, .inr ?_, ?_⟩, hpa⟩
   ·dsimp only; split <;> simp
   ·dsimp only; constructor
    ·intro e; omega
    ·intro e; split at e <;> simp at e
   ·intro x hx
    rw [pkOf_mem]
    dsimp only at hx
    rcases List.mem_cons.1 hx with rfl | hx
    ·exact hida _ (by omega)
    ·split at hx
     ·cases hx
     ·rw [List.mem_singleton] at hx; subst hx; exact hida _ (by omega)
   ·unfold ownB
    rw [List.any_eq_true]
    exact ⟨_, hmem, by rw [pkOf_uniq hnd (mem_nd.2 ⟨a, ha.1, rfl⟩)]; simp⟩
   ·dsimp only
    by_cases e : a = b
    ·rw [if_pos e]; exact ascI_short (Nat.le_refl 1)
    ·rw [if_neg e]
     unfold AscI
     refine List.pairwise_cons.2 ⟨fun z hz => ?_, List.pairwise_singleton _ _⟩
     rw [List.mem_singleton] at hz; subst hz
     exact h.valid.asc _ _ (by omega) (by omega)
  ·refine ⟨⟨hok, ⟨by dsimp only; omega, by dsimp only; omega⟩, by dsimp only; omega, by dsimp only; omega, by simp, ⟨fun _ => rfl, fun _ => rfl⟩, (fun x hx => by cases hx), .inl rfl, ascI_short (Nat.zero_le _)⟩, by dsimp only; omega, by dsimp only; omega⟩
 refine ⟨valid_snoc h.valid (by omega) hn.1 fun j hj => by rw [mkNd_id]; exact hless j hj, fun j hj => ?_, ?_, fun j hj => ?_⟩
 ·rw [lastId_snoc, mkNd_id]
  rw [List.length_append, List.length_singleton] at hj
  by_cases e : j = l.length
  ·subst e; rw [ndAt_app_r, mkNd_id]; exact Int.le_refl _
  ·rw [ndAt_app_l (by omega)]
   have := hless j (by omega); omega
 ·rw [lastId_snoc, mkNd_id, List.length_append, List.length_singleton]
  omega
 ·rw [List.length_append, List.length_singleton] at hj
  by_cases e : j = l.length
  ·subst e; rw [ndAt_app_r]; exact hn.2
  ·rw [ndAt_app_l (by omega)]; exact h.pack j (by omega)
theorem madeL_ok (rows : List (List Int)) : ∀ i, i ≤ 100 → MadeP (madeL rows i)
 | 0, _ => made_nil
 | i + 1, h => made_step (madeL_ok rows i (by omega)) (by rw [madeL_len]; omega) _
end Go.Sx
/- Plain, chapters 1 and 26: numbers and strings that are read back; a journal's content. -/
namespace Go.Sx
open Go
def unz (z : Nat) : Int := if z % 2 = 0 then ((z / 2 : Nat) : Int) else -((z / 2 : Nat) : Int) - 1
def decG (s : List UInt8) (p i z : Nat) : Option (Nat × Nat) :=
 if h : i < 9 then
  if p + i < s.length then
   if 128 ≤ (s.getD (p + i) 0).toNat then decG s p (i + 1) (z + (s.getD (p + i) 0).toNat % 128 * 2 ^ (7 * i))
   else if ((s.getD (p + i) 0).toNat = 0 ∧ 0 < i) ∨ unz (z + (s.getD (p + i) 0).toNat % 128 * 2 ^ (7 * i)) < -4611686018427387903 then none
   else some (z + (s.getD (p + i) 0).toNat % 128 * 2 ^ (7 * i), p + i + 1)
  else none
 else none
termination_by 9 - i
theorem decG_on {s : List UInt8} {p i z : Nat} (hi : i < 9) (h : p + i < s.length) (hb : 128 ≤ (s.getD (p + i) 0).toNat) : decG s p i z = decG s p (i + 1) (z + (s.getD (p + i) 0).toNat % 128 * 2 ^ (7 * i)) := by
 rw [decG, dif_pos hi, if_pos h, if_pos hb]
theorem decG_yes {s : List UInt8} {p i z : Nat} (hi : i < 9) (h : p + i < s.length) (hb : ¬ 128 ≤ (s.getD (p + i) 0).toNat)
  (hn : ¬ (((s.getD (p + i) 0).toNat = 0 ∧ 0 < i) ∨ unz (z + (s.getD (p + i) 0).toNat % 128 * 2 ^ (7 * i)) < -4611686018427387903)) : decG s p i z = some (z + (s.getD (p + i) 0).toNat % 128 * 2 ^ (7 * i), p + i + 1) := by
 rw [decG, dif_pos hi, if_pos h, if_neg hb, if_neg hn]
def decI (s : List UInt8) (p : Nat) : Option (Nat × Nat) := decG s p 0 0
def decS (s : List UInt8) (p : Nat) : Option (List UInt8 × Nat) :=
 match decI s p with
 | none => none
 | some (z, q) => if unz z < 0 ∨ unz z > 65536 ∨ unz z > ((s.length : Nat) : Int) - (q : Int) then none else some ((s.drop q).take (unz z).toNat, q + (unz z).toNat)
structure Tp where
 recs : List ByteArray
 head : ByteArray
 size : Nat
def outL (h r : ByteArray) : List UInt8 := 1 :: (putN r.size ++ r.data.toList ++ (chainS h r).data.toList)
def outB (h r : ByteArray) : ByteArray := ⟨(outL h r).toArray⟩
def Tp.add (t : Tp) (r : ByteArray) : Tp := ⟨t.recs ++ [r], chainS t.head r, t.size + (outL t.head r).length⟩
def mkBA (l : List UInt8) : ByteArray := ⟨l.toArray⟩
theorem outL_pos (h r : ByteArray) : 0 < (outL h r).length := by unfold outL; rw [List.length_cons]; omega
def loadF (s : List UInt8) (t : Tp) : Option Tp :=
 if _h : t.size < s.length ∧ s.getD t.size 0 ≠ 0 then
  if s.getD t.size 0 = 1 then
   match decS s (t.size + 1) with
   | none => none
   | some (r, q) => if q + 32 ≤ s.length ∧ outL t.head (mkBA r) = (s.drop t.size).take (q + 32 - t.size) then loadF s (t.add (mkBA r)) else none
  else none
 else some t
termination_by s.length - t.size
decreasing_by
 have := outL_pos t.head (mkBA r)
 show s.length - (t.size + (outL t.head (mkBA r)).length) < _
 omega
theorem loadF_step {s : List UInt8} {t : Tp} {r : List UInt8} {q : Nat} (h : t.size < s.length ∧ s.getD t.size 0 ≠ 0) (h1 : s.getD t.size 0 = 1) (hd : decS s (t.size + 1) = some (r, q))
  (hn : q + 32 ≤ s.length ∧ outL t.head (mkBA r) = (s.drop t.size).take (q + 32 - t.size)) : loadF s t = loadF s (t.add (mkBA r)) := by
 rw [loadF, dif_pos h, if_pos h1, hd]
 simp only
 rw [if_pos hn]
end Go.Sx
/- Plain, chapters 1 and 26: what was stored is read back. -/
namespace Go.Sx
open Go
theorem getD_drop {s r : List UInt8} {p : Nat} {b : UInt8} (h : s.drop p = b :: r) : p < s.length ∧ s.getD p 0 = b ∧ s.drop (p + 1) = r := by
 have h1 : p < s.length := by
  rcases Nat.lt_or_ge p s.length with h2 | h2
  ·exact h2
  ·rw [List.drop_of_length_le h2] at h; cases h
 rw [List.drop_eq_getElem_cons h1] at h
 injection h with h2 h3
 refine ⟨h1, ?_, h3⟩
 rw [List.getD_eq_getElem?_getD, List.getElem?_eq_getElem h1]
 exact h2
theorem drop_app {s a r : List UInt8} {p : Nat} (h : s.drop p = a ++ r) : s.drop (p + a.length) = r := by
 rw [← List.drop_drop, h, List.drop_left]
theorem drop_len {s a r : List UInt8} {p : Nat} (h : s.drop p = a ++ r) (ha : 0 < a.length) : s.length = p + a.length + r.length := by
 have := congrArg List.length h
 rw [List.length_drop, List.length_append] at this
 omega
theorem u8_nat {a : Nat} (h : a < 256) : (UInt8.ofNat a).toNat = a := by simp; omega
theorem decG_vint : ∀ (n v i z : Nat), v < 128 ^ (n + 1) → i + n < 9 → (0 < i → 0 < v) → ∀ {s rest : List UInt8} {p : Nat}, s.drop (p + i) = vint v ++ rest → 0 ≤ unz (z + v * 2 ^ (7 * i)) →
  decG s p i z = some (z + v * 2 ^ (7 * i), p + i + (vint v).length)
 | n, v, i, z, hv, hi, h0, s, rest, p, hs, hu => by
  by_cases h : v < 128
  ·rw [vint_lt h] at hs ⊢
   obtain ⟨h1, h2, h3⟩ := getD_drop hs
   have h4 := u8_nat (show v < 256 by omega)
   have e : (s.getD (p + i) 0).toNat = v := by rw [h2, h4]
   have hmod : v % 128 = v := Nat.mod_eq_of_lt h
   rw [decG_yes (by omega) h1 (by omega) (by rw [e, hmod]; omega), e, hmod]; rfl
  ·match n, hv, hi with
   | 0, hv, hi => omega
   | n + 1, hv, hi =>
    rw [vint_ge h] at hs ⊢
    obtain ⟨h1, h2, h3⟩ := getD_drop hs
    have h4 := u8_nat (show v % 128 + 128 < 256 by omega)
    have e : (s.getD (p + i) 0).toNat = v % 128 + 128 := by rw [h2, h4]
    have hmod : (v % 128 + 128) % 128 = v % 128 := by omega
    have hz : z + v % 128 * 2 ^ (7 * i) + v / 128 * 2 ^ (7 * (i + 1)) = z + v * 2 ^ (7 * i) := by
     have e2 : 2 ^ (7 * (i + 1)) = 128 * 2 ^ (7 * i) := by rw [Nat.mul_add, Nat.pow_add, Nat.mul_comm]
     rw [e2, Nat.add_assoc, ← Nat.mul_assoc, ← Nat.add_mul]
     congr 2
     omega
    rw [decG_on (by omega) h1 (by omega), e, hmod, decG_vint n (v / 128) (i + 1) _ (by rw [Nat.pow_succ] at hv; omega) (by omega) (by omega) h3 (by rw [hz]; exact hu), hz, List.length_cons]
    congr 2; omega
theorem unz_even (n : Nat) : unz (2 * n) = (n : Int) := by
 unfold unz
 rw [if_pos (by omega)]
 omega
theorem decI_putN {n : Nat} (hn : n ≤ 1099511627776) {s rest : List UInt8} {p : Nat} (h : s.drop p = putN n ++ rest) : decI s p = some (2 * n, p + (putN n).length) := by
 have := decG_vint 8 (2 * n) 0 0 (by omega) (by omega) (fun h => by omega) (s := s) (rest := rest) (p := p) h (by rw [Nat.mul_zero, Nat.pow_zero, Nat.mul_one, Nat.zero_add, unz_even]; omega)
 unfold decI
 rw [this, Nat.mul_zero, Nat.pow_zero, Nat.mul_one, Nat.zero_add]; rfl
theorem decS_putN {r : List UInt8} (hr : r.length ≤ 65536) {s rest : List UInt8} {p : Nat} (h : s.drop p = putN r.length ++ r ++ rest) : decS s p = some (r, p + (putN r.length).length + r.length) := by
 rw [List.append_assoc] at h
 have hd := decI_putN (by omega) h
 have h2 := drop_app h
 have hl := congrArg List.length h2
 rw [List.length_drop, List.length_append] at hl
 have hp : 0 < (putN r.length).length := by
  unfold putN; unfold vint; split <;> simp
 have hq := drop_len h hp
 rw [List.length_append] at hq
 unfold decS
 rw [hd]
 simp only [unz_even]
 rw [if_neg (by omega), h2, Int.toNat_natCast]
 simp
def outsL (h : ByteArray) : List ByteArray → List UInt8
 | [] => []
 | r :: l => outL h r ++ outsL (chainS h r) l
def adds (t : Tp) (l : List ByteArray) : Tp := l.foldl Tp.add t
theorem adds_nil (t : Tp) : adds t [] = t := rfl
theorem adds_cons (t : Tp) (r : ByteArray) (l : List ByteArray) : adds t (r :: l) = adds (t.add r) l := rfl
theorem loadF_add {s rest : List UInt8} {t : Tp} {r : ByteArray} (hr : r.size ≤ 65536) (h : s.drop t.size = outL t.head r ++ rest) : loadF s t = loadF s (t.add r) := by
 have hrl : r.data.toList.length = r.size := by rw [Array.length_toList]; rfl
 have hcl : (chainS t.head r).data.toList.length = 32 := by rw [Array.length_toList]; exact chainS_size t.head r
 have hout : outL t.head r = 1 :: (putN r.size ++ r.data.toList ++ (chainS t.head r).data.toList) := rfl
 have hmk : mkBA r.data.toList = r := by cases r; rfl
 rw [hout, List.cons_append] at h
 obtain ⟨h1, h2, h3⟩ := getD_drop h
 have h3' : s.drop (t.size + 1) = putN r.data.toList.length ++ r.data.toList ++ ((chainS t.head r).data.toList ++ rest) := by rw [h3, hrl]; simp
 have hd := decS_putN (by omega) h3'
 have hpr : (putN r.data.toList.length).length = (putN r.size).length := by rw [hrl]
 have hlen := congrArg List.length h3
 simp only [List.length_drop, List.length_append] at hlen
 have hol : (outL t.head r).length = 1 + (putN r.size).length + r.size + 32 := by rw [hout]; simp only [List.length_cons, List.length_append]; omega
 have hstep := loadF_step (t := t) ⟨h1, by rw [h2]; decide⟩ h2 hd ⟨by omega, ?_⟩
 ·rw [hmk] at hstep; exact hstep
 ·rw [hmk, h, ← List.cons_append, ← hout, show t.size + 1 + (putN r.data.toList.length).length + r.data.toList.length + 32 - t.size = (outL t.head r).length from by rw [hol, hrl]; omega, List.take_left]
def isZero (l : List UInt8) : Bool := l.all (· == 0)
end Go.Sx
/- Chapters 1 and 6: the reference's numbers: the walks. -/
namespace Go.Sx
open Go Go.Proofs Go.RowKit
section
variable {P : Program} {N : Nat} {ds : List Deferred} {E : Env} {t t' ty : TypeId} {x y : Operand} {a b : Nat}
theorem POp.remU (hx : Env.ev E x = some (.int .u64 (a : Int))) (hy : Env.ev E y = some (.int .u64 (b : Int))) (h2 : 0 < b) : POp P N ds E (.binOp .rem t x y t') ty (.int .u64 ((a % b : Nat) : Int)) := POp.bin hx hy guard_int fun w => by
 have e : (b : Int) ≠ 0 := by omega
 rw [binOp_rem]
 simp only [Op.intDiv, e, if_false]
 rw [Int.tmod_eq_emod_of_nonneg (by omega)]; rfl
theorem POp.quoU (hx : Env.ev E x = some (.int .u64 (a : Int))) (hy : Env.ev E y = some (.int .u64 (b : Int))) (h1 : a < 18446744073709551616) (h2 : 0 < b) : POp P N ds E (.binOp .quo t x y t') ty (.int .u64 ((a / b : Nat) : Int)) := POp.bin hx hy guard_int fun w => by
 have e : (b : Int) ≠ 0 := by omega
 have hle : a / b ≤ a := Nat.div_le_self a b
 rw [binOp_quo]
 simp only [Op.intDiv, e, if_false]
 rw [Int.tdiv_eq_ediv_of_nonneg (by omega), show (a : Int) / (b : Int) = ((a / b : Nat) : Int) from rfl, wrap_u64 (by omega)]; rfl
theorem POp.addU (hx : Env.ev E x = some (.int .u64 (a : Int))) (hy : Env.ev E y = some (.int .u64 (b : Int))) (h1 : a + b < 18446744073709551616) : POp P N ds E (.binOp .add t x y t') ty (.int .u64 ((a + b : Nat) : Int)) := (POp.add' hx hy).of (by
 rw [show (a : Int) + (b : Int) = ((a + b : Nat) : Int) by omega, wrap_u64 h1])
theorem POp.mulU (hx : Env.ev E x = some (.int .u64 (a : Int))) (hy : Env.ev E y = some (.int .u64 (b : Int))) (h1 : a * b < 18446744073709551616) : POp P N ds E (.binOp .mul t x y t') ty (.int .u64 ((a * b : Nat) : Int)) := (POp.mul' hx hy).of (by
 rw [show (a : Int) * (b : Int) = ((a * b : Nat) : Int) by simp, wrap_u64 h1])
end
theorem unz_hi24 {z : Nat} (h : z < 9223372036854775808) : unz z ≤ 4611686018427387903 ∧ -4611686018427387904 ≤ unz z := by
 unfold unz; split <;> omega
def refIntV24 (z : Nat) : Value := if unz z < -4611686018427387903 then .tuple #[.string (mkBA []), zv 10] else .tuple #[.string (mkBA (vint z)), zv 0]
def zz24 (x : Int) : Nat := if 0 ≤ x then (2 * x).toNat else (-2 * x - 1).toNat
theorem unz_zz (x : Int) : unz (zz24 x) = x := by unfold unz zz24; split <;> split <;> omega
def rnB (x : Int) : ByteArray := if -4611686018427387903 ≤ x ∧ x ≤ 4611686018427387903 then mkBA (vint (zz24 x)) else mkBA []
def rnE (x : Int) : Int := if -4611686018427387903 ≤ x ∧ x ≤ 4611686018427387903 then 0 else 10
theorem rnB_size (x : Int) : (rnB x).size ≤ 9 := by
 unfold rnB
 split
 ·exact vint_len 8 (zz24 x) (by unfold zz24; split <;> omega)
 ·exact Nat.zero_le _
def rnsB (l : List Int) : ByteArray := l.foldl (fun s x => s ++ rnB x) ⟨#[]⟩
theorem rnsB_snoc (l : List Int) (x : Int) : rnsB (l ++ [x]) = rnsB l ++ rnB x := by unfold rnsB; rw [List.foldl_append]; rfl
theorem rnsB_size (l : List Int) : (rnsB l).size ≤ 9 * l.length := by
 refine snocI (p := fun l => (rnsB l).size ≤ 9 * l.length) (Nat.le_refl _) (fun l x ih => ?_) l
 have := rnB_size x
 rw [rnsB_snoc, ByteArray.size_append, List.length_append, List.length_singleton]
 omega
attribute [local irreducible] WC WL WX POp Then Again Fn NX W1 WA WO QL RP RA Yld LoopAt HC HL HX HN H1 HA HO HQ HB HP A.blk A.grow A.rd A.obj A.mp AgainH CutH
theorem zigzag24_fn (z : Nat) (hz : z < 9223372036854775808) (w : World) : Fn Tryz.prog 115 #[zv (unz z)] w fun v w' => v = .int .u64 (z : Int) ∧ w = w' := by
 refine enter (l := [_]) rfl Tryz.ntmps115 rfl ?_
 by_cases h : z % 2 = 0
 ·have hu : unz z = ((z / 2 : Nat) : Int) := by unfold unz; rw [if_pos h]
  have h0 : ¬ ((z / 2 : Nat) : Int) < 0 := by omega
  have e : z / 2 * 2 = z := by omega
  rw [hu]
  repeat' (first | apply WL.fold | apply WA.fold | apply WL.nil | apply WX.n_then | apply WC.seq | apply WC.region | refine WL.pa ?_ | refine WL.ga rfl ?_ | refine WL.na rfl ?_ | refine WL.nu rfl rfl ?_ | apply WC.block | apply WC.skip | apply WC.exit | apply WC.ret | apply WX.e_block | refine WX.e_other rfl ?_ | apply WX.e_then | apply WX.e_again | apply WX.n_block | apply WX.r_then | apply WX.r_block | apply WX.r_again | refine WC.cond_yes rfl ?_ | refine WC.cond_no rfl ?_ | refine WC.cond rfl (fun hc => ?_) (fun hc => ?_) | refine WC.cond_b rfl (fun hc => ?_) (fun hc => ?_))
  refine WL.pa ?_ ((POp.conv (k' := .u64) rfl).of (v' := .int .u64 ((z / 2 : Nat) : Int)) (by rw [wrap_u64 (by omega)]))
  repeat' (first | apply WL.fold | apply WA.fold | apply WL.nil | apply WX.n_then | apply WC.seq | apply WC.region | refine WL.pa ?_ | refine WL.ga rfl ?_ | refine WL.na rfl ?_ | refine WL.nu rfl rfl ?_ | apply WC.block | apply WC.skip | apply WC.exit | apply WC.ret | apply WX.e_block | refine WX.e_other rfl ?_ | apply WX.e_then | apply WX.e_again | apply WX.n_block | apply WX.r_then | apply WX.r_block | apply WX.r_again | refine WC.cond_yes rfl ?_ | refine WC.cond_no rfl ?_ | refine WC.cond rfl (fun hc => ?_) (fun hc => ?_) | refine WC.cond_b rfl (fun hc => ?_) (fun hc => ?_))
  refine WL.pa ?_ (POp.mulU (a := z / 2) (b := 2) rfl rfl (by omega))
  rw [e]
  repeat' (first | apply WL.fold | apply WA.fold | apply WL.nil | apply WX.n_then | apply WC.seq | apply WC.region | refine WL.pa ?_ | refine WL.ga rfl ?_ | refine WL.na rfl ?_ | refine WL.nu rfl rfl ?_ | apply WC.block | apply WC.skip | apply WC.exit | apply WC.ret | apply WX.e_block | refine WX.e_other rfl ?_ | apply WX.e_then | apply WX.e_again | apply WX.n_block | apply WX.r_then | apply WX.r_block | apply WX.r_again | refine WC.cond_yes rfl ?_ | refine WC.cond_no rfl ?_ | refine WC.cond rfl (fun hc => ?_) (fun hc => ?_) | refine WC.cond_b rfl (fun hc => ?_) (fun hc => ?_))
  exact WX.ret1 rfl rfl ⟨rfl, rfl⟩
 ·have hu : unz z = -((z / 2 : Nat) : Int) - 1 := by unfold unz; rw [if_neg h]
  obtain ⟨m, hm⟩ : ∃ m, m = z / 2 := ⟨_, rfl⟩
  rw [← hm] at hu
  have h0 : -(m : Int) - 1 < 0 := by omega
  have e1 : -(-(m : Int) - 1) = ((m + 1 : Nat) : Int) := by omega
  have e2 : (m + 1) * 2 - 1 = z := by omega
  rw [hu]
  repeat' (first | apply WL.fold | apply WA.fold | apply WL.nil | apply WX.n_then | apply WC.seq | apply WC.region | refine WL.pa ?_ | refine WL.ga rfl ?_ | refine WL.na rfl ?_ | refine WL.nu rfl rfl ?_ | apply WC.block | apply WC.skip | apply WC.exit | apply WC.ret | apply WX.e_block | refine WX.e_other rfl ?_ | apply WX.e_then | apply WX.e_again | apply WX.n_block | apply WX.r_then | apply WX.r_block | apply WX.r_again | refine WC.cond_yes rfl ?_ | refine WC.cond_no rfl ?_ | refine WC.cond rfl (fun hc => ?_) (fun hc => ?_) | refine WC.cond_b rfl (fun hc => ?_) (fun hc => ?_))
  rw [e1]
  refine WL.pa ?_ ((POp.conv (k' := .u64) rfl).of (v' := .int .u64 ((m + 1 : Nat) : Int)) (by rw [wrap_u64 (by omega)]))
  repeat' (first | apply WL.fold | apply WA.fold | apply WL.nil | apply WX.n_then | apply WC.seq | apply WC.region | refine WL.pa ?_ | refine WL.ga rfl ?_ | refine WL.na rfl ?_ | refine WL.nu rfl rfl ?_ | apply WC.block | apply WC.skip | apply WC.exit | apply WC.ret | apply WX.e_block | refine WX.e_other rfl ?_ | apply WX.e_then | apply WX.e_again | apply WX.n_block | apply WX.r_then | apply WX.r_block | apply WX.r_again | refine WC.cond_yes rfl ?_ | refine WC.cond_no rfl ?_ | refine WC.cond rfl (fun hc => ?_) (fun hc => ?_) | refine WC.cond_b rfl (fun hc => ?_) (fun hc => ?_))
  refine WL.pa ?_ (POp.mulU (a := m + 1) (b := 2) rfl rfl (by omega))
  repeat' (first | apply WL.fold | apply WA.fold | apply WL.nil | apply WX.n_then | apply WC.seq | apply WC.region | refine WL.pa ?_ | refine WL.ga rfl ?_ | refine WL.na rfl ?_ | refine WL.nu rfl rfl ?_ | apply WC.block | apply WC.skip | apply WC.exit | apply WC.ret | apply WX.e_block | refine WX.e_other rfl ?_ | apply WX.e_then | apply WX.e_again | apply WX.n_block | apply WX.r_then | apply WX.r_block | apply WX.r_again | refine WC.cond_yes rfl ?_ | refine WC.cond_no rfl ?_ | refine WC.cond rfl (fun hc => ?_) (fun hc => ?_) | refine WC.cond_b rfl (fun hc => ?_) (fun hc => ?_))
  refine WL.pa ?_ (POp.sub64 (a := (m + 1) * 2) (b := 1) rfl rfl rfl rfl (by omega) (by omega))
  rw [e2]
  repeat' (first | apply WL.fold | apply WA.fold | apply WL.nil | apply WX.n_then | apply WC.seq | apply WC.region | refine WL.pa ?_ | refine WL.ga rfl ?_ | refine WL.na rfl ?_ | refine WL.nu rfl rfl ?_ | apply WC.block | apply WC.skip | apply WC.exit | apply WC.ret | apply WX.e_block | refine WX.e_other rfl ?_ | apply WX.e_then | apply WX.e_again | apply WX.n_block | apply WX.r_then | apply WX.r_block | apply WX.r_again | refine WC.cond_yes rfl ?_ | refine WC.cond_no rfl ?_ | refine WC.cond rfl (fun hc => ?_) (fun hc => ?_) | refine WC.cond_b rfl (fun hc => ?_) (fun hc => ?_))
  exact WX.ret1 rfl rfl ⟨rfl, rfl⟩
attribute [local irreducible] unz
set_option maxHeartbeats 1000000 in
theorem putZ24_fn (z0 : Nat) (hz0 : z0 < 9223372036854775808) (w : World) : Fn Tryz.prog 81 #[zv (unz z0)] w fun v w' => v = refIntV24 z0 ∧ Ext w w' := by
 have hub := unz_hi24 hz0
 refine enterH (l := [_]) rfl Tryz.ntmps81 rfl ?_
 by_cases h1 : unz z0 < -4611686018427387903
 ·refine hwNB ?_
  exact HX.ret2 rfl rfl rfl fun w' hM => ⟨by unfold refIntV24; rw [if_pos h1]; rfl, hM.ext⟩
 have h2 : ¬ (4611686018427387903 : Int) < unz z0 := by omega
 have hvl := vint_len 8 z0 (by omega)
 refine hwNB ?_
 refine HL.one (H1.call0 (vs := [_]) rfl rfl (fun w' hM => zigzag24_fn z0 hz0 w') ?_)
 refine hwNB ?_
 refine HC.grow0 5 1 ?_
 refine HC.loop (α := Nat × List UInt8 × Option Addr × Nat) (fun z => [(4, .int .u64 (z.1 : Int)), (5, .slice z.2.2.1 z.2.1.length z.2.2.2)]) (fun z => [A.grow 5 1 z.2.2.1 z.2.2.2 z.2.1.length (ub z.2.1)]) (fun z => z.1 ≤ z0 ∧ z.2.1 ++ vint z.1 = vint z0) (fun z => z.1) (z0, [], none, 0) ⟨Nat.le_refl _, rfl⟩ esA (Hs.refl _) ?_
 rintro ⟨z, ys, a, c⟩ ⟨hz, hv⟩
 dsimp only at hz hv ⊢
 have hlen : ys.length ≤ 9 := by
  have h3 := congrArg List.length hv
  rw [List.length_append] at h3
  omega
 by_cases hlt : z < 128
 ·have hge : ¬ (128 : Int) ≤ (z : Int) := by omega
  have hvz := vint_lt hlt
  have hub := ub_snoc ys (g := z) (by omega)
  refine hwNB ?_
  refine HL.one (H1.lit (cs := [.int .u8 (z : Int)]) rfl rfl rfl rfl rfl rfl (fun b9 => ?_))
  refine hwNB ?_
  refine HL.one (H1.app1 (u := .int .u8 (z : Int)) rfl rfl (fun _ _ => by first | ((repeat (first | with_reducible exact Rpl.here | with_reducible apply Rpl.there)); done) | (repeat (first | exact Rpl.here | apply Rpl.there))) memA rfl rfl (by omega) rfl rfl (fun a' c' => ?_))
  rw [hub, show ys.length + 1 = (ys ++ [UInt8.ofNat z]).length from by rw [List.length_append]; rfl]
  refine hwNB ?_
  refine HL.one (H1.bstrg (ys := ys ++ [UInt8.ofNat z]) (c := c') (b := a') rfl memA rfl ?_)
  refine hwNB ?_
  refine HX.ret2 rfl rfl rfl fun w' hM => ⟨?_, hM.ext⟩
  unfold refIntV24
  rw [if_neg h1, ← hvz, hv]; rfl
 ·have hge : (128 : Int) ≤ (z : Int) := by omega
  have hvz := vint_ge hlt
  have hub := ub_snoc ys (g := z % 128 + 128) (by omega)
  refine hwNB ?_
  refine HL.pa ?_ (POp.remU (a := z) (b := 128) rfl rfl (by decide))
  refine hwNB ?_
  refine HL.pa ?_ (POp.addU (a := z % 128) (b := 128) rfl rfl (by omega))
  refine hwNB ?_
  refine HL.one (H1.lit (cs := [.int .u8 ((z % 128 + 128 : Nat) : Int)]) rfl rfl rfl rfl rfl rfl (fun b9 => ?_))
  refine hwNB ?_
  refine HL.one (H1.app1 (u := .int .u8 ((z % 128 + 128 : Nat) : Int)) rfl rfl (fun _ _ => by first | ((repeat (first | with_reducible exact Rpl.here | with_reducible apply Rpl.there)); done) | (repeat (first | exact Rpl.here | apply Rpl.there))) memA rfl rfl (by omega) rfl rfl (fun a' c' => ?_))
  rw [hub, show ys.length + 1 = (ys ++ [UInt8.ofNat (z % 128 + 128)]).length from by rw [List.length_append]; rfl]
  refine hwNB ?_
  refine HL.pa ?_ (POp.quoU (a := z) (b := 128) rfl rfl (by omega) (by decide))
  refine hwNB ?_
  exact HX.again (z / 128, ys ++ [UInt8.ofNat (z % 128 + 128)], some ⟨a', 0, none⟩, c') ⟨by show z / 128 ≤ _; omega, by show (ys ++ _) ++ vint (z / 128) = _; rw [← hv, hvz, List.append_assoc]; rfl⟩ (by show z / 128 < z; omega) esA (Hs.cons (Pick.there Pick.here) (Hs.nil _))
theorem putI24_fn (x : Int) (_ : i64W x) (w : World) : Fn Tryz.prog 81 #[zv x] w fun v w' => v = .tuple #[.string (rnB x), zv (rnE x)] ∧ Ext w w' := by
 by_cases h1 : 4611686018427387903 < x
 ·refine enterH (l := [_]) rfl Tryz.ntmps81 rfl ?_
  have h2 : ¬ x < -4611686018427387903 := by omega
  refine hwNB ?_
  exact HX.ret2 rfl rfl rfl fun w' hM => ⟨by unfold rnB rnE; rw [if_neg (by omega), if_neg (by omega)]; rfl, hM.ext⟩
 by_cases h2 : x < -4611686018427387903
 ·refine enterH (l := [_]) rfl Tryz.ntmps81 rfl ?_
  refine hwNB ?_
  exact HX.ret2 rfl rfl rfl fun w' hM => ⟨by unfold rnB rnE; rw [if_neg (by omega), if_neg (by omega)]; rfl, hM.ext⟩
 have h := putZ24_fn (zz24 x) (by unfold zz24; split <;> omega) w
 rw [unz_zz] at h
 unfold refIntV24 at h
 rw [unz_zz, if_neg h2] at h
 unfold rnB rnE
 rw [if_pos (by omega), if_pos (by omega)]
 exact h
theorem numbers24_fn (v : Value) (l : List Int) (hl : l.length ≤ 1000) (hi : ∀ x ∈ l, i64W x) (w : World) (hR : Rd w v (ints l)) : Fn Tryz.prog 38 #[v] w fun u w' => u = .string (rnsB l) ∧ Ext w w' := by
 obtain ⟨a, c, rfl, hc⟩ := hR.isInts
 refine enterH (l := [_]) rfl Tryz.ntmps38 rfl ?_
 refine hwNB ?_
 refine HC.loop (α := Nat) (fun k => [(0, .slice a l.length c), (3, .string (rnsB (l.take k))), (4, zv (k : Int))]) (fun _ => []) (fun k => k ≤ l.length) (fun k => l.length - k) 0 (Nat.zero_le _) esA (Hs.refl _) ?_
 intro k hk
 have hsz := rnsB_size (l.take k)
 rw [List.length_take] at hsz
 by_cases hlt : k < l.length
 ·have hn : ((k : Nat) : Int) < (l.length : Int) := by omega
  have htk : rnsB (l.take (k + 1)) = rnsB (l.take k) ++ rnB (getI l k) := by rw [getI_take hlt, rnsB_snoc]
  obtain ⟨b, off, rfl⟩ := rd_addr hR hlt
  have hcl := hR.cell (ints_getI hlt)
  have hix := hi (getI l k) (getI_mem hlt)
  have h9 := rnB_size (getI l k)
  generalize getI l k = x at htk hcl hix h9
  refine hwNB ?_
  refine HL.one (H1.ld0 rfl hcl rfl ?_)
  refine hwNB ?_
  refine HL.one (H1.callx (vs := [_]) rfl rfl (fun w' hM => putI24_fn x hix w') ?_)
  refine hwNB ?_
  exact HX.again (k + 1) hlt (by show l.length - (k + 1) < l.length - k; omega) (by rw [htk]; repeat (first | exact trivial | refine ⟨rfl, ?_⟩)) (Hs.refl _)
 have hn : ¬ ((k : Nat) : Int) < (l.length : Int) := by omega
 obtain rfl : k = l.length := by omega
 rw [List.take_length]
 refine hwNB ?_
 exact HX.ret1 rfl rfl fun w' hM => ⟨rfl, hM.ext⟩
theorem rpick24_fn (c n : Int) (h1 : -9223372036854775808 ≤ c) (h2 : c ≤ 9223372036854775807) (hn : 0 < n) (w : World) : Fn Tryz.prog 37 #[.int .i64 c, .int .i64 n] w fun v w' => v = .int .i64 (pickI21 c n) ∧ w = w' := by
 refine enter (l := [_, _]) rfl Tryz.ntmps37 rfl ?_
 by_cases h : c < 0
 ·repeat' (first | apply WL.fold | apply WA.fold | apply WL.nil | apply WX.n_then | apply WC.seq | apply WC.region | refine WL.pa ?_ | refine WL.ga rfl ?_ | refine WL.na rfl ?_ | refine WL.nu rfl rfl ?_ | apply WC.block | apply WC.skip | apply WC.exit | apply WC.ret | apply WX.e_block | refine WX.e_other rfl ?_ | apply WX.e_then | apply WX.e_again | apply WX.n_block | apply WX.r_then | apply WX.r_block | apply WX.r_again | refine WC.cond_yes rfl ?_ | refine WC.cond_no rfl ?_ | refine WC.cond rfl (fun hc => ?_) (fun hc => ?_) | refine WC.cond_b rfl (fun hc => ?_) (fun hc => ?_))
  exact WX.ret1 rfl rfl ⟨by rw [pickI21, if_pos h], rfl⟩
 ·repeat' (first | apply WL.fold | apply WA.fold | apply WL.nil | apply WX.n_then | apply WC.seq | apply WC.region | refine WL.pa ?_ | refine WL.ga rfl ?_ | refine WL.na rfl ?_ | refine WL.nu rfl rfl ?_ | apply WC.block | apply WC.skip | apply WC.exit | apply WC.ret | apply WX.e_block | refine WX.e_other rfl ?_ | apply WX.e_then | apply WX.e_again | apply WX.n_block | apply WX.r_then | apply WX.r_block | apply WX.r_again | refine WC.cond_yes rfl ?_ | refine WC.cond_no rfl ?_ | refine WC.cond rfl (fun hc => ?_) (fun hc => ?_) | refine WC.cond_b rfl (fun hc => ?_) (fun hc => ?_))
  exact WX.ret1 rfl rfl ⟨by rw [pickI21, if_neg h], rfl⟩
theorem lpick24_fn (c n : Int) (h1 : -9223372036854775808 ≤ c) (h2 : c ≤ 9223372036854775807) (hn : 0 < n) (w : World) : Fn Tryz.prog 12 #[.int .i64 c, .int .i64 n] w fun v w' => v = .int .i64 (pickI21 c n) ∧ w = w' := by
 refine enter (l := [_, _]) rfl Tryz.ntmps12 rfl ?_
 by_cases h : c < 0
 ·repeat' (first | apply WL.fold | apply WA.fold | apply WL.nil | apply WX.n_then | apply WC.seq | apply WC.region | refine WL.pa ?_ | refine WL.ga rfl ?_ | refine WL.na rfl ?_ | refine WL.nu rfl rfl ?_ | apply WC.block | apply WC.skip | apply WC.exit | apply WC.ret | apply WX.e_block | refine WX.e_other rfl ?_ | apply WX.e_then | apply WX.e_again | apply WX.n_block | apply WX.r_then | apply WX.r_block | apply WX.r_again | refine WC.cond_yes rfl ?_ | refine WC.cond_no rfl ?_ | refine WC.cond rfl (fun hc => ?_) (fun hc => ?_) | refine WC.cond_b rfl (fun hc => ?_) (fun hc => ?_))
  exact WX.ret1 rfl rfl ⟨by rw [pickI21, if_pos h], rfl⟩
 ·repeat' (first | apply WL.fold | apply WA.fold | apply WL.nil | apply WX.n_then | apply WC.seq | apply WC.region | refine WL.pa ?_ | refine WL.ga rfl ?_ | refine WL.na rfl ?_ | refine WL.nu rfl rfl ?_ | apply WC.block | apply WC.skip | apply WC.exit | apply WC.ret | apply WX.e_block | refine WX.e_other rfl ?_ | apply WX.e_then | apply WX.e_again | apply WX.n_block | apply WX.r_then | apply WX.r_block | apply WX.r_again | refine WC.cond_yes rfl ?_ | refine WC.cond_no rfl ?_ | refine WC.cond rfl (fun hc => ?_) (fun hc => ?_) | refine WC.cond_b rfl (fun hc => ?_) (fun hc => ?_))
  exact WX.ret1 rfl rfl ⟨by rw [pickI21, if_neg h], rfl⟩
end Go.Sx
/- Chapter 21: slices of arrays of numbers; fields of records that are set. Plain. -/
namespace Go.Sx
open Go
def RdA (sz : Nat) (w : World) (v : Value) (rows : List (List Int)) : Prop :=
 ∃ (a : Option Addr) (c : Nat), v = .slice a rows.length c ∧ rows.length ≤ c ∧ (rows = [] ∨ ∃ b off, a = some ⟨b, off, none⟩ ∧ b < w.heap.size ∧ ∀ i rw j u, (rows.map ints)[i]? = some rw → rw[j]? = some u → w.cell? ⟨b, off + i * sz + j, none⟩ = some u)
theorem RdA.ext {sz : Nat} {w w' : World} {v : Value} {rows : List (List Int)} (h : RdA sz w v rows) (k : Ext w w') : RdA sz w' v rows := by
 obtain ⟨a, c, h1, h2, h3⟩ := h
 refine ⟨a, c, h1, h2, ?_⟩
 rcases h3 with h3 | ⟨b, off, h3, h5, h6⟩
 ·exact .inl h3
 ·exact .inr ⟨b, off, h3, Nat.lt_of_lt_of_le h5 k.size, fun i row j u hi hu => cell_ext k (h6 i row j u hi hu)⟩
theorem RdA.shape {sz : Nat} {w : World} {v : Value} {rows : List (List Int)} (h : RdA sz w v rows) : ∃ a c, v = .slice a rows.length c ∧ rows.length ≤ c := by
 obtain ⟨a, c, h1, h2, -⟩ := h
 exact ⟨a, c, h1, h2⟩
theorem RdA.at {sz : Nat} {w : World} {a : Option Addr} {n c : Nat} {rows : List (List Int)} (h : RdA sz w (.slice a n c) rows) (hne : rows ≠ []) :
  ∃ b off, a = some ⟨b, off, none⟩ ∧ b < w.heap.size ∧ ∀ i y, rows[i]? = some y → ∀ j u, (ints y)[j]? = some u → w.cell? ⟨b, off + i * sz + j, none⟩ = some u := by
 obtain ⟨a', c', h1, h2, h3⟩ := h
 cases h1
 rcases h3 with h3 | ⟨b, off, h4, h5, h6⟩
 ·exact absurd h3 hne
 ·exact ⟨b, off, h4, h5, fun i y hy j u hu => h6 i (ints y) j u (by rw [List.getElem?_map, hy]; rfl) hu⟩
def Rc.setF (r : Rc) (i : Nat) (n : Int) : Rc :=
 match i with
 | 0 => { r with id := n }
 | 1 => { r with start := n }
 | 2 => { r with stop := n }
 | 3 => { r with pack := n }
 | 4 => { r with person := n }
 | 5 => { r with role := n }
 | 6 => { r with purpose := n }
 | 7 => { r with clause := n }
 | 8 => { r with adm := decide (n = 1) }
 | 9 => { r with party := n }
 | _ => r
theorem setF_get (r : Rc) {i j : Nat} (hi : i < 10) (hj : j < 10) (n : Int) (h8 : i = 8 → n = 0 ∨ n = 1) : (r.setF i n).get j = if i = j then n else r.get j := by
 rcases ten hi with rfl | rfl | rfl | rfl | rfl | rfl | rfl | rfl | rfl | rfl <;> rcases ten hj with rfl | rfl | rfl | rfl | rfl | rfl | rfl | rfl | rfl | rfl <;> first | rfl | (rcases h8 rfl with rfl | rfl <;> rfl)
theorem setF_same (r : Rc) (i : Nat) (n : Int) : (r.setF i n).kind = r.kind ∧ (r.setF i n).version = r.version ∧ (r.setF i n).day = r.day ∧ (r.setF i n).gone = r.gone ∧ (r.setF i n).text = r.text := by
 unfold Rc.setF
 split <;> exact ⟨rfl, rfl, rfl, rfl, rfl⟩
structure SomeI (L : List (Nat × Int × Int)) (r : Rc) : Prop where
 kind : 1 ≤ r.kind ∧ r.kind ≤ 8
 ver : 1 ≤ r.version ∧ r.version ≤ 3
 day : 0 ≤ r.day ∧ r.day ≤ 29
 text : r.text = ByteArray.mk #[]
 lim : ∀ p ∈ L, p.2.1 ≤ r.get p.1 ∧ r.get p.1 ≤ p.2.2
 zero : ∀ i, i < 10 → i ∉ L.map Prod.fst → r.get i = 0
 start : 0 ≤ r.start ∧ r.start ≤ 39
 span : 2 ∈ L.map Prod.fst → r.start ≤ r.stop
theorem SomeI.step {L : List (Nat × Int × Int)} {r : Rc} (h : SomeI L r) {p : Nat × Int × Int} (hp : p.1 < 10) (hno : p.1 ∉ L.map Prod.fst) {n : Int} (hn : p.2.1 ≤ n ∧ n ≤ p.2.2) (h8 : p.1 = 8 → n = 0 ∨ n = 1) (h1 : p.1 = 1 → (0 ≤ n ∧ n ≤ 39) ∧ 2 ∉ L.map Prod.fst) (h2 : p.1 = 2 → r.start ≤ n)
  (hl10 : ∀ q ∈ L, q.1 < 10) : SomeI (L ++ [p]) (r.setF p.1 n) := by
 obtain ⟨e1, e2, e3, e4, e5⟩ := setF_same r p.1 n
 have hg : ∀ j, j < 10 → (r.setF p.1 n).get j = if p.1 = j then n else r.get j := fun j hj => setF_get r hp hj n h8
 have hst : (r.setF p.1 n).start = if p.1 = 1 then n else r.start := hg 1 (by decide)
 have hsp : (r.setF p.1 n).stop = if p.1 = 2 then n else r.stop := hg 2 (by decide)
 refine ⟨by rw [e1]; exact h.kind, by rw [e2]; exact h.ver, by rw [e3]; exact h.day, by rw [e5]; exact h.text, fun q hq => ?_, fun i hi hm => ?_, ?_, fun hm => ?_⟩
 ·rcases List.mem_append.1 hq with hq | hq
  ·rw [hg q.1 (hl10 q hq), if_neg (fun e : p.1 = q.1 => hno (List.mem_map.2 ⟨q, hq, e.symm⟩))]
   exact h.lim q hq
  ·obtain rfl := List.mem_singleton.1 hq
   rw [hg q.1 hp, if_pos rfl]; exact hn
 ·rw [List.map_append, List.mem_append, not_or] at hm
  rw [hg i hi, if_neg (fun e => hm.2 (by simp [e]))]
  exact h.zero i hi hm.1
 ·rw [hst]
  split
  ·rename_i e; exact (h1 e).1
  ·exact h.start
 ·rw [hst, hsp]
  rw [List.map_append, List.mem_append] at hm
  by_cases e2' : p.1 = 2
  ·have e1' : p.1 ≠ 1 := by omega
   rw [if_neg e1', if_pos e2']; exact h2 e2'
  ·have hm2 : 2 ∈ L.map Prod.fst := hm.resolve_right fun hx => e2' ((List.mem_singleton.1 hx).symm)
   by_cases e1' : p.1 = 1
   ·exact absurd hm2 (h1 e1').2
   ·rw [if_neg e1', if_neg e2']; exact h.span hm2
structure SomeOk (r : Rc) : Prop where
 valid : ValidR r
 ver : r.version ≤ 3
 day : r.day ≤ 29
 text : r.text = ByteArray.mk #[]
theorem spec_two {k : Int} (h : 1 ≤ k ∧ k ≤ 8) (h6 : k ≠ 6) (h8 : k ≠ 8) : 2 ∈ (specF k).map Prod.fst := by
 rcases (show k = 1 ∨ k = 2 ∨ k = 3 ∨ k = 4 ∨ k = 5 ∨ k = 7 by omega) with rfl | rfl | rfl | rfl | rfl | rfl <;> decide
theorem SomeI.done {r : Rc} (h : SomeI (specF r.kind) r) (hc : r.kind = 2 → r.clause ≠ r.party) : SomeOk r :=
 ⟨⟨h.kind, ⟨h.ver.1, by have := h.ver.2; omega⟩, ⟨h.day.1, by have := h.day.2; omega⟩, by rw [h.text]; decide, ⟨fun h6 h8 => h.span (spec_two h.kind h6 h8), hc⟩, h.lim, h.zero⟩, h.ver.2, h.day.2, h.text⟩
theorem SomeI.done2 {r : Rc} (h : SomeI (specF r.kind) r) (hk : r.kind = 2) : SomeOk (r.setF 9 0) := by
 have hsp : specF r.kind = [(7, 1, 1000000), (1, 0, 100000), (2, 0, 100000), (3, 0, 1000000), (5, 0, 1000000), (6, 0, 1000000), (8, 0, 1), (9, 0, 1000000)] := by rw [hk]; rfl
 have hg : ∀ j, j < 10 → (r.setF 9 0).get j = if 9 = j then 0 else r.get j := fun j hj => setF_get r (by decide) hj 0 (by omega)
 have hcl := h.lim (7, 1, 1000000) (by rw [hsp]; decide)
 have h' : SomeI (specF (r.setF 9 0).kind) (r.setF 9 0) := by
  refine ⟨h.kind, h.ver, h.day, h.text, fun p hp => ?_, fun i hi hm => ?_, h.start, h.span⟩
  ·have hp' : p ∈ specF r.kind := hp
   have hl := h.lim p hp'
   rw [hg p.1 (spec_lo hp').2]
   split
   ·rename_i e
    rw [hsp] at hp'
    simp only [List.mem_cons, List.not_mem_nil, or_false] at hp'
    rcases hp' with rfl | rfl | rfl | rfl | rfl | rfl | rfl | rfl <;> first | exact absurd e (by decide) | exact ⟨Int.le_refl _, of_decide_eq_true rfl⟩
   ·exact hl
  ·rw [hg i hi]
   split
   ·rfl
   ·exact h.zero i hi hm
 refine h'.done fun _ => ?_
 show r.clause ≠ 0
 have : 1 ≤ r.clause := hcl.1
 omega
end Go.Sx
/- Chapter 20's reference: Fields, Limits, Set. -/
namespace Go.Sx
open Go Go.Proofs Go.RowKit
def fldN (k : Int) : List Int := (specF k).map fun p => (p.1 : Int)
attribute [local irreducible] WC WL WX POp Then Again Fn NX W1 WA WO QL RP RA Yld LoopAt HC HL HX HN H1 HA HO HQ HB HP A.blk A.grow A.rd A.obj A.mp AgainH CutH
theorem Fields_fn (k : Int) (hk : 1 ≤ k ∧ k ≤ 8) (w : World) : Fn Tryz.prog 101 #[zv k] w fun v w' => ∃ b : Nat, True ∧ v = .slice (some ⟨b, 0, none⟩) (specF k).length (specF k).length ∧ Mm w [A.blk b (ints (fldN k)) 3] w' := by
 refine enterH (l := [_]) rfl Tryz.ntmps101 rfl ?_
 rcases (show k = 1 ∨ k = 2 ∨ k = 3 ∨ k = 4 ∨ k = 5 ∨ k = 6 ∨ k = 7 ∨ k = 8 by omega) with rfl | rfl | rfl | rfl | rfl | rfl | rfl | rfl
 ·refine hwNE ?_
  refine HL.one (H1.lit (cs := ints (fldN 1)) rfl rfl rfl rfl rfl rfl (fun b => ?_))
  refine hwNE ?_
  exact HX.ret1 rfl rfl fun w' hM => ⟨b, trivial, rfl, hM⟩
 ·refine hwNE ?_
  refine HL.one (H1.lit (cs := ints (fldN 2)) rfl rfl rfl rfl rfl rfl (fun b => ?_))
  refine hwNE ?_
  exact HX.ret1 rfl rfl fun w' hM => ⟨b, trivial, rfl, hM⟩
 ·refine hwNE ?_
  refine HL.one (H1.lit (cs := ints (fldN 3)) rfl rfl rfl rfl rfl rfl (fun b => ?_))
  refine hwNE ?_
  exact HX.ret1 rfl rfl fun w' hM => ⟨b, trivial, rfl, hM⟩
 ·refine hwNE ?_
  refine HL.one (H1.lit (cs := ints (fldN 4)) rfl rfl rfl rfl rfl rfl (fun b => ?_))
  refine hwNE ?_
  exact HX.ret1 rfl rfl fun w' hM => ⟨b, trivial, rfl, hM⟩
 ·refine hwNE ?_
  refine HL.one (H1.lit (cs := ints (fldN 5)) rfl rfl rfl rfl rfl rfl (fun b => ?_))
  refine hwNE ?_
  exact HX.ret1 rfl rfl fun w' hM => ⟨b, trivial, rfl, hM⟩
 ·refine hwNE ?_
  refine HL.one (H1.lit (cs := ints (fldN 6)) rfl rfl rfl rfl rfl rfl (fun b => ?_))
  refine hwNE ?_
  exact HX.ret1 rfl rfl fun w' hM => ⟨b, trivial, rfl, hM⟩
 ·refine hwNE ?_
  refine HL.one (H1.lit (cs := ints (fldN 7)) rfl rfl rfl rfl rfl rfl (fun b => ?_))
  refine hwNE ?_
  exact HX.ret1 rfl rfl fun w' hM => ⟨b, trivial, rfl, hM⟩
 ·refine hwNE ?_
  refine HL.one (H1.lit (cs := ints (fldN 8)) rfl rfl rfl rfl rfl rfl (fun b => ?_))
  refine hwNE ?_
  exact HX.ret1 rfl rfl fun w' hM => ⟨b, trivial, rfl, hM⟩
set_option maxHeartbeats 2000000 in
theorem Limits_fn (k : Int) (hk : 1 ≤ k ∧ k ≤ 8) (p : Nat × Int × Int) (hp : p ∈ specF k) (w : World) : Fn Tryz.prog 102 #[zv k, zv (p.1 : Int)] w fun v w' => v = .tuple #[zv p.2.1, zv p.2.2] ∧ Ext w w' := by
 refine enterH (l := [_, _]) rfl Tryz.ntmps102 rfl ?_
 rcases (show k = 1 ∨ k = 2 ∨ k = 3 ∨ k = 4 ∨ k = 5 ∨ k = 6 ∨ k = 7 ∨ k = 8 by omega) with rfl | rfl | rfl | rfl | rfl | rfl | rfl | rfl
 ·change p ∈ [(0, (1 : Int), (1000000 : Int)), (1, 0, 100000), (2, 0, 100000), (4, 1, 1000000), (5, 1, 1000000)] at hp
  simp only [List.mem_cons, List.not_mem_nil, or_false] at hp
  rcases hp with rfl | rfl | rfl | rfl | rfl <;> ((refine hwNE ?_); exact HX.ret2 rfl rfl rfl fun w' hM => ⟨rfl, hM.ext⟩)
 ·change p ∈ [(7, (1 : Int), (1000000 : Int)), (1, 0, 100000), (2, 0, 100000), (3, 0, 1000000), (5, 0, 1000000), (6, 0, 1000000), (8, 0, 1), (9, 0, 1000000)] at hp
  simp only [List.mem_cons, List.not_mem_nil, or_false] at hp
  rcases hp with rfl | rfl | rfl | rfl | rfl | rfl | rfl | rfl <;> ((refine hwNE ?_); exact HX.ret2 rfl rfl rfl fun w' hM => ⟨rfl, hM.ext⟩)
 ·change p ∈ [(0, (1 : Int), (1000000 : Int)), (1, 0, 100000), (2, 0, 100000), (3, 1, 1000000), (6, 0, 1000000), (9, 1, 1000000)] at hp
  simp only [List.mem_cons, List.not_mem_nil, or_false] at hp
  rcases hp with rfl | rfl | rfl | rfl | rfl | rfl <;> ((refine hwNE ?_); exact HX.ret2 rfl rfl rfl fun w' hM => ⟨rfl, hM.ext⟩)
 ·change p ∈ [(0, (1 : Int), (1000000 : Int)), (1, 0, 100000), (2, 0, 100000), (3, 1, 1000000)] at hp
  simp only [List.mem_cons, List.not_mem_nil, or_false] at hp
  rcases hp with rfl | rfl | rfl | rfl <;> ((refine hwNE ?_); exact HX.ret2 rfl rfl rfl fun w' hM => ⟨rfl, hM.ext⟩)
 ·change p ∈ [(0, (1 : Int), (1000000 : Int)), (1, 0, 100000), (2, 0, 100000), (3, 0, 1000000)] at hp
  simp only [List.mem_cons, List.not_mem_nil, or_false] at hp
  rcases hp with rfl | rfl | rfl | rfl <;> ((refine hwNE ?_); exact HX.ret2 rfl rfl rfl fun w' hM => ⟨rfl, hM.ext⟩)
 ·change p ∈ [(9, (1 : Int), (1000000 : Int)), (1, 0, 100000)] at hp
  simp only [List.mem_cons, List.not_mem_nil, or_false] at hp
  rcases hp with rfl | rfl <;> ((refine hwNE ?_); exact HX.ret2 rfl rfl rfl fun w' hM => ⟨rfl, hM.ext⟩)
 ·change p ∈ [(0, (1 : Int), (1000000 : Int)), (1, 0, 100000), (2, 0, 100000), (3, 1, 1000000), (6, 0, 1000000), (7, 0, 63)] at hp
  simp only [List.mem_cons, List.not_mem_nil, or_false] at hp
  rcases hp with rfl | rfl | rfl | rfl | rfl | rfl <;> ((refine hwNE ?_); exact HX.ret2 rfl rfl rfl fun w' hM => ⟨rfl, hM.ext⟩)
 ·change p ∈ [(0, (1 : Int), (1000000 : Int)), (1, 0, 100000), (3, 1, 1000000), (7, 1, 1000000)] at hp
  simp only [List.mem_cons, List.not_mem_nil, or_false] at hp
  rcases hp with rfl | rfl | rfl | rfl <;> ((refine hwNE ?_); exact HX.ret2 rfl rfl rfl fun w' hM => ⟨rfl, hM.ext⟩)
set_option maxHeartbeats 2000000 in
theorem Set_fn (r : Rc) (i : Nat) (hi : i < 10) (n : Int) (w : World) : Fn Tryz.prog 103 #[recV r, zv (i : Int), zv n] w fun v w' => v = recV (r.setF i n) ∧ Ext w w' := by
 refine enterH (l := [_, _, _]) rfl Tryz.ntmps103 rfl ?_
 refine hwNE ?_
 refine HL.one (H1.boxAgg (cs := rcells r) rfl rfl (fun b3 => ?_))
 refine hwNE ?_
 refine HL.one (H1.alloc (cs := rcells rcZ) rfl rfl (fun b6 => ?_))
 apply HL.fold
 rcases ten hi with rfl | rfl | rfl | rfl | rfl | rfl | rfl | rfl | rfl | rfl
 ·refine hwNE ?_
  refine HL.one (H1.st (b := b3) rfl rfl (by intro _ h; cases h) (by intro _ h; cases h) rplA (of_decide_eq_true rfl) ?_)
  refine hwNE ?_
  refine HL.one (H1.ldAgg (vs := rcells (r.setF 0 n)) rfl memA rfl (fun i v hv => by simp only [Nat.zero_add]; exact hv) rfl ?_)
  refine hwNE ?_
  refine HL.one (H1.stAgg (cs := rcells rcZ) (vs := rcells (r.setF 0 n)) rfl rfl rfl (rcells_one _) rplA rfl ?_)
  refine hwNE ?_
  exact HX.retc1 (cs := rcells (r.setF 0 n)) rfl rfl memA rfl fun w' hM => ⟨rfl, hM.ext⟩
 ·refine hwNE ?_
  refine HL.one (H1.st (b := b3) rfl rfl (by intro _ h; cases h) (by intro _ h; cases h) rplA (of_decide_eq_true rfl) ?_)
  refine hwNE ?_
  refine HL.one (H1.ldAgg (vs := rcells (r.setF 1 n)) rfl memA rfl (fun i v hv => by simp only [Nat.zero_add]; exact hv) rfl ?_)
  refine hwNE ?_
  refine HL.one (H1.stAgg (cs := rcells rcZ) (vs := rcells (r.setF 1 n)) rfl rfl rfl (rcells_one _) rplA rfl ?_)
  refine hwNE ?_
  exact HX.retc1 (cs := rcells (r.setF 1 n)) rfl rfl memA rfl fun w' hM => ⟨rfl, hM.ext⟩
 ·refine hwNE ?_
  refine HL.one (H1.st (b := b3) rfl rfl (by intro _ h; cases h) (by intro _ h; cases h) rplA (of_decide_eq_true rfl) ?_)
  refine hwNE ?_
  refine HL.one (H1.ldAgg (vs := rcells (r.setF 2 n)) rfl memA rfl (fun i v hv => by simp only [Nat.zero_add]; exact hv) rfl ?_)
  refine hwNE ?_
  refine HL.one (H1.stAgg (cs := rcells rcZ) (vs := rcells (r.setF 2 n)) rfl rfl rfl (rcells_one _) rplA rfl ?_)
  refine hwNE ?_
  exact HX.retc1 (cs := rcells (r.setF 2 n)) rfl rfl memA rfl fun w' hM => ⟨rfl, hM.ext⟩
 ·refine hwNE ?_
  refine HL.one (H1.st (b := b3) rfl rfl (by intro _ h; cases h) (by intro _ h; cases h) rplA (of_decide_eq_true rfl) ?_)
  refine hwNE ?_
  refine HL.one (H1.ldAgg (vs := rcells (r.setF 3 n)) rfl memA rfl (fun i v hv => by simp only [Nat.zero_add]; exact hv) rfl ?_)
  refine hwNE ?_
  refine HL.one (H1.stAgg (cs := rcells rcZ) (vs := rcells (r.setF 3 n)) rfl rfl rfl (rcells_one _) rplA rfl ?_)
  refine hwNE ?_
  exact HX.retc1 (cs := rcells (r.setF 3 n)) rfl rfl memA rfl fun w' hM => ⟨rfl, hM.ext⟩
 ·refine hwNE ?_
  refine HL.one (H1.st (b := b3) rfl rfl (by intro _ h; cases h) (by intro _ h; cases h) rplA (of_decide_eq_true rfl) ?_)
  refine hwNE ?_
  refine HL.one (H1.ldAgg (vs := rcells (r.setF 4 n)) rfl memA rfl (fun i v hv => by simp only [Nat.zero_add]; exact hv) rfl ?_)
  refine hwNE ?_
  refine HL.one (H1.stAgg (cs := rcells rcZ) (vs := rcells (r.setF 4 n)) rfl rfl rfl (rcells_one _) rplA rfl ?_)
  refine hwNE ?_
  exact HX.retc1 (cs := rcells (r.setF 4 n)) rfl rfl memA rfl fun w' hM => ⟨rfl, hM.ext⟩
 ·refine hwNE ?_
  refine HL.one (H1.st (b := b3) rfl rfl (by intro _ h; cases h) (by intro _ h; cases h) rplA (of_decide_eq_true rfl) ?_)
  refine hwNE ?_
  refine HL.one (H1.ldAgg (vs := rcells (r.setF 5 n)) rfl memA rfl (fun i v hv => by simp only [Nat.zero_add]; exact hv) rfl ?_)
  refine hwNE ?_
  refine HL.one (H1.stAgg (cs := rcells rcZ) (vs := rcells (r.setF 5 n)) rfl rfl rfl (rcells_one _) rplA rfl ?_)
  refine hwNE ?_
  exact HX.retc1 (cs := rcells (r.setF 5 n)) rfl rfl memA rfl fun w' hM => ⟨rfl, hM.ext⟩
 ·refine hwNE ?_
  refine HL.one (H1.st (b := b3) rfl rfl (by intro _ h; cases h) (by intro _ h; cases h) rplA (of_decide_eq_true rfl) ?_)
  refine hwNE ?_
  refine HL.one (H1.ldAgg (vs := rcells (r.setF 6 n)) rfl memA rfl (fun i v hv => by simp only [Nat.zero_add]; exact hv) rfl ?_)
  refine hwNE ?_
  refine HL.one (H1.stAgg (cs := rcells rcZ) (vs := rcells (r.setF 6 n)) rfl rfl rfl (rcells_one _) rplA rfl ?_)
  refine hwNE ?_
  exact HX.retc1 (cs := rcells (r.setF 6 n)) rfl rfl memA rfl fun w' hM => ⟨rfl, hM.ext⟩
 ·refine hwNE ?_
  refine HL.one (H1.st (b := b3) rfl rfl (by intro _ h; cases h) (by intro _ h; cases h) rplA (of_decide_eq_true rfl) ?_)
  refine hwNE ?_
  refine HL.one (H1.ldAgg (vs := rcells (r.setF 7 n)) rfl memA rfl (fun i v hv => by simp only [Nat.zero_add]; exact hv) rfl ?_)
  refine hwNE ?_
  refine HL.one (H1.stAgg (cs := rcells rcZ) (vs := rcells (r.setF 7 n)) rfl rfl rfl (rcells_one _) rplA rfl ?_)
  refine hwNE ?_
  exact HX.retc1 (cs := rcells (r.setF 7 n)) rfl rfl memA rfl fun w' hM => ⟨rfl, hM.ext⟩
 ·refine hwNE ?_
  refine HL.one (H1.st (b := b3) rfl rfl (by intro _ h; cases h) (by intro _ h; cases h) rplA (of_decide_eq_true rfl) ?_)
  refine hwNE ?_
  refine HL.one (H1.ldAgg (vs := rcells (r.setF 8 n)) rfl memA rfl (fun i v hv => by simp only [Nat.zero_add]; exact hv) rfl ?_)
  refine hwNE ?_
  refine HL.one (H1.stAgg (cs := rcells rcZ) (vs := rcells (r.setF 8 n)) rfl rfl rfl (rcells_one _) rplA rfl ?_)
  refine hwNE ?_
  exact HX.retc1 (cs := rcells (r.setF 8 n)) rfl rfl memA rfl fun w' hM => ⟨rfl, hM.ext⟩
 ·refine hwNE ?_
  refine HL.one (H1.st (b := b3) rfl rfl (by intro _ h; cases h) (by intro _ h; cases h) rplA (of_decide_eq_true rfl) ?_)
  refine hwNE ?_
  refine HL.one (H1.ldAgg (vs := rcells (r.setF 9 n)) rfl memA rfl (fun i v hv => by simp only [Nat.zero_add]; exact hv) rfl ?_)
  refine hwNE ?_
  refine HL.one (H1.stAgg (cs := rcells rcZ) (vs := rcells (r.setF 9 n)) rfl rfl rfl (rcells_one _) rplA rfl ?_)
  refine hwNE ?_
  exact HX.retc1 (cs := rcells (r.setF 9 n)) rfl rfl memA rfl fun w' hM => ⟨rfl, hM.ext⟩
end Go.Sx
