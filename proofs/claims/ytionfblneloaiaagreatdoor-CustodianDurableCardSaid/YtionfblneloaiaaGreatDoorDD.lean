/- Chapter 2: the words of a block: the walks. -/
import Derived.Test.YtionfblneloaiaaGreatDoorDB
import Derived.Test.YtionfblneloaiaaGreatDoorHx6
import Derived.Test.YtionfblneloaiaaGreatDoorHj
import Derived.Test.YtionfblneloaiaaGreatDoorMX
import Derived.Test.YtionfblneloaiaaGreatDoorXH
namespace Go.Sx
open Go Go.Proofs Go.RowKit
theorem hwDD {G G2 : Prop} (x : G2) (hwq : Hold G2 → G := by
    intro hQq
    repeat' (first | apply HL.fold | apply HA.fold | apply HL.nil | apply HX.n_then | apply HC.seq | apply HC.region | refine HL.pa ?_ | refine HL.ga rfl ?_ | refine HL.na rfl ?_ | refine HL.nu rfl rfl ?_ | apply HC.block | apply HC.skip | apply HC.exit | apply HC.ret | apply HX.e_block | refine HX.e_other rfl ?_ | apply HX.e_then | apply HX.e_again | apply HX.n_block | apply HX.r_then | apply HX.r_block | apply HX.r_again | refine HC.cond_yes rfl ?_ | refine HC.cond_no rfl ?_ | refine HL.one (H1.ldb rfl memA rfl rfl ?_) | refine HC.cond rfl (fun hc => ?_) (fun hc => ?_) | refine HC.cond_b rfl (fun hc => ?_) (fun hc => ?_))
    exact hQq.get) : G := hwq ⟨x⟩
theorem hbDD {G G2 : Prop} (x : G2) (hwq : Hold G2 → G := by
    intro hQq
    repeat' (first | apply HL.fold | apply HA.fold | apply HL.nil | apply HX.n_then | apply HC.seq | apply HC.region | refine HL.pa ?_ | refine HL.ga rfl ?_ | refine HL.na rfl ?_ | refine HL.nu rfl rfl ?_ | apply HC.skip | apply HC.exit | apply HC.ret | apply HX.e_block | refine HX.e_other rfl ?_ | apply HX.e_then | apply HX.e_again | apply HX.n_block | apply HX.r_then | apply HX.r_block | apply HX.r_again | refine HC.cond_yes rfl ?_ | refine HC.cond_no rfl ?_ | refine HL.one (H1.ldb rfl memA rfl rfl ?_) | refine HC.cond rfl (fun hc => ?_) (fun hc => ?_) | refine HC.cond_b rfl (fun hc => ?_) (fun hc => ?_))
    exact hQq.get) : G := hwq ⟨x⟩
def nats (l : List Nat) : List Value := l.map fun n : Nat => zv (n : Int)
theorem nats_get {l : List Nat} {i : Nat} (h : i < l.length) : (nats l)[i]? = some (zv ((l[i] : Nat) : Int)) := by simp [nats, h]
def ws (l : List UInt32) : List Value := l.map w32
theorem ws_get {l : List UInt32} {i : Nat} (h : i < l.length) : (ws l)[i]? = some (w32 l[i]) := by simp [ws, h]
theorem mixW_take {x : UInt32} {l : List Nat} {i : Nat} (h : i < l.length) : mixW x (l.take (i + 1)) = mixW x (l.take i) ^^^ rot x l[i] := by
  unfold mixW
  rw [List.take_succ_eq_append_getElem h, List.foldl_append]; rfl
theorem wrap_neg {n : Nat} (h0 : 0 < n) (h : n < 32) : IntKind.u64.wrap (-(n : Int)) = ((18446744073709551616 - n : Nat) : Int) := by
  simp [IntKind.wrap, IntKind.bits, IntKind.signed]; omega
attribute [local irreducible] WC WL WX POp Then Again Fn NX W1 WA WO QL RP RA Yld LoopAt HC HL HX HN H1 HA HO HQ HB HP A.blk A.grow A.rd A.obj A.mp AgainH CutH
theorem rotate_fn (x : UInt32) (n : Nat) (h0 : 0 < n) (h : n < 32) (w : World) : Fn Tryz.prog 183 #[w32 x, zv (-(n : Int))] w fun v w' => v = w32 (rot x n) ∧ w = w' := by
  have hand : (18446744073709551616 - n) &&& 31 = 32 - n := by
    rw [show 31 = 2 ^ 5 - 1 from rfl, Nat.and_two_pow_sub_one_eq_mod]; omega
  refine enter (l := [_, _]) rfl Tryz.ntmps183 rfl ?_
  repeat' (first | apply WL.fold | apply WA.fold | apply WL.nil | apply WX.n_then | apply WC.seq | apply WC.region | refine WL.pa ?_ | refine WL.ga rfl ?_ | refine WL.na rfl ?_ | refine WL.nu rfl rfl ?_ | apply WC.block | apply WC.skip | apply WC.exit | apply WC.ret | apply WX.e_block | refine WX.e_other rfl ?_ | apply WX.e_then | apply WX.e_again | apply WX.n_block | apply WX.r_then | apply WX.r_block | apply WX.r_again | refine WC.cond_yes rfl ?_ | refine WC.cond_no rfl ?_ | refine WC.cond rfl (fun hc => ?_) (fun hc => ?_) | refine WC.cond_b rfl (fun hc => ?_) (fun hc => ?_))
  refine WL.pa ?_ ((POp.conv (k' := .u64) rfl).of (v' := .int .u64 ((18446744073709551616 - n : Nat) : Int)) (by rw [wrap_neg h0 h]))
  repeat' (first | apply WL.fold | apply WA.fold | apply WL.nil | apply WX.n_then | apply WC.seq | apply WC.region | refine WL.pa ?_ | refine WL.ga rfl ?_ | refine WL.na rfl ?_ | refine WL.nu rfl rfl ?_ | apply WC.block | apply WC.skip | apply WC.exit | apply WC.ret | apply WX.e_block | refine WX.e_other rfl ?_ | apply WX.e_then | apply WX.e_again | apply WX.n_block | apply WX.r_then | apply WX.r_block | apply WX.r_again | refine WC.cond_yes rfl ?_ | refine WC.cond_no rfl ?_ | refine WC.cond rfl (fun hc => ?_) (fun hc => ?_) | refine WC.cond_b rfl (fun hc => ?_) (fun hc => ?_))
  refine WL.pa ?_ (POp.and64 (b := 31) rfl rfl rfl rfl (by omega) (by decide))
  rw [hand]
  repeat' (first | apply WL.fold | apply WA.fold | apply WL.nil | apply WX.n_then | apply WC.seq | apply WC.region | refine WL.pa ?_ | refine WL.ga rfl ?_ | refine WL.na rfl ?_ | refine WL.nu rfl rfl ?_ | apply WC.block | apply WC.skip | apply WC.exit | apply WC.ret | apply WX.e_block | refine WX.e_other rfl ?_ | apply WX.e_then | apply WX.e_again | apply WX.n_block | apply WX.r_then | apply WX.r_block | apply WX.r_again | refine WC.cond_yes rfl ?_ | refine WC.cond_no rfl ?_ | refine WC.cond rfl (fun hc => ?_) (fun hc => ?_) | refine WC.cond_b rfl (fun hc => ?_) (fun hc => ?_))
  refine WL.pa ?_ (POp.sub64 (a := 32) (b := 32 - n) rfl rfl rfl rfl (by omega) (by decide))
  rw [show 32 - (32 - n) = n from by omega]
  repeat' (first | apply WL.fold | apply WA.fold | apply WL.nil | apply WX.n_then | apply WC.seq | apply WC.region | refine WL.pa ?_ | refine WL.ga rfl ?_ | refine WL.na rfl ?_ | refine WL.nu rfl rfl ?_ | apply WC.block | apply WC.skip | apply WC.exit | apply WC.ret | apply WX.e_block | refine WX.e_other rfl ?_ | apply WX.e_then | apply WX.e_again | apply WX.n_block | apply WX.r_then | apply WX.r_block | apply WX.r_again | refine WC.cond_yes rfl ?_ | refine WC.cond_no rfl ?_ | refine WC.cond rfl (fun hc => ?_) (fun hc => ?_) | refine WC.cond_b rfl (fun hc => ?_) (fun hc => ?_))
  exact WX.ret1 rfl rfl ⟨rfl, rfl⟩
theorem mixed_fn (x : UInt32) (l : List Nat) (hl : ∀ n ∈ l, 0 < n ∧ n < 32) {b c : Nat} (w : World) (hr : Rd w (.slice (some ⟨b, 0, none⟩) l.length c) (nats l)) (hs : l.length ≤ 1000) :
    Fn Tryz.prog 153 #[w32 x, .slice (some ⟨b, 0, none⟩) l.length c] w fun v w' => v = w32 (mixW x l) ∧ w = w' := by
  refine enter (l := [_, _]) rfl Tryz.ntmps153 rfl ?_
  repeat' (first | apply WL.fold | apply WA.fold | apply WL.nil | apply WX.n_then | apply WC.seq | apply WC.region | refine WL.pa ?_ | refine WL.ga rfl ?_ | refine WL.na rfl ?_ | refine WL.nu rfl rfl ?_ | apply WC.block | apply WC.skip | apply WC.exit | apply WC.ret | apply WX.e_block | refine WX.e_other rfl ?_ | apply WX.e_then | apply WX.e_again | apply WX.n_block | apply WX.r_then | apply WX.r_block | apply WX.r_again | refine WC.cond_yes rfl ?_ | refine WC.cond_no rfl ?_ | refine WC.cond rfl (fun hc => ?_) (fun hc => ?_) | refine WC.cond_b rfl (fun hc => ?_) (fun hc => ?_))
  refine WC.loop (α := Nat) (fun i => [(0, w32 x), (5, w32 (mixW x (l.take i))), (8, .slice (some ⟨b, 0, none⟩) l.length c), (9, zv (l.length : Int)), (10, zv (i : Int))])
    (fun i w' => i ≤ l.length ∧ w' = w) (fun i => l.length - i) 0 esA ⟨by omega, rfl⟩ ?_
  rintro i w' ⟨hi, rfl⟩
  by_cases hlt : i < l.length
  · have hn := hl _ (List.getElem_mem hlt)
    have hm := mixW_take (x := x) hlt
    have hc := hr.cell (nats_get hlt)
    rw [Nat.zero_add] at hc
    generalize l[i] = n at hn hm hc
    repeat' (first | apply WL.fold | apply WA.fold | apply WL.nil | apply WX.n_then | apply WC.seq | apply WC.region | refine WL.pa ?_ | refine WL.ga rfl ?_ | refine WL.na rfl ?_ | refine WL.nu rfl rfl ?_ | apply WC.block | apply WC.skip | apply WC.exit | apply WC.ret | apply WX.e_block | refine WX.e_other rfl ?_ | apply WX.e_then | apply WX.e_again | apply WX.n_block | apply WX.r_then | apply WX.r_block | apply WX.r_again | refine WC.cond_yes rfl ?_ | refine WC.cond_no rfl ?_ | refine WC.cond rfl (fun hc => ?_) (fun hc => ?_) | refine WC.cond_b rfl (fun hc => ?_) (fun hc => ?_))
    refine WL.load rfl hc rfl ?_
    repeat' (first | apply WL.fold | apply WA.fold | apply WL.nil | apply WX.n_then | apply WC.seq | apply WC.region | refine WL.pa ?_ | refine WL.ga rfl ?_ | refine WL.na rfl ?_ | refine WL.nu rfl rfl ?_ | apply WC.block | apply WC.skip | apply WC.exit | apply WC.ret | apply WX.e_block | refine WX.e_other rfl ?_ | apply WX.e_then | apply WX.e_again | apply WX.n_block | apply WX.r_then | apply WX.r_block | apply WX.r_again | refine WC.cond_yes rfl ?_ | refine WC.cond_no rfl ?_ | refine WC.cond rfl (fun hc => ?_) (fun hc => ?_) | refine WC.cond_b rfl (fun hc => ?_) (fun hc => ?_))
    refine WL.call rfl rfl (rotate_fn x n hn.1 hn.2 w') ?_
    rintro v w2 ⟨rfl, rfl⟩
    repeat' (first | apply WL.fold | apply WA.fold | apply WL.nil | apply WX.n_then | apply WC.seq | apply WC.region | refine WL.pa ?_ | refine WL.ga rfl ?_ | refine WL.na rfl ?_ | refine WL.nu rfl rfl ?_ | apply WC.block | apply WC.skip | apply WC.exit | apply WC.ret | apply WX.e_block | refine WX.e_other rfl ?_ | apply WX.e_then | apply WX.e_again | apply WX.n_block | apply WX.r_then | apply WX.r_block | apply WX.r_again | refine WC.cond_yes rfl ?_ | refine WC.cond_no rfl ?_ | refine WC.cond rfl (fun hc => ?_) (fun hc => ?_) | refine WC.cond_b rfl (fun hc => ?_) (fun hc => ?_))
    refine WX.again (i + 1) ⟨hlt, rfl⟩ (by show l.length - (i + 1) < l.length - i; omega) ?_
    rw [hm]; repeat (first | exact trivial | refine ⟨rfl, ?_⟩)
  · obtain rfl : i = l.length := by omega
    rw [List.take_length]
    repeat' (first | apply WL.fold | apply WA.fold | apply WL.nil | apply WX.n_then | apply WC.seq | apply WC.region | refine WL.pa ?_ | refine WL.ga rfl ?_ | refine WL.na rfl ?_ | refine WL.nu rfl rfl ?_ | apply WC.block | apply WC.skip | apply WC.exit | apply WC.ret | apply WX.e_block | refine WX.e_other rfl ?_ | apply WX.e_then | apply WX.e_again | apply WX.n_block | apply WX.r_then | apply WX.r_block | apply WX.r_again | refine WC.cond_yes rfl ?_ | refine WC.cond_no rfl ?_ | refine WC.cond rfl (fun hc => ?_) (fun hc => ?_) | refine WC.cond_b rfl (fun hc => ?_) (fun hc => ?_))
    exact WX.ret1 rfl rfl ⟨rfl, rfl⟩
end Go.Sx
/- Chapter 2: the words of a block, and what a block does to a state: the walks. -/
namespace Go.Sx
open Go Go.Proofs Go.RowKit
def schW (l : List UInt8) (i : Nat) : List Value := row 64 fun j => w32 (if j < i then wW l j else 0)
theorem schW_get {l : List UInt8} {i j : Nat} (h : j < i) (hj : j < 64) : (schW l i)[j]? = some (w32 (wW l j)) := by
  unfold schW
  rw [row_get _ hj, if_pos h]
theorem schW_set {l : List UInt8} {i : Nat} (h : i < 64) : (schW l i).set i (w32 (wW l i)) = schW l (i + 1) := by
  unfold schW
  rw [row_set]
  refine row_congr fun j _ => ?_
  by_cases e : j = i
  · subst e; rw [if_pos rfl, if_pos (Nat.lt_succ_self _)]
  · have : (j < i + 1) = (j < i) := by simp only [eq_iff_iff]; omega
    rw [if_neg e]; simp only [this]
theorem schW_len (l : List UInt8) (i : Nat) : (schW l i).length = 64 := row_len _ _
theorem row_one' {n : Nat} {f : Nat → Value} (h : ∀ i, (f i).oneCell' = true) : ∀ v ∈ row n f, v.oneCell' = true := by
  intro v hv
  obtain ⟨i, -, rfl⟩ := List.mem_map.1 hv
  exact h i
theorem ub_at {w : World} {b off n c : Nat} {l : List UInt8} (h : Rd w (.slice (some ⟨b, off, none⟩) n c) (ub l)) {i : Nat} (hi : i < l.length) : w.cell? ⟨b, off + i, none⟩ = some (b8 (l.getD i 0)) := by
  have : (ub l)[i]? = some (b8 (l.getD i 0)) := by simp [ub, hi]
  exact h.cell this
theorem blk_rd {w : World} {b n : Nat} {cs : List Value} {e : TypeId} (h : Blk w b cs e) (hn : cs.length = n) : Rd w (.slice (some ⟨b, 0, none⟩) n n) cs := by
  have := Rd.of_blk (l := n) (c := n) h (Nat.le_of_eq hn.symm) (Nat.le_refl _)
  rwa [← hn, List.take_length, hn] at this
attribute [local irreducible] WC WL WX POp Then Again Fn NX W1 WA WO QL RP RA Yld LoopAt HC HL HX HN H1 HA HO HQ HB HP A.blk A.grow A.rd A.obj A.mp AgainH CutH
attribute [local irreducible] wordAt mixW
set_option maxRecDepth 100000 in
set_option maxHeartbeats 4000000 in
theorem schedule_fn {bb off c : Nat} (l : List UInt8) (hl : l.length = 64) (w : World) (hr : Rd w (.slice (some ⟨bb, off, none⟩) 64 c) (ub l)) :
    Fn Tryz.prog 152 #[.slice (some ⟨bb, off, none⟩) 64 c] w fun v w' => v = .agg (schW l 64).toArray ∧ Ext w w' := by
  refine enterH (l := [_]) rfl Tryz.ntmps152 rfl ?_
  refine hwDD ?_
  refine HL.one (H1.alloc (cs := schW l 0) (by kernel_rfl) rfl (fun b2 => ?_))
  refine hbDD ?_
  refine HC.cut (α := Unit) (fun _ => [(0, .slice (some ⟨bb, off, none⟩) 64 c), (2, .pointer (some ⟨b2, 0, none⟩))]) (fun _ => [A.blk b2 (schW l 16) 226]) (fun _ => True) ?_ ?_
  · repeat refine HC.seq ?_
    refine hwDD ?_
    refine HC.loop (α := Nat) (fun i => [(0, .slice (some ⟨bb, off, none⟩) 64 c), (2, .pointer (some ⟨b2, 0, none⟩)), (7, zv (i : Int))]) (fun i => [A.blk b2 (schW l i) 226]) (fun i => i ≤ 16) (fun i => 16 - i) 0 (Nat.zero_le _) esA (Hs.refl _) ?_
    rintro i hi
    by_cases hlt : i < 16
    · have h0 := ub_at hr (i := 4 * i) (by omega)
      have h1 := ub_at hr (i := 4 * i + 1) (by omega)
      have h2 := ub_at hr (i := 4 * i + 2) (by omega)
      have h3 := ub_at hr (i := 4 * i + 3) (by omega)
      have hset := schW_set (l := l) (i := i) (by omega)
      rw [wW_lo hlt] at hset
      unfold wordAt bt at hset
      refine hwDD ?_
      refine HC.anyC ([(⟨bb, off + 4 * i, none⟩, b8 (l.getD (4 * i) 0)), (⟨bb, off + (4 * i + 1), none⟩, b8 (l.getD (4 * i + 1) 0)), (⟨bb, off + (4 * i + 2), none⟩, b8 (l.getD (4 * i + 2) 0)), (⟨bb, off + (4 * i + 3), none⟩, b8 (l.getD (4 * i + 3) 0))]) rfl ?_
      refine HB.pa 0 rfl ?_
      refine HB.pa 1 rfl ?_
      refine HB.pa 2 rfl ?_
      refine HB.pa 3 rfl ?_
      refine HB.pa 4 rfl ?_ (POp.index_slice (o := off + 4 * i) rfl rfl (by omega) (by omega) (by omega))
      refine HB.ld 5 rfl rfl memD ?_
      refine HB.pa 6 rfl ?_
      refine HB.pa 7 rfl ?_
      refine HB.pa 8 rfl ?_
      refine HB.pa 9 rfl ?_
      refine HB.pa 10 rfl ?_
      refine HB.pa 11 rfl ?_
      refine HB.pa 12 rfl ?_ (POp.index_slice (o := off + (4 * i + 1)) rfl rfl (by omega) (by omega) (by omega))
      refine HB.ld 13 rfl rfl memD ?_
      refine HB.pa 14 rfl ?_
      refine HB.pa 15 rfl ?_
      refine HB.pa 16 rfl ?_
      refine HB.pa 17 rfl ?_
      refine HB.pa 18 rfl ?_
      refine HB.pa 19 rfl ?_
      refine HB.pa 20 rfl ?_
      refine HB.pa 21 rfl ?_ (POp.index_slice (o := off + (4 * i + 2)) rfl rfl (by omega) (by omega) (by omega))
      refine HB.ld 22 rfl rfl memD ?_
      refine HB.pa 23 rfl ?_
      refine HB.pa 24 rfl ?_
      refine HB.pa 25 rfl ?_
      refine HB.pa 26 rfl ?_
      refine HB.pa 27 rfl ?_
      refine HB.pa 28 rfl ?_
      refine HB.pa 29 rfl ?_
      refine HB.pa 30 rfl ?_ (POp.index_slice (o := off + (4 * i + 3)) rfl rfl (by omega) (by omega) (by omega))
      refine HB.ld 31 rfl rfl memD ?_
      refine HB.pa 32 rfl ?_
      refine HB.pa 33 rfl ?_
      refine HB.pa 34 rfl ?_
      refine HB.all (by (exact Keep.base h0 (Keep.base h1 (Keep.base h2 (Keep.base h3 Keep.nil))))) [35] (by kernel_rfl) rfl ⟨⟨_, rfl, ?_⟩, trivial⟩
      refine HP.one ?_
      refine H1.st (b := b2) rfl rfl (by intro _ h; cases h) (by intro _ h; cases h) rplA (by rw [schW_len]; omega) ?_
      rw [hset]
      apply HB.fold
      refine HB.done (by (exact Keep.base h0 (Keep.base h1 (Keep.base h2 (Keep.base h3 Keep.nil))))) (by kernel_rfl) ?_
      refine hwDD ?_
      exact HX.again (i + 1) hlt (by show 16 - (i + 1) < 16 - i; omega) esA (Hs.refl _)
    · obtain rfl : i = 16 := by omega
      refine hwDD ?_
      exact HX.cut () trivial esA (Hs.refl _)
  rintro - -
  refine hwDD ?_
  refine HC.loop (α := Nat) (fun i => [(2, .pointer (some ⟨b2, 0, none⟩)), (4, zv (i : Int))]) (fun i => [A.blk b2 (schW l i) 226]) (fun i => 16 ≤ i ∧ i ≤ 64) (fun i => 64 - i) 16 ⟨Nat.le_refl _, by omega⟩ esA (Hs.refl _) ?_
  rintro i ⟨hi0, hi⟩
  by_cases hlt : i < 64
  · have g2 := schW_get (l := l) (i := i) (j := i - 2) (by omega) (by omega)
    have g7 := schW_get (l := l) (i := i) (j := i - 7) (by omega) (by omega)
    have g15 := schW_get (l := l) (i := i) (j := i - 15) (by omega) (by omega)
    have g16 := schW_get (l := l) (i := i) (j := i - 16) (by omega) (by omega)
    have k7 := schW_get (l := l) (i := i + 1) (j := i - 7) (by omega) (by omega)
    have k16 := schW_get (l := l) (i := i + 1) (j := i - 16) (by omega) (by omega)
    have hset := schW_set (l := l) (i := i) hlt
    rw [wW_hi (by omega)] at hset
    have e2 : ((i : Int) - 2).toNat = i - 2 := by omega
    have e15 : ((i : Int) - 15).toNat = i - 15 := by omega
    refine hwDD ?_
    refine HC.quietS [(some 50, [4], []), (some 51, [50], [0]), (some 52, [2, 51], [1]), (some 53, [52], [2]), (some 54, [4], []), (some 55, [54], [4]), (some 56, [2, 55], [5]), (some 57, [56], [6]), (some 5, [53], [3, 0, 1, 2, 3]), (some 6, [57], [7, 8, 0, 1, 2, 3, 4, 5, 6, 7, 8])] (by kernel_rfl) (by kernel_rfl) (by kernel_rfl) ?_
    repeat' (first | refine HQ.pa ?_ | refine HQ.ga rfl ?_ | refine HQ.na rfl ?_ | refine HQ.nu rfl ?_ | refine HQ.ldb rfl memA rfl rfl ?_)
    rw [e15]
    refine HQ.ldb rfl memA g15 rfl ?_
    repeat' (first | refine HQ.pa ?_ | refine HQ.ga rfl ?_ | refine HQ.na rfl ?_ | refine HQ.nu rfl ?_ | refine HQ.ldb rfl memA rfl rfl ?_)
    rw [e2]
    refine HQ.ldb rfl memA g2 rfl ?_
    repeat' (first | refine HQ.pa ?_ | refine HQ.ga rfl ?_ | refine HQ.na rfl ?_ | refine HQ.nu rfl ?_ | refine HQ.ldb rfl memA rfl rfl ?_)
    refine HQ.nil ?_
    refine hwDD ?_
    refine HC.anyC ([(⟨b2, i - 16, none⟩, w32 (wW l (i - 16))), (⟨b2, i - 7, none⟩, w32 (wW l (i - 7)))]) rfl ?_
    refine HB.pa 0 rfl ?_
    refine HB.pa 1 rfl ?_
    refine HB.pa 2 rfl ?_
    refine HB.pa 3 rfl ?_ (POp.index_array (o := i - 16) rfl rfl (by omega) (by omega) (by omega))
    refine HB.ld 4 rfl rfl memD ?_
    refine HB.pa 5 rfl ?_
    refine HB.pa 8 rfl ?_
    refine HB.pa 9 rfl ?_
    refine HB.pa 12 rfl ?_
    refine HB.pa 13 rfl ?_
    refine HB.pa 14 rfl ?_ (POp.index_array (o := i - 7) rfl rfl (by omega) (by omega) (by omega))
    refine HB.ld 15 rfl rfl memD ?_
    refine HB.pa 17 rfl ?_
    refine HB.pa 20 rfl ?_
    refine HB.pa 21 rfl ?_
    refine HB.all (by (first | exact Keep.blk memD g16 (Keep.blk memD g7 Keep.nil) | exact Keep.blk memD k16 (Keep.blk memD k7 Keep.nil))) [6, 18] (by kernel_rfl) rfl ⟨⟨_, rfl, ?_⟩, ⟨_, rfl, ?_⟩, trivial⟩
    · refine HP.one ?_
      refine H1.lit (cs := nats [7, 18]) rfl rfl rfl rfl rfl rfl (fun b6 => ?_)
      apply HB.fold
      refine HB.all (by (first | exact Keep.blk memD g16 (Keep.blk memD g7 Keep.nil) | exact Keep.blk memD k16 (Keep.blk memD k7 Keep.nil))) [7, 18] (by kernel_rfl) rfl ⟨⟨_, rfl, ?_⟩, ⟨_, rfl, ?_⟩, trivial⟩
      · refine HP.one ?_
        refine H1.call0 rfl rfl (fun w' hM => mixed_fn (wW l (i - 15)) [7, 18] (by decide) w' (blk_rd (hM.blk memA) rfl) (by decide)) ?_
        apply HB.fold
        refine HB.pa 10 rfl ?_
        refine HB.pa 11 rfl ?_
        refine HB.pa 16 rfl ?_
        refine HB.all (by (first | exact Keep.blk memD g16 (Keep.blk memD g7 Keep.nil) | exact Keep.blk memD k16 (Keep.blk memD k7 Keep.nil))) [18] (by kernel_rfl) rfl ⟨⟨_, rfl, ?_⟩, trivial⟩
        refine HP.one ?_
        refine H1.lit (cs := nats [17, 19]) rfl rfl rfl rfl rfl rfl (fun b18 => ?_)
        apply HB.fold
        refine HB.all (by (first | exact Keep.blk memD g16 (Keep.blk memD g7 Keep.nil) | exact Keep.blk memD k16 (Keep.blk memD k7 Keep.nil))) [19] (by kernel_rfl) rfl ⟨⟨_, rfl, ?_⟩, trivial⟩
        refine HP.one ?_
        refine H1.call0 rfl rfl (fun w' hM => mixed_fn (wW l (i - 2)) [17, 19] (by decide) w' (blk_rd (hM.blk memA) rfl) (by decide)) ?_
        apply HB.fold
        refine HB.pa 22 rfl ?_
        refine HB.pa 23 rfl ?_
        refine HB.pa 24 rfl ?_
        refine HB.all (by (first | exact Keep.blk memD g16 (Keep.blk memD g7 Keep.nil) | exact Keep.blk memD k16 (Keep.blk memD k7 Keep.nil))) [25] (by kernel_rfl) rfl ⟨⟨_, rfl, ?_⟩, trivial⟩
        refine HP.one ?_
        refine H1.st (b := b2) rfl rfl (by intro _ h; cases h) (by intro _ h; cases h) rplA (by rw [schW_len]; omega) ?_
        rw [hset]
        apply HB.fold
        refine HB.done (by (first | exact Keep.blk memD g16 (Keep.blk memD g7 Keep.nil) | exact Keep.blk memD k16 (Keep.blk memD k7 Keep.nil))) (by kernel_rfl) ?_
        refine hwDD ?_
        exact HX.again (i + 1) ⟨by omega, hlt⟩ (by show 64 - (i + 1) < 64 - i; omega) esA (by repeat (first | exact Hs.nil _ | (refine Hs.cons pickA ?_)))
      · refine HP.one ?_
        refine H1.lit (cs := nats [17, 19]) rfl rfl rfl rfl rfl rfl (fun b18 => ?_)
        apply HB.fold
        refine HB.all (by (first | exact Keep.blk memD g16 (Keep.blk memD g7 Keep.nil) | exact Keep.blk memD k16 (Keep.blk memD k7 Keep.nil))) [7] (by kernel_rfl) rfl ⟨⟨_, rfl, ?_⟩, trivial⟩
        refine HP.one ?_
        refine H1.call0 rfl rfl (fun w' hM => mixed_fn (wW l (i - 15)) [7, 18] (by decide) w' (blk_rd (hM.blk memA) rfl) (by decide)) ?_
        apply HB.fold
        refine HB.pa 10 rfl ?_
        refine HB.pa 11 rfl ?_
        refine HB.pa 16 rfl ?_
        refine HB.all (by (first | exact Keep.blk memD g16 (Keep.blk memD g7 Keep.nil) | exact Keep.blk memD k16 (Keep.blk memD k7 Keep.nil))) [19] (by kernel_rfl) rfl ⟨⟨_, rfl, ?_⟩, trivial⟩
        refine HP.one ?_
        refine H1.call0 rfl rfl (fun w' hM => mixed_fn (wW l (i - 2)) [17, 19] (by decide) w' (blk_rd (hM.blk memA) rfl) (by decide)) ?_
        apply HB.fold
        refine HB.pa 22 rfl ?_
        refine HB.pa 23 rfl ?_
        refine HB.pa 24 rfl ?_
        refine HB.all (by (first | exact Keep.blk memD g16 (Keep.blk memD g7 Keep.nil) | exact Keep.blk memD k16 (Keep.blk memD k7 Keep.nil))) [25] (by kernel_rfl) rfl ⟨⟨_, rfl, ?_⟩, trivial⟩
        refine HP.one ?_
        refine H1.st (b := b2) rfl rfl (by intro _ h; cases h) (by intro _ h; cases h) rplA (by rw [schW_len]; omega) ?_
        rw [hset]
        apply HB.fold
        refine HB.done (by (first | exact Keep.blk memD g16 (Keep.blk memD g7 Keep.nil) | exact Keep.blk memD k16 (Keep.blk memD k7 Keep.nil))) (by kernel_rfl) ?_
        refine hwDD ?_
        exact HX.again (i + 1) ⟨by omega, hlt⟩ (by show 64 - (i + 1) < 64 - i; omega) esA (by repeat (first | exact Hs.nil _ | (refine Hs.cons pickA ?_)))
    · refine HP.one ?_
      refine H1.lit (cs := nats [17, 19]) rfl rfl rfl rfl rfl rfl (fun b18 => ?_)
      apply HB.fold
      refine HB.all (by (first | exact Keep.blk memD g16 (Keep.blk memD g7 Keep.nil) | exact Keep.blk memD k16 (Keep.blk memD k7 Keep.nil))) [6] (by kernel_rfl) rfl ⟨⟨_, rfl, ?_⟩, trivial⟩
      refine HP.one ?_
      refine H1.lit (cs := nats [7, 18]) rfl rfl rfl rfl rfl rfl (fun b6 => ?_)
      apply HB.fold
      refine HB.all (by (first | exact Keep.blk memD g16 (Keep.blk memD g7 Keep.nil) | exact Keep.blk memD k16 (Keep.blk memD k7 Keep.nil))) [7] (by kernel_rfl) rfl ⟨⟨_, rfl, ?_⟩, trivial⟩
      refine HP.one ?_
      refine H1.call0 rfl rfl (fun w' hM => mixed_fn (wW l (i - 15)) [7, 18] (by decide) w' (blk_rd (hM.blk memA) rfl) (by decide)) ?_
      apply HB.fold
      refine HB.pa 10 rfl ?_
      refine HB.pa 11 rfl ?_
      refine HB.pa 16 rfl ?_
      refine HB.all (by (first | exact Keep.blk memD g16 (Keep.blk memD g7 Keep.nil) | exact Keep.blk memD k16 (Keep.blk memD k7 Keep.nil))) [19] (by kernel_rfl) rfl ⟨⟨_, rfl, ?_⟩, trivial⟩
      refine HP.one ?_
      refine H1.call0 rfl rfl (fun w' hM => mixed_fn (wW l (i - 2)) [17, 19] (by decide) w' (blk_rd (hM.blk memA) rfl) (by decide)) ?_
      apply HB.fold
      refine HB.pa 22 rfl ?_
      refine HB.pa 23 rfl ?_
      refine HB.pa 24 rfl ?_
      refine HB.all (by (first | exact Keep.blk memD g16 (Keep.blk memD g7 Keep.nil) | exact Keep.blk memD k16 (Keep.blk memD k7 Keep.nil))) [25] (by kernel_rfl) rfl ⟨⟨_, rfl, ?_⟩, trivial⟩
      refine HP.one ?_
      refine H1.st (b := b2) rfl rfl (by intro _ h; cases h) (by intro _ h; cases h) rplA (by rw [schW_len]; omega) ?_
      rw [hset]
      apply HB.fold
      refine HB.done (by (first | exact Keep.blk memD g16 (Keep.blk memD g7 Keep.nil) | exact Keep.blk memD k16 (Keep.blk memD k7 Keep.nil))) (by kernel_rfl) ?_
      refine hwDD ?_
      exact HX.again (i + 1) ⟨by omega, hlt⟩ (by show 64 - (i + 1) < 64 - i; omega) esA (by repeat (first | exact Hs.nil _ | (refine Hs.cons pickA ?_)))
  · obtain rfl : i = 64 := by omega
    refine hwDD ?_
    refine HL.one (H1.ldAgg (vs := schW l 64) rfl memA (schW_len _ _) (fun i v h => by rwa [Nat.zero_add]) rfl ?_)
    refine hwDD ?_
    refine HL.one (H1.stAgg rfl rfl (schW_len _ _) (row_one' fun _ => rfl) rplA rfl ?_)
    refine hwDD ?_
    exact HX.retc1 rfl rfl memA (schW_len _ _) fun w' hM => ⟨rfl, hM.ext⟩
end Go.Sx

