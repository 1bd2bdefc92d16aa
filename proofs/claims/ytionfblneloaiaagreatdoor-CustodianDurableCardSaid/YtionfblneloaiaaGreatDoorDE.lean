/- Chapter 2: what a block does to a state: the walk. -/
import Derived.Test.YtionfblneloaiaaGreatDoorDD
import Derived.Test.YtionfblneloaiaaGreatDoorDB
namespace Go.Sx
open Go Go.Proofs Go.RowKit
theorem hwDE {G G2 : Prop} (x : G2) (hwq : Hold G2 → G := by
    intro hQq
    repeat' (first | refine HL.pa ?_ (POp.nilCheck rfl) | apply HL.fold | apply HA.fold | apply HL.nil | apply HX.n_then | apply HC.seq | apply HC.region | refine HL.pa ?_ | refine HL.ga rfl ?_ | refine HL.na rfl ?_ | refine HL.nu rfl rfl ?_ | apply HC.block | apply HC.skip | apply HC.exit | apply HC.ret | apply HX.e_block | refine HX.e_other rfl ?_ | apply HX.e_then | apply HX.e_again | apply HX.n_block | apply HX.r_then | apply HX.r_block | apply HX.r_again | refine HC.cond_yes rfl ?_ | refine HC.cond_no rfl ?_ | refine HL.one (H1.ldb rfl memA rfl rfl ?_) | refine HC.cond rfl (fun hc => ?_) (fun hc => ?_) | refine HC.cond_b rfl (fun hc => ?_) (fun hc => ?_))
    exact hQq.get) : G := hwq ⟨x⟩
theorem hbDE {G G2 : Prop} (x : G2) (hwq : Hold G2 → G := by
    intro hQq
    repeat' (first | refine HL.pa ?_ (POp.nilCheck rfl) | apply HL.fold | apply HA.fold | apply HL.nil | apply HX.n_then | apply HC.seq | apply HC.region | refine HL.pa ?_ | refine HL.ga rfl ?_ | refine HL.na rfl ?_ | refine HL.nu rfl rfl ?_ | apply HC.skip | apply HC.exit | apply HC.ret | apply HX.e_block | refine HX.e_other rfl ?_ | apply HX.e_then | apply HX.e_again | apply HX.n_block | apply HX.r_then | apply HX.r_block | apply HX.r_again | refine HC.cond_yes rfl ?_ | refine HC.cond_no rfl ?_ | refine HL.one (H1.ldb rfl memA rfl rfl ?_) | refine HC.cond rfl (fun hc => ?_) (fun hc => ?_) | refine HC.cond_b rfl (fun hc => ?_) (fun hc => ?_))
    exact hQq.get) : G := hwq ⟨x⟩
/-- The table of package digest. -/
def RoundG (w : World) : Prop := ∀ i v, (ws kL)[i]? = some v → w.cell? ⟨1, i, none⟩ = some v
theorem RoundG.ext {w w' : World} (h : RoundG w) (k : Ext w w') : RoundG w' := fun i v hv => cell_ext k (h i v hv)
theorem kL_len : kL.length = 64 := rfl
theorem kW_get {i : Nat} (h : i < 64) : (ws kL)[i]? = some (w32 (kW i)) := by
  have : i < kL.length := h
  unfold kW ws
  rw [List.getElem?_map, List.getD_eq_getElem?_getD, List.getElem?_eq_getElem this]; rfl
def addL (s v : S8) (i : Nat) : List Value := row 8 fun j => w32 (if j < i then s.l.getD j 0 + v.l.getD j 0 else s.l.getD j 0)
theorem addL_0 (s v : S8) : addL s v 0 = ws s.l := rfl
theorem addL_8 (s v : S8) : addL s v 8 = ws (s.add v).l := rfl
theorem addL_get {s v : S8} {i : Nat} (h : i < 8) : (addL s v i)[i]? = some (w32 (s.l.getD i 0)) := by
  unfold addL
  rw [row_get _ h, if_neg (Nat.lt_irrefl _)]
theorem addL_set {s v : S8} {i : Nat} : (addL s v i).set i (w32 (s.l.getD i 0 + v.l.getD i 0)) = addL s v (i + 1) := by
  unfold addL
  rw [row_set]
  refine row_congr fun j _ => ?_
  by_cases e : j = i
  · subst e; rw [if_pos rfl, if_pos (Nat.lt_succ_self _)]
  · have : (j < i + 1) = (j < i) := by simp only [eq_iff_iff]; omega
    rw [if_neg e]; simp only [this]
theorem S8.get {s : S8} {i : Nat} (h : i < 8) : (ws s.l)[i]? = some (w32 (s.l.getD i 0)) := by
  have : i < s.l.length := h
  unfold ws
  rw [List.getElem?_map, List.getD_eq_getElem?_getD, List.getElem?_eq_getElem this]; rfl
theorem ws_one {l : List UInt32} : ∀ v ∈ ws l, v.oneCell' = true := by
  intro v hv
  obtain ⟨x, -, rfl⟩ := List.mem_map.1 hv
  rfl
attribute [local irreducible] WC WL WX POp Then Again Fn NX W1 WA WO QL RP RA Yld LoopAt HC HL HX HN H1 HA HO HQ HB HP A.blk A.grow A.rd A.obj A.mp AgainH CutH
attribute [local irreducible] mixW kL
set_option maxRecDepth 100000 in
set_option maxHeartbeats 4000000 in
theorem add_fn {w0 w : World} {H : List Atom} {bh bb off c : Nat} (s : S8) (l : List UInt8) (hl : l.length = 64) (hG : RoundG w0) (hM : Mm w0 (A.blk bh (ws s.l) 161 :: H) w)
    (hr : ∀ w', Mm w0 H w' → Rd w' (.slice (some ⟨bb, off, none⟩) 64 c) (ub l)) :
    Fn Tryz.prog 91 #[.pointer (some ⟨bh, 0, none⟩), .slice (some ⟨bb, off, none⟩) 64 c] w fun v w' => v = .tuple #[] ∧ Mm w0 (A.blk bh (ws (comp s l).l) 161 :: H) w' := by
  refine enterK (l := [_, _]) hM rfl Tryz.ntmps91 rfl ?_
  refine hbDE ?_
  refine HL.one (H1.callx (vs := [_]) rfl rfl (fun w' hM => schedule_fn l hl w' (hr w' hM.tail)) ?_)
  refine hbDE ?_
  refine HL.one (H1.alloc (cs := schW l 0) (by kernel_rfl) rfl (fun b4 => ?_))
  refine hbDE ?_
  refine HL.one (H1.stAgg (cs := schW l 0) rfl rfl (schW_len _ _) (row_one' fun _ => rfl) rplA (by rw [schW_len, schW_len]) ?_)
  refine hbDE ?_
  refine HL.one (H1.ldAgg (vs := ws s.l) rfl memA rfl (fun i v h => by rwa [Nat.zero_add]) rfl ?_)
  refine hbDE ?_
  refine HL.one (H1.alloc (cs := List.replicate 8 (.int .u32 0)) (by kernel_rfl) rfl (fun b5 => ?_))
  refine hbDE ?_
  refine HL.one (H1.stAgg (cs := List.replicate 8 (.int .u32 0)) rfl rfl rfl ws_one rplA rfl ?_)
  refine hbDE ?_
  refine HL.one (H1.ldAggw (vs := ws kL) rfl (by unfold ws; rw [List.length_map, kL_len]) (fun w' hM i v hv => by rw [Nat.zero_add]; exact cell_ext hM.ext (hG i v hv)) rfl ?_)
  refine hbDE ?_
  refine HC.cut (α := Unit) (fun _ => [(0, .pointer (some ⟨bh, 0, none⟩)), (5, .pointer (some ⟨b5, 0, none⟩))]) (fun _ => A.blk b5 (ws (rnds l s 64).l) 161 :: A.blk bh (ws s.l) 161 :: H) (fun _ => True) ?_ ?_
  · repeat refine HC.seq ?_
    refine HC.block ?_
    refine HC.loop (α := Nat) (fun i => [(0, .pointer (some ⟨bh, 0, none⟩)), (4, .pointer (some ⟨b4, 0, none⟩)), (5, .pointer (some ⟨b5, 0, none⟩)), (18, .agg (ws kL).toArray), (19, zv (i : Int))])
      (fun i => A.blk b5 (ws (rnds l s i).l) 161 :: A.blk b4 (schW l 64) 226 :: A.blk bh (ws s.l) 161 :: H) (fun i => i ≤ 64) (fun i => 64 - i) 0 (Nat.zero_le _) esA (Hs.refl _) ?_
    rintro i hi
    by_cases hlt : i < 64
    · have hk := kW_get hlt
      have hw := schW_get (l := l) (i := 64) hlt hlt
      have hstep : rnds l s (i + 1) = rnd (kW i) (wW l i) (rnds l s i) := rfl
      generalize rnds l s i = S at hstep
      refine hwDE ?_
      refine HL.pa ?_ (POp.index_agg (v := w32 (kW i)) rfl rfl rfl hlt hk)
      refine hwDE ?_
      refine HC.quietS [(some 23, [5], []), (some 24, [23], [0]), (some 25, [5], []), (some 26, [25], [2]), (some 8, [24], [1, 0, 1]), (some 9, [26], [3, 4, 0, 1, 2, 3, 4])] (by kernel_rfl) (by kernel_rfl) (by kernel_rfl) ?_
      repeat' (first | refine HQ.pa ?_ | refine HQ.ga rfl ?_ | refine HQ.na rfl ?_ | refine HQ.nu rfl ?_ | refine HQ.ldb rfl memA rfl rfl ?_)
      refine HQ.nil ?_
      refine hwDE ?_
      refine HC.anyC ([(⟨b5, 7, none⟩, w32 S.h), (⟨b5, 5, none⟩, w32 S.f), (⟨b5, 6, none⟩, w32 S.g), (⟨b4, i, none⟩, w32 (wW l i))]) rfl ?_
      refine HB.pa 0 rfl ?_
      refine HB.ld 1 rfl rfl memD ?_
      refine HB.pa 2 rfl ?_
      refine HB.pa 6 rfl ?_
      refine HB.pa 7 rfl ?_
      refine HB.ld 8 rfl rfl memD ?_
      refine HB.pa 9 rfl ?_
      refine HB.pa 10 rfl ?_
      refine HB.pa 11 rfl ?_
      refine HB.pa 12 rfl ?_
      refine HB.ld 13 rfl rfl memD ?_
      refine HB.pa 14 rfl ?_
      refine HB.pa 15 rfl ?_
      refine HB.pa 17 rfl ?_
      refine HB.pa 19 rfl ?_
      refine HB.pa 20 rfl ?_
      refine HB.ld 21 rfl rfl memD ?_
      refine HB.all (by (exact Keep.blk (cs := ws S.l) memD rfl (Keep.blk (cs := ws S.l) memD rfl (Keep.blk (cs := ws S.l) memD rfl (Keep.blk memD hw Keep.nil))))) [3] (by kernel_rfl) rfl ⟨⟨_, rfl, ?_⟩, trivial⟩
      refine HP.one ?_
      refine H1.lit (cs := nats [6, 11, 25]) rfl rfl rfl rfl rfl rfl (fun b6 => ?_)
      apply HB.fold
      refine HB.all (by (exact Keep.blk (cs := ws S.l) memD rfl (Keep.blk (cs := ws S.l) memD rfl (Keep.blk (cs := ws S.l) memD rfl (Keep.blk memD hw Keep.nil))))) [4] (by kernel_rfl) rfl ⟨⟨_, rfl, ?_⟩, trivial⟩
      refine HP.one ?_
      refine H1.call0 rfl rfl (fun w' hM => mixed_fn S.e [6, 11, 25] (by decide) w' (blk_rd (hM.blk memA) rfl) (by decide)) ?_
      apply HB.fold
      refine HB.pa 5 rfl ?_
      refine HB.pa 16 rfl ?_
      refine HB.pa 18 rfl ?_
      refine HB.pa 22 rfl ?_
      refine HB.pa 23 rfl ?_
      refine HB.done (by (exact Keep.blk (cs := ws S.l) memD rfl (Keep.blk (cs := ws S.l) memD rfl (Keep.blk (cs := ws S.l) memD rfl (Keep.blk memD hw Keep.nil))))) (by kernel_rfl) ?_
      refine hwDE ?_
      refine HC.sub [(0, .pointer (some ⟨bh, 0, none⟩)), (4, .pointer (some ⟨b4, 0, none⟩)), (5, .pointer (some ⟨b5, 0, none⟩)), (18, .agg (ws kL).toArray), (19, zv (i : Int)), (8, w32 S.a), (10, w32 (rT (kW i) (wW l i) S))]
        (A.blk b5 (ws S.l) 161 :: A.blk b4 (schW l 64) 226 :: A.blk bh (ws s.l) 161 :: H) ?_ esA (Hs.refl _).skip
      refine HC.anyC ([(⟨b5, 1, none⟩, w32 S.b), (⟨b5, 2, none⟩, w32 S.c)]) rfl ?_
      refine HB.pa 0 rfl ?_
      refine HB.pa 3 rfl ?_
      refine HB.pa 4 rfl ?_
      refine HB.ld 5 rfl rfl memD ?_
      refine HB.pa 6 rfl ?_
      refine HB.pa 7 rfl ?_
      refine HB.pa 8 rfl ?_
      refine HB.ld 9 rfl rfl memD ?_
      refine HB.pa 10 rfl ?_
      refine HB.pa 11 rfl ?_
      refine HB.pa 12 rfl ?_
      refine HB.ld 13 rfl rfl memD ?_
      refine HB.pa 14 rfl ?_
      refine HB.ld 15 rfl rfl memD ?_
      refine HB.pa 16 rfl ?_
      refine HB.pa 17 rfl ?_
      refine HB.all (by (exact Keep.blk (cs := ws S.l) memD rfl (Keep.blk (cs := ws S.l) memD rfl Keep.nil))) [1] (by kernel_rfl) rfl ⟨⟨_, rfl, ?_⟩, trivial⟩
      refine HP.one ?_
      refine H1.lit (cs := nats [2, 13, 22]) rfl rfl rfl rfl rfl rfl (fun b7 => ?_)
      apply HB.fold
      refine HB.all (by (exact Keep.blk (cs := ws S.l) memD rfl (Keep.blk (cs := ws S.l) memD rfl Keep.nil))) [2] (by kernel_rfl) rfl ⟨⟨_, rfl, ?_⟩, trivial⟩
      refine HP.one ?_
      refine H1.call0 rfl rfl (fun w' hM => mixed_fn S.a [2, 13, 22] (by decide) w' (blk_rd (hM.blk memA) rfl) (by decide)) ?_
      apply HB.fold
      refine HB.pa 18 rfl ?_
      refine HB.pa 19 rfl ?_
      refine HB.done (by (exact Keep.blk (cs := ws S.l) memD rfl (Keep.blk (cs := ws S.l) memD rfl Keep.nil))) (by kernel_rfl) ?_
      refine hwDE ?_
      refine HC.sub [(0, .pointer (some ⟨bh, 0, none⟩)), (4, .pointer (some ⟨b4, 0, none⟩)), (5, .pointer (some ⟨b5, 0, none⟩)), (18, .agg (ws kL).toArray), (19, zv (i : Int)), (10, w32 (rT (kW i) (wW l i) S)), (11, w32 (rU S))]
        (A.blk b5 (ws S.l) 161 :: A.blk b4 (schW l 64) 226 :: A.blk bh (ws s.l) 161 :: H) ?_ esA (Hs.refl _).skip
      generalize hT : rT (kW i) (wW l i) S = T
      generalize hU : rU S = U
      have hstep' : rnds l s (i + 1) = ⟨T + U, S.a, S.b, S.c, S.d + T, S.e, S.f, S.g⟩ := by rw [hstep, ← hT, ← hU]; rfl
      refine HC.any rfl ?_
      refine HA.pa 0 rfl ?_ (POp.arr_lo (i := 1) rfl rfl rfl (by decide))
      refine HA.pa 1 rfl ?_ (POp.arr_hi (i := 7) rfl rfl rfl (by decide))
      refine HA.all [2] (by kernel_rfl) rfl ⟨⟨_, rfl, ?_⟩, trivial⟩
      refine HO.one ?_
      refine H1.copyB (cur := ws S.l) (cs := ws [S.a, S.b, S.c, S.d, S.e, S.f, S.g]) (cur' := ws [S.a, S.a, S.b, S.c, S.d, S.e, S.f, S.g]) rfl rfl rfl (fun w' hM j v hv => ?_) ws_one (by simp [ws, S8.l]) rfl rplA rfl ?_
      · rw [add_lit, Nat.zero_add]
        refine (hM.blk (cs := ws S.l) memA).cell ?_
        have hj : j < 7 := (List.getElem?_eq_some_iff.1 hv).1
        match j, hj, hv with
        | 0, _, h | 1, _, h | 2, _, h | 3, _, h | 4, _, h | 5, _, h | 6, _, h => exact h
      apply HA.fold
      refine HA.done (by kernel_rfl) ?_
      refine hwDE ?_
      refine HL.one (H1.st rfl rfl (by intro _ h; cases h) (by intro _ h; cases h) rplA (by simp [ws]) ?_)
      refine hwDE ?_
      refine HL.one (H1.st rfl rfl (by intro _ h; cases h) (by intro _ h; cases h) rplA (by simp [ws]) ?_)
      refine hwDE ?_
      refine HX.again (i + 1) hlt (by show 64 - (i + 1) < 64 - i; omega) esA ?_
      rw [hstep']
      exact Hs.refl _
    · obtain rfl : i = 64 := by omega
      refine hwDE ?_
      exact HX.cut () trivial esA (Hs.cons Pick.here (Hs.refl _).skip)
  rintro - -
  have hv : ∀ i, i < 8 → (ws (rnds l s 64).l)[i]? = some (w32 ((rnds l s 64).l.getD i 0)) := fun i h => S8.get h
  rw [show comp s l = s.add (rnds l s 64) from rfl]
  generalize rnds l s 64 = V at hv
  refine hwDE ?_
  refine HC.loop (α := Nat) (fun i => [(0, .pointer (some ⟨bh, 0, none⟩)), (5, .pointer (some ⟨b5, 0, none⟩)), (82, zv (i : Int))])
    (fun i => A.blk b5 (ws V.l) 161 :: A.blk bh (addL s V i) 161 :: H) (fun i => i ≤ 8) (fun i => 8 - i) 0 (Nat.zero_le _) esA (Hs.refl _) ?_
  rintro i hi
  by_cases hlt : i < 8
  · have h1 := hv i hlt
    have h2 := addL_get (s := s) (v := V) hlt
    have h3 := addL_set (s := s) (v := V) (i := i)
    refine hwDE ?_
    refine HC.anyC ([(⟨b5, i, none⟩, w32 (V.l.getD i 0))]) rfl ?_
    refine HB.pa 0 rfl ?_
    refine HB.pa 1 rfl ?_
    refine HB.pa 2 rfl ?_ (POp.nilCheck rfl)
    refine HB.pa 3 rfl ?_
    refine HB.pa 5 rfl ?_
    refine HB.pa 6 rfl ?_
    refine HB.ld 7 rfl rfl memD ?_
    refine HB.pa 9 rfl ?_ (POp.nilCheck rfl)
    refine HB.all (by (exact Keep.blk memD h1 Keep.nil)) [4] (by kernel_rfl) rfl ⟨⟨_, rfl, ?_⟩, trivial⟩
    refine HP.one ?_
    refine H1.ldb rfl memA h2 rfl ?_
    apply HB.fold
    refine HB.pa 8 rfl ?_
    refine HB.pa 10 rfl ?_
    refine HB.all (by (exact Keep.blk memD h1 Keep.nil)) [11] (by kernel_rfl) rfl ⟨⟨_, rfl, ?_⟩, trivial⟩
    refine HP.one ?_
    refine H1.st (b := bh) rfl rfl (by intro _ h; cases h) (by intro _ h; cases h) rplA (by unfold addL; rw [row_len]; exact hlt) ?_
    rw [h3]
    apply HB.fold
    refine HB.done (by (exact Keep.blk memD h1 Keep.nil)) (by kernel_rfl) ?_
    refine hwDE ?_
    exact HX.again (i + 1) hlt (by show 8 - (i + 1) < 8 - i; omega) esA (Hs.refl _)
  · obtain rfl : i = 8 := by omega
    refine hwDE ?_
    exact HX.end0 rfl fun w' hM => ⟨rfl, hM.tail⟩
end Go.Sx

