/- Chapter 27: places in their order: slices.SortFunc. -/
import Derived.Test.YtionfblneloaiaaGreatDoorYF
import Derived.Test.YtionfblneloaiaaGreatDoorHq
import Derived.Test.YtionfblneloaiaaGreatDoorShelf3
namespace Go.Sx
open Go Go.Proofs Go.RowKit
theorem W1.lit {P : Program} {r : Option Nat} {N : Nat} {ds : List Deferred} {Q : Post} {E : Env} {w : World} {next : Act → World → Prop} {g : Option (Nat × Bool)} {ty : TypeId} {pos : String} {af : Array Edge} {d : Nat} {t e : TypeId} {z : Value} {sz bb len : Nat} {parts : List (Nat × Operand)} {pv : List (Nat × Value)} {zs cs : List Value} [h : UTy P t (.slice e)] [hi : ITy P e z sz bb]
    (hx : Env.evp E parts = some pv) (hz : z.cells = zs.toArray) (hc : litC (fun i => some (i * sz, sz)) (zeroRow (len * sz) zs) pv = some cs) (hn : Nat.ble (len * sz) 16777216 = true) (h0 : Nat.beq (len * sz) 0 = false) (hd : Nat.blt d N = true)
    (hh : NX N ds next ((d, .slice (some ⟨w.heap.size, 0, none⟩) len len) :: E) (w.alloc (.cells cs.toArray e))) :
    W1 P r N ds next ⟨some d, .buildSlice t len parts.toArray, ty, pos, af, g⟩ Q E w :=
  W1.run (v := .slice (some ⟨w.heap.size, 0, none⟩) len len) (w' := w.alloc (.cells cs.toArray e)) (fun a ha => by
    have hp : Array.map (fun (p : Nat × Operand) => (p.1, a.eval p.2)) parts.toArray = pv.toArray := by simp [ha.evp hx]
    have h1 : ¬ (len * sz > 2 ^ 24) := by have := Nat.le_of_ble_eq_true hn; omega
    have h2 : ¬ (len * sz = 0) := fun e => by rw [e] at h0; cases h0
    have hzr : (Array.range (len * sz)).map (fun i => zs.toArray[i % zs.toArray.size]!) = (zeroRow (len * sz) zs).toArray := by
      apply Array.ext
      · simp [zeroRow]
      · intro i h1 h2
        simp [zeroRow, List.getD_eq_getElem?_getD]
    have hfill := litC_fill _ _ _ _ hc
    simp only [execOp, Instr.buildSlice, Sem.run_bind, run_underlying h.is, run_sizeOf (h := hi), Result.andThen, h1, h2, if_false, run_zeroValue (h := hi), hp, hz, Sem.run_pure, hzr, hfill, newRow, run_newObj]
    rfl) rfl hd hh
/-- Places in their order. -/
def cfP (x y : PK) : Int := if Lib.compareInt x.1 y.1 ≠ 0 then Lib.compareInt x.1 y.1 else Lib.compareInt x.2 y.2
def leP (x y : PK) : Prop := x.1 < y.1 ∨ (x.1 = y.1 ∧ x.2 < y.2)
instance (x y : PK) : Decidable (leP x y) := by unfold leP; infer_instance
theorem ltP (x y : PK) : ltOf cfP x y = decide (leP x y) := by
  unfold ltOf cfP leP Lib.compareInt
  by_cases h1 : x.1 < y.1
  · simp [h1]
  · by_cases h2 : y.1 < x.1
    · have h3 : ¬ x.1 = y.1 := by omega
      simp [h1, h2, h3]
    · have h3 : x.1 = y.1 := by omega
      by_cases h4 : x.2 < y.2
      · simp [h3, h4]
      · by_cases h5 : y.2 < x.2 <;> simp [h3, h4, h5]
theorem swoP : Go.Sort.SWO (ltOf cfP) where
  irrefl x := by rw [ltP]; exact decide_eq_false (by unfold leP; omega)
  trans x y z h1 h2 := by
    rw [ltP] at h1 h2 ⊢
    have h3 := of_decide_eq_true h1
    have h4 := of_decide_eq_true h2
    exact decide_eq_true (by unfold leP at *; omega)
  ntrans x y z h1 h2 := by
    rw [ltP] at h1 h2 ⊢
    have h3 := of_decide_eq_false h1
    have h4 := of_decide_eq_false h2
    exact decide_eq_false (by unfold leP at *; omega)
attribute [local irreducible] WC WL WX POp Then Again Fn NX W1 WA WO QL RP RA Yld LoopAt
theorem orG (a b : Int) (bk : Nat) (W : World) (hb : Blk W bk [zv a, zv b] 3) : Fn Tryz.prog 99 #[.slice (some ⟨bk, 0, none⟩) 2 2] W fun v w' => v = zv (if a ≠ 0 then a else b) ∧ Gr W w' := by
  have h0 := hb.cell (i := 0) rfl
  have h1 := hb.cell (i := 1) rfl
  refine enter (l := [_]) rfl Tryz.ntmps99 rfl ?_
  repeat' (first | apply WL.fold | apply WA.fold | apply WL.nil | apply WX.n_then | apply WC.seq | apply WC.region | refine WL.pa ?_ | refine WL.ga rfl ?_ | refine WL.na rfl ?_ | refine WL.nu rfl rfl ?_ | apply WC.block | apply WC.skip | apply WC.exit | apply WC.ret | apply WX.e_block | refine WX.e_other rfl ?_ | apply WX.e_then | apply WX.e_again | apply WX.n_block | apply WX.r_then | apply WX.r_block | apply WX.r_again | refine WC.cond_yes rfl ?_ | refine WC.cond_no rfl ?_ | refine WC.cond rfl (fun hc => ?_) (fun hc => ?_) | refine WC.cond_b rfl (fun hc => ?_) (fun hc => ?_))
  refine WC.loop (α := Nat) (fun i => [(3, zv 0), (6, .slice (some ⟨bk, 0, none⟩) 2 2), (7, zv 2), (8, zv (i : Int))]) (fun i w => w = W ∧ i ≤ 2 ∧ (0 < i → a = 0) ∧ (1 < i → b = 0)) (fun i => 2 - i) 0 esA ⟨rfl, by decide, fun h => absurd h (by decide), fun h => absurd h (by decide)⟩ ?_
  rintro i w ⟨rfl, hi, ha, hb2⟩
  match i, hi with
  | 0, _ =>
    repeat' (first | apply WL.fold | apply WA.fold | apply WL.nil | apply WX.n_then | apply WC.seq | apply WC.region | refine WL.pa ?_ | refine WL.ga rfl ?_ | refine WL.na rfl ?_ | refine WL.nu rfl rfl ?_ | apply WC.block | apply WC.skip | apply WC.exit | apply WC.ret | apply WX.e_block | refine WX.e_other rfl ?_ | apply WX.e_then | apply WX.e_again | apply WX.n_block | apply WX.r_then | apply WX.r_block | apply WX.r_again | refine WC.cond_yes rfl ?_ | refine WC.cond_no rfl ?_ | refine WC.cond rfl (fun hc => ?_) (fun hc => ?_) | refine WC.cond_b rfl (fun hc => ?_) (fun hc => ?_))
    refine WL.load rfl h0 rfl ?_
    by_cases hz : a = 0
    · repeat' (first | apply WL.fold | apply WA.fold | apply WL.nil | apply WX.n_then | apply WC.seq | apply WC.region | refine WL.pa ?_ | refine WL.ga rfl ?_ | refine WL.na rfl ?_ | refine WL.nu rfl rfl ?_ | apply WC.block | apply WC.skip | apply WC.exit | apply WC.ret | apply WX.e_block | refine WX.e_other rfl ?_ | apply WX.e_then | apply WX.e_again | apply WX.n_block | apply WX.r_then | apply WX.r_block | apply WX.r_again | refine WC.cond_yes rfl ?_ | refine WC.cond_no rfl ?_ | refine WC.cond rfl (fun hc => ?_) (fun hc => ?_) | refine WC.cond_b rfl (fun hc => ?_) (fun hc => ?_))
      exact WX.again 1 ⟨rfl, by decide, fun _ => hz, fun h => absurd h (by decide)⟩ (by decide) esA
    · repeat' (first | apply WL.fold | apply WA.fold | apply WL.nil | apply WX.n_then | apply WC.seq | apply WC.region | refine WL.pa ?_ | refine WL.ga rfl ?_ | refine WL.na rfl ?_ | refine WL.nu rfl rfl ?_ | apply WC.block | apply WC.skip | apply WC.exit | apply WC.ret | apply WX.e_block | refine WX.e_other rfl ?_ | apply WX.e_then | apply WX.e_again | apply WX.n_block | apply WX.r_then | apply WX.r_block | apply WX.r_again | refine WC.cond_yes rfl ?_ | refine WC.cond_no rfl ?_ | refine WC.cond rfl (fun hc => ?_) (fun hc => ?_) | refine WC.cond_b rfl (fun hc => ?_) (fun hc => ?_))
      exact WX.ret1 rfl rfl ⟨by rw [if_pos hz], Gr.refl _⟩
  | 1, _ =>
    have ha0 := ha (by decide)
    repeat' (first | apply WL.fold | apply WA.fold | apply WL.nil | apply WX.n_then | apply WC.seq | apply WC.region | refine WL.pa ?_ | refine WL.ga rfl ?_ | refine WL.na rfl ?_ | refine WL.nu rfl rfl ?_ | apply WC.block | apply WC.skip | apply WC.exit | apply WC.ret | apply WX.e_block | refine WX.e_other rfl ?_ | apply WX.e_then | apply WX.e_again | apply WX.n_block | apply WX.r_then | apply WX.r_block | apply WX.r_again | refine WC.cond_yes rfl ?_ | refine WC.cond_no rfl ?_ | refine WC.cond rfl (fun hc => ?_) (fun hc => ?_) | refine WC.cond_b rfl (fun hc => ?_) (fun hc => ?_))
    refine WL.load rfl h1 rfl ?_
    by_cases hz : b = 0
    · repeat' (first | apply WL.fold | apply WA.fold | apply WL.nil | apply WX.n_then | apply WC.seq | apply WC.region | refine WL.pa ?_ | refine WL.ga rfl ?_ | refine WL.na rfl ?_ | refine WL.nu rfl rfl ?_ | apply WC.block | apply WC.skip | apply WC.exit | apply WC.ret | apply WX.e_block | refine WX.e_other rfl ?_ | apply WX.e_then | apply WX.e_again | apply WX.n_block | apply WX.r_then | apply WX.r_block | apply WX.r_again | refine WC.cond_yes rfl ?_ | refine WC.cond_no rfl ?_ | refine WC.cond rfl (fun hc => ?_) (fun hc => ?_) | refine WC.cond_b rfl (fun hc => ?_) (fun hc => ?_))
      exact WX.again 2 ⟨rfl, by decide, fun _ => ha0, fun _ => hz⟩ (by decide) esA
    · repeat' (first | apply WL.fold | apply WA.fold | apply WL.nil | apply WX.n_then | apply WC.seq | apply WC.region | refine WL.pa ?_ | refine WL.ga rfl ?_ | refine WL.na rfl ?_ | refine WL.nu rfl rfl ?_ | apply WC.block | apply WC.skip | apply WC.exit | apply WC.ret | apply WX.e_block | refine WX.e_other rfl ?_ | apply WX.e_then | apply WX.e_again | apply WX.n_block | apply WX.r_then | apply WX.r_block | apply WX.r_again | refine WC.cond_yes rfl ?_ | refine WC.cond_no rfl ?_ | refine WC.cond rfl (fun hc => ?_) (fun hc => ?_) | refine WC.cond_b rfl (fun hc => ?_) (fun hc => ?_))
      exact WX.ret1 rfl rfl ⟨by rw [if_neg (fun h => h ha0)], Gr.refl _⟩
  | 2, _ =>
    have ha0 := ha (by decide)
    have hb0 := hb2 (by decide)
    repeat' (first | apply WL.fold | apply WA.fold | apply WL.nil | apply WX.n_then | apply WC.seq | apply WC.region | refine WL.pa ?_ | refine WL.ga rfl ?_ | refine WL.na rfl ?_ | refine WL.nu rfl rfl ?_ | apply WC.block | apply WC.skip | apply WC.exit | apply WC.ret | apply WX.e_block | refine WX.e_other rfl ?_ | apply WX.e_then | apply WX.e_again | apply WX.n_block | apply WX.r_then | apply WX.r_block | apply WX.r_again | refine WC.cond_yes rfl ?_ | refine WC.cond_no rfl ?_ | refine WC.cond rfl (fun hc => ?_) (fun hc => ?_) | refine WC.cond_b rfl (fun hc => ?_) (fun hc => ?_))
    exact WX.ret1 rfl rfl ⟨by rw [if_neg (fun h => h ha0), hb0], Gr.refl _⟩
set_option maxHeartbeats 4000000 in
theorem compare27 (x y : PK) (W : World) : Fn Tryz.prog 52 #[pkV x, pkV y] W fun v w' => v = zv (cfP x y) ∧ Gr W w' := by
  rw [pkV_cells, pkV_cells]
  refine enter (l := [_, _]) rfl Tryz.ntmps52 rfl ?_
  repeat' (first | apply WL.fold | apply WA.fold | apply WL.nil | apply WX.n_then | apply WC.seq | apply WC.region | refine WL.pa ?_ | refine WL.ga rfl ?_ | refine WL.na rfl ?_ | refine WL.nu rfl rfl ?_ | apply WC.block | apply WC.skip | apply WC.exit | apply WC.ret | apply WX.e_block | refine WX.e_other rfl ?_ | apply WX.e_then | apply WX.e_again | apply WX.n_block | apply WX.r_then | apply WX.r_block | apply WX.r_again | refine WC.cond_yes rfl ?_ | refine WC.cond_no rfl ?_ | refine WC.cond rfl (fun hc => ?_) (fun hc => ?_) | refine WC.cond_b rfl (fun hc => ?_) (fun hc => ?_))
  refine WL.one (W1.box (v := .agg [zv x.1, zv x.2].toArray) rfl rfl ?_)
  apply WL.fold
  repeat' (first | apply WL.fold | apply WA.fold | apply WL.nil | apply WX.n_then | apply WC.seq | apply WC.region | refine WL.pa ?_ | refine WL.ga rfl ?_ | refine WL.na rfl ?_ | refine WL.nu rfl rfl ?_ | apply WC.block | apply WC.skip | apply WC.exit | apply WC.ret | apply WX.e_block | refine WX.e_other rfl ?_ | apply WX.e_then | apply WX.e_again | apply WX.n_block | apply WX.r_then | apply WX.r_block | apply WX.r_again | refine WC.cond_yes rfl ?_ | refine WC.cond_no rfl ?_ | refine WC.cond rfl (fun hc => ?_) (fun hc => ?_) | refine WC.cond_b rfl (fun hc => ?_) (fun hc => ?_))
  refine WL.one (W1.box (v := .agg [zv y.1, zv y.2].toArray) rfl rfl ?_)
  apply WL.fold
  repeat' (first | apply WL.fold | apply WA.fold | apply WL.nil | apply WX.n_then | apply WC.seq | apply WC.region | refine WL.pa ?_ | refine WL.ga rfl ?_ | refine WL.na rfl ?_ | refine WL.nu rfl rfl ?_ | apply WC.block | apply WC.skip | apply WC.exit | apply WC.ret | apply WX.e_block | refine WX.e_other rfl ?_ | apply WX.e_then | apply WX.e_again | apply WX.n_block | apply WX.r_then | apply WX.r_block | apply WX.r_again | refine WC.cond_yes rfl ?_ | refine WC.cond_no rfl ?_ | refine WC.cond rfl (fun hc => ?_) (fun hc => ?_) | refine WC.cond_b rfl (fun hc => ?_) (fun hc => ?_))
  refine WC.anyE rfl ?_
  have hG2 : Gr W ((W.alloc (.cells (Value.agg [zv x.1, zv x.2].toArray).cells 76)).alloc (.cells (Value.agg [zv y.1, zv y.2].toArray).cells 76)).drew := (((Gr.refl W).alloc _).alloc _).drew
  have hx0 : ((W.alloc (.cells (Value.agg [zv x.1, zv x.2].toArray).cells 76)).alloc (.cells (Value.agg [zv y.1, zv y.2].toArray).cells 76)).drew.cell? ⟨W.heap.size, 0, none⟩ = some (zv x.1) := cell_ext (Ext.alloc _ _) ((Blk.new W [zv x.1, zv x.2] _).cell rfl)
  have hx1 : ((W.alloc (.cells (Value.agg [zv x.1, zv x.2].toArray).cells 76)).alloc (.cells (Value.agg [zv y.1, zv y.2].toArray).cells 76)).drew.cell? ⟨W.heap.size, 1, none⟩ = some (zv x.2) := cell_ext (Ext.alloc _ _) ((Blk.new W [zv x.1, zv x.2] _).cell rfl)
  have hy0 : ((W.alloc (.cells (Value.agg [zv x.1, zv x.2].toArray).cells 76)).alloc (.cells (Value.agg [zv y.1, zv y.2].toArray).cells 76)).drew.cell? ⟨(W.alloc (.cells (Value.agg [zv x.1, zv x.2].toArray).cells 76)).heap.size, 0, none⟩ = some (zv y.1) := (Blk.new (W.alloc _) [zv y.1, zv y.2] _).cell rfl
  have hy1 : ((W.alloc (.cells (Value.agg [zv x.1, zv x.2].toArray).cells 76)).alloc (.cells (Value.agg [zv y.1, zv y.2].toArray).cells 76)).drew.cell? ⟨(W.alloc (.cells (Value.agg [zv x.1, zv x.2].toArray).cells 76)).heap.size, 1, none⟩ = some (zv y.2) := (Blk.new (W.alloc _) [zv y.1, zv y.2] _).cell rfl
  generalize ((W.alloc (.cells (Value.agg [zv x.1, zv x.2].toArray).cells 76)).alloc (.cells (Value.agg [zv y.1, zv y.2].toArray).cells 76)).drew = w at hx0 hx1 hy0 hy1 hG2 ⊢
  generalize (W.alloc (.cells (Value.agg [zv x.1, zv x.2].toArray).cells 76)).heap.size = b2 at hy0 hy1 ⊢
  generalize W.heap.size = b1 at hx0 hx1 ⊢
  refine WA.pa 0 rfl ?_
  refine WA.pa 2 rfl ?_
  refine WA.pa 5 rfl ?_
  refine WA.pa 7 rfl ?_
  refine WA.all [1, 3, 6, 8] (by kernel_rfl) rfl ⟨⟨_, rfl, ?_⟩, ⟨_, rfl, ?_⟩, ⟨_, rfl, ?_⟩, ⟨_, rfl, ?_⟩, trivial⟩
  · refine WO.one (W1.load rfl hx0 rfl ?_)
    apply WA.fold
    refine WA.all [3, 6, 8] (by kernel_rfl) rfl ⟨⟨_, rfl, ?_⟩, ⟨_, rfl, ?_⟩, ⟨_, rfl, ?_⟩, trivial⟩
    · refine WO.one (W1.load rfl hy0 rfl ?_)
      apply WA.fold
      refine WA.all [4, 6, 8] (by kernel_rfl) rfl ⟨⟨_, rfl, ?_⟩, ⟨_, rfl, ?_⟩, ⟨_, rfl, ?_⟩, trivial⟩
      · refine WO.one (W1.call (vs := [zv x.1, zv y.1]) rfl rfl (compareG _ _ w) ?_)
        rintro v w1 ⟨rfl, hg1⟩
        apply WA.fold
        refine WA.all [6, 8] (by kernel_rfl) rfl ⟨⟨_, rfl, ?_⟩, ⟨_, rfl, ?_⟩, trivial⟩
        · refine WO.one (W1.load rfl (cell_ext hg1.ext hx1) rfl ?_)
          apply WA.fold
          refine WA.all [8] (by kernel_rfl) rfl ⟨⟨_, rfl, ?_⟩, trivial⟩
          refine WO.one (W1.load rfl (cell_ext hg1.ext hy1) rfl ?_)
          apply WA.fold
          refine WA.all [9] (by kernel_rfl) rfl ⟨⟨_, rfl, ?_⟩, trivial⟩
          refine WO.one (W1.call (vs := [zv x.2, zv y.2]) rfl rfl (compareG _ _ w1) ?_)
          rintro v w2 ⟨rfl, hg2⟩
          apply WA.fold
          refine WA.all [10] (by kernel_rfl) rfl ⟨⟨_, rfl, ?_⟩, trivial⟩
          refine WO.one (W1.lit (cs := [zv (Lib.compareInt x.1 y.1), zv (Lib.compareInt x.2 y.2)]) rfl rfl rfl rfl rfl rfl ?_)
          apply WA.fold
          refine WA.all [11] (by kernel_rfl) rfl ⟨⟨_, rfl, ?_⟩, trivial⟩
          refine WO.one (W1.call (vs := [_]) rfl rfl (orG _ _ _ _ (Blk.new w2 [zv (Lib.compareInt x.1 y.1), zv (Lib.compareInt x.2 y.2)] 3)) ?_)
          rintro v w3 ⟨rfl, hg3⟩
          apply WA.fold
          refine WA.pa 12 rfl ?_
          refine WA.done (by kernel_rfl) ?_
          repeat' (first | apply WL.fold | apply WA.fold | apply WL.nil | apply WX.n_then | apply WC.seq | apply WC.region | refine WL.pa ?_ | refine WL.ga rfl ?_ | refine WL.na rfl ?_ | refine WL.nu rfl rfl ?_ | apply WC.block | apply WC.skip | apply WC.exit | apply WC.ret | apply WX.e_block | refine WX.e_other rfl ?_ | apply WX.e_then | apply WX.e_again | apply WX.n_block | apply WX.r_then | apply WX.r_block | apply WX.r_again | refine WC.cond_yes rfl ?_ | refine WC.cond_no rfl ?_ | refine WC.cond rfl (fun hc => ?_) (fun hc => ?_) | refine WC.cond_b rfl (fun hc => ?_) (fun hc => ?_))
          exact WX.ret1 rfl rfl ⟨rfl, hG2.trans (hg1.trans (hg2.trans (((Gr.refl w2).alloc _).trans hg3)))⟩
        · refine WO.one (W1.load rfl (cell_ext hg1.ext hy1) rfl ?_)
          apply WA.fold
          refine WA.all [6] (by kernel_rfl) rfl ⟨⟨_, rfl, ?_⟩, trivial⟩
          refine WO.one (W1.load rfl (cell_ext hg1.ext hx1) rfl ?_)
          apply WA.fold
          refine WA.all [9] (by kernel_rfl) rfl ⟨⟨_, rfl, ?_⟩, trivial⟩
          refine WO.one (W1.call (vs := [zv x.2, zv y.2]) rfl rfl (compareG _ _ w1) ?_)
          rintro v w2 ⟨rfl, hg2⟩
          apply WA.fold
          refine WA.all [10] (by kernel_rfl) rfl ⟨⟨_, rfl, ?_⟩, trivial⟩
          refine WO.one (W1.lit (cs := [zv (Lib.compareInt x.1 y.1), zv (Lib.compareInt x.2 y.2)]) rfl rfl rfl rfl rfl rfl ?_)
          apply WA.fold
          refine WA.all [11] (by kernel_rfl) rfl ⟨⟨_, rfl, ?_⟩, trivial⟩
          refine WO.one (W1.call (vs := [_]) rfl rfl (orG _ _ _ _ (Blk.new w2 [zv (Lib.compareInt x.1 y.1), zv (Lib.compareInt x.2 y.2)] 3)) ?_)
          rintro v w3 ⟨rfl, hg3⟩
          apply WA.fold
          refine WA.pa 12 rfl ?_
          refine WA.done (by kernel_rfl) ?_
          repeat' (first | apply WL.fold | apply WA.fold | apply WL.nil | apply WX.n_then | apply WC.seq | apply WC.region | refine WL.pa ?_ | refine WL.ga rfl ?_ | refine WL.na rfl ?_ | refine WL.nu rfl rfl ?_ | apply WC.block | apply WC.skip | apply WC.exit | apply WC.ret | apply WX.e_block | refine WX.e_other rfl ?_ | apply WX.e_then | apply WX.e_again | apply WX.n_block | apply WX.r_then | apply WX.r_block | apply WX.r_again | refine WC.cond_yes rfl ?_ | refine WC.cond_no rfl ?_ | refine WC.cond rfl (fun hc => ?_) (fun hc => ?_) | refine WC.cond_b rfl (fun hc => ?_) (fun hc => ?_))
          exact WX.ret1 rfl rfl ⟨rfl, hG2.trans (hg1.trans (hg2.trans (((Gr.refl w2).alloc _).trans hg3)))⟩
      · refine WO.one (W1.load rfl hx1 rfl ?_)
        apply WA.fold
        refine WA.all [4, 8] (by kernel_rfl) rfl ⟨⟨_, rfl, ?_⟩, ⟨_, rfl, ?_⟩, trivial⟩
        · refine WO.one (W1.call (vs := [zv x.1, zv y.1]) rfl rfl (compareG _ _ w) ?_)
          rintro v w1 ⟨rfl, hg1⟩
          apply WA.fold
          refine WA.all [8] (by kernel_rfl) rfl ⟨⟨_, rfl, ?_⟩, trivial⟩
          refine WO.one (W1.load rfl (cell_ext hg1.ext hy1) rfl ?_)
          apply WA.fold
          refine WA.all [9] (by kernel_rfl) rfl ⟨⟨_, rfl, ?_⟩, trivial⟩
          refine WO.one (W1.call (vs := [zv x.2, zv y.2]) rfl rfl (compareG _ _ w1) ?_)
          rintro v w2 ⟨rfl, hg2⟩
          apply WA.fold
          refine WA.all [10] (by kernel_rfl) rfl ⟨⟨_, rfl, ?_⟩, trivial⟩
          refine WO.one (W1.lit (cs := [zv (Lib.compareInt x.1 y.1), zv (Lib.compareInt x.2 y.2)]) rfl rfl rfl rfl rfl rfl ?_)
          apply WA.fold
          refine WA.all [11] (by kernel_rfl) rfl ⟨⟨_, rfl, ?_⟩, trivial⟩
          refine WO.one (W1.call (vs := [_]) rfl rfl (orG _ _ _ _ (Blk.new w2 [zv (Lib.compareInt x.1 y.1), zv (Lib.compareInt x.2 y.2)] 3)) ?_)
          rintro v w3 ⟨rfl, hg3⟩
          apply WA.fold
          refine WA.pa 12 rfl ?_
          refine WA.done (by kernel_rfl) ?_
          repeat' (first | apply WL.fold | apply WA.fold | apply WL.nil | apply WX.n_then | apply WC.seq | apply WC.region | refine WL.pa ?_ | refine WL.ga rfl ?_ | refine WL.na rfl ?_ | refine WL.nu rfl rfl ?_ | apply WC.block | apply WC.skip | apply WC.exit | apply WC.ret | apply WX.e_block | refine WX.e_other rfl ?_ | apply WX.e_then | apply WX.e_again | apply WX.n_block | apply WX.r_then | apply WX.r_block | apply WX.r_again | refine WC.cond_yes rfl ?_ | refine WC.cond_no rfl ?_ | refine WC.cond rfl (fun hc => ?_) (fun hc => ?_) | refine WC.cond_b rfl (fun hc => ?_) (fun hc => ?_))
          exact WX.ret1 rfl rfl ⟨rfl, hG2.trans (hg1.trans (hg2.trans (((Gr.refl w2).alloc _).trans hg3)))⟩
        · refine WO.one (W1.load rfl hy1 rfl ?_)
          apply WA.fold
          refine WA.all [4] (by kernel_rfl) rfl ⟨⟨_, rfl, ?_⟩, trivial⟩
          refine WO.one (W1.call (vs := [zv x.1, zv y.1]) rfl rfl (compareG _ _ w) ?_)
          rintro v w1 ⟨rfl, hg1⟩
          apply WA.fold
          refine WA.all [9] (by kernel_rfl) rfl ⟨⟨_, rfl, ?_⟩, trivial⟩
          refine WO.one (W1.call (vs := [zv x.2, zv y.2]) rfl rfl (compareG _ _ w1) ?_)
          rintro v w2 ⟨rfl, hg2⟩
          apply WA.fold
          refine WA.all [10] (by kernel_rfl) rfl ⟨⟨_, rfl, ?_⟩, trivial⟩
          refine WO.one (W1.lit (cs := [zv (Lib.compareInt x.1 y.1), zv (Lib.compareInt x.2 y.2)]) rfl rfl rfl rfl rfl rfl ?_)
          apply WA.fold
          refine WA.all [11] (by kernel_rfl) rfl ⟨⟨_, rfl, ?_⟩, trivial⟩
          refine WO.one (W1.call (vs := [_]) rfl rfl (orG _ _ _ _ (Blk.new w2 [zv (Lib.compareInt x.1 y.1), zv (Lib.compareInt x.2 y.2)] 3)) ?_)
          rintro v w3 ⟨rfl, hg3⟩
          apply WA.fold
          refine WA.pa 12 rfl ?_
          refine WA.done (by kernel_rfl) ?_
          repeat' (first | apply WL.fold | apply WA.fold | apply WL.nil | apply WX.n_then | apply WC.seq | apply WC.region | refine WL.pa ?_ | refine WL.ga rfl ?_ | refine WL.na rfl ?_ | refine WL.nu rfl rfl ?_ | apply WC.block | apply WC.skip | apply WC.exit | apply WC.ret | apply WX.e_block | refine WX.e_other rfl ?_ | apply WX.e_then | apply WX.e_again | apply WX.n_block | apply WX.r_then | apply WX.r_block | apply WX.r_again | refine WC.cond_yes rfl ?_ | refine WC.cond_no rfl ?_ | refine WC.cond rfl (fun hc => ?_) (fun hc => ?_) | refine WC.cond_b rfl (fun hc => ?_) (fun hc => ?_))
          exact WX.ret1 rfl rfl ⟨rfl, hG2.trans (hg1.trans (hg2.trans (((Gr.refl w2).alloc _).trans hg3)))⟩
      · refine WO.one (W1.load rfl hy1 rfl ?_)
        apply WA.fold
        refine WA.all [4, 6] (by kernel_rfl) rfl ⟨⟨_, rfl, ?_⟩, ⟨_, rfl, ?_⟩, trivial⟩
        · refine WO.one (W1.call (vs := [zv x.1, zv y.1]) rfl rfl (compareG _ _ w) ?_)
          rintro v w1 ⟨rfl, hg1⟩
          apply WA.fold
          refine WA.all [6] (by kernel_rfl) rfl ⟨⟨_, rfl, ?_⟩, trivial⟩
          refine WO.one (W1.load rfl (cell_ext hg1.ext hx1) rfl ?_)
          apply WA.fold
          refine WA.all [9] (by kernel_rfl) rfl ⟨⟨_, rfl, ?_⟩, trivial⟩
          refine WO.one (W1.call (vs := [zv x.2, zv y.2]) rfl rfl (compareG _ _ w1) ?_)
          rintro v w2 ⟨rfl, hg2⟩
          apply WA.fold
          refine WA.all [10] (by kernel_rfl) rfl ⟨⟨_, rfl, ?_⟩, trivial⟩
          refine WO.one (W1.lit (cs := [zv (Lib.compareInt x.1 y.1), zv (Lib.compareInt x.2 y.2)]) rfl rfl rfl rfl rfl rfl ?_)
          apply WA.fold
          refine WA.all [11] (by kernel_rfl) rfl ⟨⟨_, rfl, ?_⟩, trivial⟩
          refine WO.one (W1.call (vs := [_]) rfl rfl (orG _ _ _ _ (Blk.new w2 [zv (Lib.compareInt x.1 y.1), zv (Lib.compareInt x.2 y.2)] 3)) ?_)
          rintro v w3 ⟨rfl, hg3⟩
          apply WA.fold
          refine WA.pa 12 rfl ?_
          refine WA.done (by kernel_rfl) ?_
          repeat' (first | apply WL.fold | apply WA.fold | apply WL.nil | apply WX.n_then | apply WC.seq | apply WC.region | refine WL.pa ?_ | refine WL.ga rfl ?_ | refine WL.na rfl ?_ | refine WL.nu rfl rfl ?_ | apply WC.block | apply WC.skip | apply WC.exit | apply WC.ret | apply WX.e_block | refine WX.e_other rfl ?_ | apply WX.e_then | apply WX.e_again | apply WX.n_block | apply WX.r_then | apply WX.r_block | apply WX.r_again | refine WC.cond_yes rfl ?_ | refine WC.cond_no rfl ?_ | refine WC.cond rfl (fun hc => ?_) (fun hc => ?_) | refine WC.cond_b rfl (fun hc => ?_) (fun hc => ?_))
          exact WX.ret1 rfl rfl ⟨rfl, hG2.trans (hg1.trans (hg2.trans (((Gr.refl w2).alloc _).trans hg3)))⟩
        · refine WO.one (W1.load rfl hx1 rfl ?_)
          apply WA.fold
          refine WA.all [4] (by kernel_rfl) rfl ⟨⟨_, rfl, ?_⟩, trivial⟩
          refine WO.one (W1.call (vs := [zv x.1, zv y.1]) rfl rfl (compareG _ _ w) ?_)
          rintro v w1 ⟨rfl, hg1⟩
          apply WA.fold
          refine WA.all [9] (by kernel_rfl) rfl ⟨⟨_, rfl, ?_⟩, trivial⟩
          refine WO.one (W1.call (vs := [zv x.2, zv y.2]) rfl rfl (compareG _ _ w1) ?_)
          rintro v w2 ⟨rfl, hg2⟩
          apply WA.fold
          refine WA.all [10] (by kernel_rfl) rfl ⟨⟨_, rfl, ?_⟩, trivial⟩
          refine WO.one (W1.lit (cs := [zv (Lib.compareInt x.1 y.1), zv (Lib.compareInt x.2 y.2)]) rfl rfl rfl rfl rfl rfl ?_)
          apply WA.fold
          refine WA.all [11] (by kernel_rfl) rfl ⟨⟨_, rfl, ?_⟩, trivial⟩
          refine WO.one (W1.call (vs := [_]) rfl rfl (orG _ _ _ _ (Blk.new w2 [zv (Lib.compareInt x.1 y.1), zv (Lib.compareInt x.2 y.2)] 3)) ?_)
          rintro v w3 ⟨rfl, hg3⟩
          apply WA.fold
          refine WA.pa 12 rfl ?_
          refine WA.done (by kernel_rfl) ?_
          repeat' (first | apply WL.fold | apply WA.fold | apply WL.nil | apply WX.n_then | apply WC.seq | apply WC.region | refine WL.pa ?_ | refine WL.ga rfl ?_ | refine WL.na rfl ?_ | refine WL.nu rfl rfl ?_ | apply WC.block | apply WC.skip | apply WC.exit | apply WC.ret | apply WX.e_block | refine WX.e_other rfl ?_ | apply WX.e_then | apply WX.e_again | apply WX.n_block | apply WX.r_then | apply WX.r_block | apply WX.r_again | refine WC.cond_yes rfl ?_ | refine WC.cond_no rfl ?_ | refine WC.cond rfl (fun hc => ?_) (fun hc => ?_) | refine WC.cond_b rfl (fun hc => ?_) (fun hc => ?_))
          exact WX.ret1 rfl rfl ⟨rfl, hG2.trans (hg1.trans (hg2.trans (((Gr.refl w2).alloc _).trans hg3)))⟩
    · refine WO.one (W1.load rfl hx1 rfl ?_)
      apply WA.fold
      refine WA.all [3, 8] (by kernel_rfl) rfl ⟨⟨_, rfl, ?_⟩, ⟨_, rfl, ?_⟩, trivial⟩
      · refine WO.one (W1.load rfl hy0 rfl ?_)
        apply WA.fold
        refine WA.all [4, 8] (by kernel_rfl) rfl ⟨⟨_, rfl, ?_⟩, ⟨_, rfl, ?_⟩, trivial⟩
        · refine WO.one (W1.call (vs := [zv x.1, zv y.1]) rfl rfl (compareG _ _ w) ?_)
          rintro v w1 ⟨rfl, hg1⟩
          apply WA.fold
          refine WA.all [8] (by kernel_rfl) rfl ⟨⟨_, rfl, ?_⟩, trivial⟩
          refine WO.one (W1.load rfl (cell_ext hg1.ext hy1) rfl ?_)
          apply WA.fold
          refine WA.all [9] (by kernel_rfl) rfl ⟨⟨_, rfl, ?_⟩, trivial⟩
          refine WO.one (W1.call (vs := [zv x.2, zv y.2]) rfl rfl (compareG _ _ w1) ?_)
          rintro v w2 ⟨rfl, hg2⟩
          apply WA.fold
          refine WA.all [10] (by kernel_rfl) rfl ⟨⟨_, rfl, ?_⟩, trivial⟩
          refine WO.one (W1.lit (cs := [zv (Lib.compareInt x.1 y.1), zv (Lib.compareInt x.2 y.2)]) rfl rfl rfl rfl rfl rfl ?_)
          apply WA.fold
          refine WA.all [11] (by kernel_rfl) rfl ⟨⟨_, rfl, ?_⟩, trivial⟩
          refine WO.one (W1.call (vs := [_]) rfl rfl (orG _ _ _ _ (Blk.new w2 [zv (Lib.compareInt x.1 y.1), zv (Lib.compareInt x.2 y.2)] 3)) ?_)
          rintro v w3 ⟨rfl, hg3⟩
          apply WA.fold
          refine WA.pa 12 rfl ?_
          refine WA.done (by kernel_rfl) ?_
          repeat' (first | apply WL.fold | apply WA.fold | apply WL.nil | apply WX.n_then | apply WC.seq | apply WC.region | refine WL.pa ?_ | refine WL.ga rfl ?_ | refine WL.na rfl ?_ | refine WL.nu rfl rfl ?_ | apply WC.block | apply WC.skip | apply WC.exit | apply WC.ret | apply WX.e_block | refine WX.e_other rfl ?_ | apply WX.e_then | apply WX.e_again | apply WX.n_block | apply WX.r_then | apply WX.r_block | apply WX.r_again | refine WC.cond_yes rfl ?_ | refine WC.cond_no rfl ?_ | refine WC.cond rfl (fun hc => ?_) (fun hc => ?_) | refine WC.cond_b rfl (fun hc => ?_) (fun hc => ?_))
          exact WX.ret1 rfl rfl ⟨rfl, hG2.trans (hg1.trans (hg2.trans (((Gr.refl w2).alloc _).trans hg3)))⟩
        · refine WO.one (W1.load rfl hy1 rfl ?_)
          apply WA.fold
          refine WA.all [4] (by kernel_rfl) rfl ⟨⟨_, rfl, ?_⟩, trivial⟩
          refine WO.one (W1.call (vs := [zv x.1, zv y.1]) rfl rfl (compareG _ _ w) ?_)
          rintro v w1 ⟨rfl, hg1⟩
          apply WA.fold
          refine WA.all [9] (by kernel_rfl) rfl ⟨⟨_, rfl, ?_⟩, trivial⟩
          refine WO.one (W1.call (vs := [zv x.2, zv y.2]) rfl rfl (compareG _ _ w1) ?_)
          rintro v w2 ⟨rfl, hg2⟩
          apply WA.fold
          refine WA.all [10] (by kernel_rfl) rfl ⟨⟨_, rfl, ?_⟩, trivial⟩
          refine WO.one (W1.lit (cs := [zv (Lib.compareInt x.1 y.1), zv (Lib.compareInt x.2 y.2)]) rfl rfl rfl rfl rfl rfl ?_)
          apply WA.fold
          refine WA.all [11] (by kernel_rfl) rfl ⟨⟨_, rfl, ?_⟩, trivial⟩
          refine WO.one (W1.call (vs := [_]) rfl rfl (orG _ _ _ _ (Blk.new w2 [zv (Lib.compareInt x.1 y.1), zv (Lib.compareInt x.2 y.2)] 3)) ?_)
          rintro v w3 ⟨rfl, hg3⟩
          apply WA.fold
          refine WA.pa 12 rfl ?_
          refine WA.done (by kernel_rfl) ?_
          repeat' (first | apply WL.fold | apply WA.fold | apply WL.nil | apply WX.n_then | apply WC.seq | apply WC.region | refine WL.pa ?_ | refine WL.ga rfl ?_ | refine WL.na rfl ?_ | refine WL.nu rfl rfl ?_ | apply WC.block | apply WC.skip | apply WC.exit | apply WC.ret | apply WX.e_block | refine WX.e_other rfl ?_ | apply WX.e_then | apply WX.e_again | apply WX.n_block | apply WX.r_then | apply WX.r_block | apply WX.r_again | refine WC.cond_yes rfl ?_ | refine WC.cond_no rfl ?_ | refine WC.cond rfl (fun hc => ?_) (fun hc => ?_) | refine WC.cond_b rfl (fun hc => ?_) (fun hc => ?_))
          exact WX.ret1 rfl rfl ⟨rfl, hG2.trans (hg1.trans (hg2.trans (((Gr.refl w2).alloc _).trans hg3)))⟩
      · refine WO.one (W1.load rfl hy1 rfl ?_)
        apply WA.fold
        refine WA.all [3] (by kernel_rfl) rfl ⟨⟨_, rfl, ?_⟩, trivial⟩
        refine WO.one (W1.load rfl hy0 rfl ?_)
        apply WA.fold
        refine WA.all [4] (by kernel_rfl) rfl ⟨⟨_, rfl, ?_⟩, trivial⟩
        refine WO.one (W1.call (vs := [zv x.1, zv y.1]) rfl rfl (compareG _ _ w) ?_)
        rintro v w1 ⟨rfl, hg1⟩
        apply WA.fold
        refine WA.all [9] (by kernel_rfl) rfl ⟨⟨_, rfl, ?_⟩, trivial⟩
        refine WO.one (W1.call (vs := [zv x.2, zv y.2]) rfl rfl (compareG _ _ w1) ?_)
        rintro v w2 ⟨rfl, hg2⟩
        apply WA.fold
        refine WA.all [10] (by kernel_rfl) rfl ⟨⟨_, rfl, ?_⟩, trivial⟩
        refine WO.one (W1.lit (cs := [zv (Lib.compareInt x.1 y.1), zv (Lib.compareInt x.2 y.2)]) rfl rfl rfl rfl rfl rfl ?_)
        apply WA.fold
        refine WA.all [11] (by kernel_rfl) rfl ⟨⟨_, rfl, ?_⟩, trivial⟩
        refine WO.one (W1.call (vs := [_]) rfl rfl (orG _ _ _ _ (Blk.new w2 [zv (Lib.compareInt x.1 y.1), zv (Lib.compareInt x.2 y.2)] 3)) ?_)
        rintro v w3 ⟨rfl, hg3⟩
        apply WA.fold
        refine WA.pa 12 rfl ?_
        refine WA.done (by kernel_rfl) ?_
        repeat' (first | apply WL.fold | apply WA.fold | apply WL.nil | apply WX.n_then | apply WC.seq | apply WC.region | refine WL.pa ?_ | refine WL.ga rfl ?_ | refine WL.na rfl ?_ | refine WL.nu rfl rfl ?_ | apply WC.block | apply WC.skip | apply WC.exit | apply WC.ret | apply WX.e_block | refine WX.e_other rfl ?_ | apply WX.e_then | apply WX.e_again | apply WX.n_block | apply WX.r_then | apply WX.r_block | apply WX.r_again | refine WC.cond_yes rfl ?_ | refine WC.cond_no rfl ?_ | refine WC.cond rfl (fun hc => ?_) (fun hc => ?_) | refine WC.cond_b rfl (fun hc => ?_) (fun hc => ?_))
        exact WX.ret1 rfl rfl ⟨rfl, hG2.trans (hg1.trans (hg2.trans (((Gr.refl w2).alloc _).trans hg3)))⟩
    · refine WO.one (W1.load rfl hy1 rfl ?_)
      apply WA.fold
      refine WA.all [3, 6] (by kernel_rfl) rfl ⟨⟨_, rfl, ?_⟩, ⟨_, rfl, ?_⟩, trivial⟩
      · refine WO.one (W1.load rfl hy0 rfl ?_)
        apply WA.fold
        refine WA.all [4, 6] (by kernel_rfl) rfl ⟨⟨_, rfl, ?_⟩, ⟨_, rfl, ?_⟩, trivial⟩
        · refine WO.one (W1.call (vs := [zv x.1, zv y.1]) rfl rfl (compareG _ _ w) ?_)
          rintro v w1 ⟨rfl, hg1⟩
          apply WA.fold
          refine WA.all [6] (by kernel_rfl) rfl ⟨⟨_, rfl, ?_⟩, trivial⟩
          refine WO.one (W1.load rfl (cell_ext hg1.ext hx1) rfl ?_)
          apply WA.fold
          refine WA.all [9] (by kernel_rfl) rfl ⟨⟨_, rfl, ?_⟩, trivial⟩
          refine WO.one (W1.call (vs := [zv x.2, zv y.2]) rfl rfl (compareG _ _ w1) ?_)
          rintro v w2 ⟨rfl, hg2⟩
          apply WA.fold
          refine WA.all [10] (by kernel_rfl) rfl ⟨⟨_, rfl, ?_⟩, trivial⟩
          refine WO.one (W1.lit (cs := [zv (Lib.compareInt x.1 y.1), zv (Lib.compareInt x.2 y.2)]) rfl rfl rfl rfl rfl rfl ?_)
          apply WA.fold
          refine WA.all [11] (by kernel_rfl) rfl ⟨⟨_, rfl, ?_⟩, trivial⟩
          refine WO.one (W1.call (vs := [_]) rfl rfl (orG _ _ _ _ (Blk.new w2 [zv (Lib.compareInt x.1 y.1), zv (Lib.compareInt x.2 y.2)] 3)) ?_)
          rintro v w3 ⟨rfl, hg3⟩
          apply WA.fold
          refine WA.pa 12 rfl ?_
          refine WA.done (by kernel_rfl) ?_
          repeat' (first | apply WL.fold | apply WA.fold | apply WL.nil | apply WX.n_then | apply WC.seq | apply WC.region | refine WL.pa ?_ | refine WL.ga rfl ?_ | refine WL.na rfl ?_ | refine WL.nu rfl rfl ?_ | apply WC.block | apply WC.skip | apply WC.exit | apply WC.ret | apply WX.e_block | refine WX.e_other rfl ?_ | apply WX.e_then | apply WX.e_again | apply WX.n_block | apply WX.r_then | apply WX.r_block | apply WX.r_again | refine WC.cond_yes rfl ?_ | refine WC.cond_no rfl ?_ | refine WC.cond rfl (fun hc => ?_) (fun hc => ?_) | refine WC.cond_b rfl (fun hc => ?_) (fun hc => ?_))
          exact WX.ret1 rfl rfl ⟨rfl, hG2.trans (hg1.trans (hg2.trans (((Gr.refl w2).alloc _).trans hg3)))⟩
        · refine WO.one (W1.load rfl hx1 rfl ?_)
          apply WA.fold
          refine WA.all [4] (by kernel_rfl) rfl ⟨⟨_, rfl, ?_⟩, trivial⟩
          refine WO.one (W1.call (vs := [zv x.1, zv y.1]) rfl rfl (compareG _ _ w) ?_)
          rintro v w1 ⟨rfl, hg1⟩
          apply WA.fold
          refine WA.all [9] (by kernel_rfl) rfl ⟨⟨_, rfl, ?_⟩, trivial⟩
          refine WO.one (W1.call (vs := [zv x.2, zv y.2]) rfl rfl (compareG _ _ w1) ?_)
          rintro v w2 ⟨rfl, hg2⟩
          apply WA.fold
          refine WA.all [10] (by kernel_rfl) rfl ⟨⟨_, rfl, ?_⟩, trivial⟩
          refine WO.one (W1.lit (cs := [zv (Lib.compareInt x.1 y.1), zv (Lib.compareInt x.2 y.2)]) rfl rfl rfl rfl rfl rfl ?_)
          apply WA.fold
          refine WA.all [11] (by kernel_rfl) rfl ⟨⟨_, rfl, ?_⟩, trivial⟩
          refine WO.one (W1.call (vs := [_]) rfl rfl (orG _ _ _ _ (Blk.new w2 [zv (Lib.compareInt x.1 y.1), zv (Lib.compareInt x.2 y.2)] 3)) ?_)
          rintro v w3 ⟨rfl, hg3⟩
          apply WA.fold
          refine WA.pa 12 rfl ?_
          refine WA.done (by kernel_rfl) ?_
          repeat' (first | apply WL.fold | apply WA.fold | apply WL.nil | apply WX.n_then | apply WC.seq | apply WC.region | refine WL.pa ?_ | refine WL.ga rfl ?_ | refine WL.na rfl ?_ | refine WL.nu rfl rfl ?_ | apply WC.block | apply WC.skip | apply WC.exit | apply WC.ret | apply WX.e_block | refine WX.e_other rfl ?_ | apply WX.e_then | apply WX.e_again | apply WX.n_block | apply WX.r_then | apply WX.r_block | apply WX.r_again | refine WC.cond_yes rfl ?_ | refine WC.cond_no rfl ?_ | refine WC.cond rfl (fun hc => ?_) (fun hc => ?_) | refine WC.cond_b rfl (fun hc => ?_) (fun hc => ?_))
          exact WX.ret1 rfl rfl ⟨rfl, hG2.trans (hg1.trans (hg2.trans (((Gr.refl w2).alloc _).trans hg3)))⟩
      · refine WO.one (W1.load rfl hx1 rfl ?_)
        apply WA.fold
        refine WA.all [3] (by kernel_rfl) rfl ⟨⟨_, rfl, ?_⟩, trivial⟩
        refine WO.one (W1.load rfl hy0 rfl ?_)
        apply WA.fold
        refine WA.all [4] (by kernel_rfl) rfl ⟨⟨_, rfl, ?_⟩, trivial⟩
        refine WO.one (W1.call (vs := [zv x.1, zv y.1]) rfl rfl (compareG _ _ w) ?_)
        rintro v w1 ⟨rfl, hg1⟩
        apply WA.fold
        refine WA.all [9] (by kernel_rfl) rfl ⟨⟨_, rfl, ?_⟩, trivial⟩
        refine WO.one (W1.call (vs := [zv x.2, zv y.2]) rfl rfl (compareG _ _ w1) ?_)
        rintro v w2 ⟨rfl, hg2⟩
        apply WA.fold
        refine WA.all [10] (by kernel_rfl) rfl ⟨⟨_, rfl, ?_⟩, trivial⟩
        refine WO.one (W1.lit (cs := [zv (Lib.compareInt x.1 y.1), zv (Lib.compareInt x.2 y.2)]) rfl rfl rfl rfl rfl rfl ?_)
        apply WA.fold
        refine WA.all [11] (by kernel_rfl) rfl ⟨⟨_, rfl, ?_⟩, trivial⟩
        refine WO.one (W1.call (vs := [_]) rfl rfl (orG _ _ _ _ (Blk.new w2 [zv (Lib.compareInt x.1 y.1), zv (Lib.compareInt x.2 y.2)] 3)) ?_)
        rintro v w3 ⟨rfl, hg3⟩
        apply WA.fold
        refine WA.pa 12 rfl ?_
        refine WA.done (by kernel_rfl) ?_
        repeat' (first | apply WL.fold | apply WA.fold | apply WL.nil | apply WX.n_then | apply WC.seq | apply WC.region | refine WL.pa ?_ | refine WL.ga rfl ?_ | refine WL.na rfl ?_ | refine WL.nu rfl rfl ?_ | apply WC.block | apply WC.skip | apply WC.exit | apply WC.ret | apply WX.e_block | refine WX.e_other rfl ?_ | apply WX.e_then | apply WX.e_again | apply WX.n_block | apply WX.r_then | apply WX.r_block | apply WX.r_again | refine WC.cond_yes rfl ?_ | refine WC.cond_no rfl ?_ | refine WC.cond rfl (fun hc => ?_) (fun hc => ?_) | refine WC.cond_b rfl (fun hc => ?_) (fun hc => ?_))
        exact WX.ret1 rfl rfl ⟨rfl, hG2.trans (hg1.trans (hg2.trans (((Gr.refl w2).alloc _).trans hg3)))⟩
  · refine WO.one (W1.load rfl hy0 rfl ?_)
    apply WA.fold
    refine WA.all [1, 6, 8] (by kernel_rfl) rfl ⟨⟨_, rfl, ?_⟩, ⟨_, rfl, ?_⟩, ⟨_, rfl, ?_⟩, trivial⟩
    · refine WO.one (W1.load rfl hx0 rfl ?_)
      apply WA.fold
      refine WA.all [4, 6, 8] (by kernel_rfl) rfl ⟨⟨_, rfl, ?_⟩, ⟨_, rfl, ?_⟩, ⟨_, rfl, ?_⟩, trivial⟩
      · refine WO.one (W1.call (vs := [zv x.1, zv y.1]) rfl rfl (compareG _ _ w) ?_)
        rintro v w1 ⟨rfl, hg1⟩
        apply WA.fold
        refine WA.all [6, 8] (by kernel_rfl) rfl ⟨⟨_, rfl, ?_⟩, ⟨_, rfl, ?_⟩, trivial⟩
        · refine WO.one (W1.load rfl (cell_ext hg1.ext hx1) rfl ?_)
          apply WA.fold
          refine WA.all [8] (by kernel_rfl) rfl ⟨⟨_, rfl, ?_⟩, trivial⟩
          refine WO.one (W1.load rfl (cell_ext hg1.ext hy1) rfl ?_)
          apply WA.fold
          refine WA.all [9] (by kernel_rfl) rfl ⟨⟨_, rfl, ?_⟩, trivial⟩
          refine WO.one (W1.call (vs := [zv x.2, zv y.2]) rfl rfl (compareG _ _ w1) ?_)
          rintro v w2 ⟨rfl, hg2⟩
          apply WA.fold
          refine WA.all [10] (by kernel_rfl) rfl ⟨⟨_, rfl, ?_⟩, trivial⟩
          refine WO.one (W1.lit (cs := [zv (Lib.compareInt x.1 y.1), zv (Lib.compareInt x.2 y.2)]) rfl rfl rfl rfl rfl rfl ?_)
          apply WA.fold
          refine WA.all [11] (by kernel_rfl) rfl ⟨⟨_, rfl, ?_⟩, trivial⟩
          refine WO.one (W1.call (vs := [_]) rfl rfl (orG _ _ _ _ (Blk.new w2 [zv (Lib.compareInt x.1 y.1), zv (Lib.compareInt x.2 y.2)] 3)) ?_)
          rintro v w3 ⟨rfl, hg3⟩
          apply WA.fold
          refine WA.pa 12 rfl ?_
          refine WA.done (by kernel_rfl) ?_
          repeat' (first | apply WL.fold | apply WA.fold | apply WL.nil | apply WX.n_then | apply WC.seq | apply WC.region | refine WL.pa ?_ | refine WL.ga rfl ?_ | refine WL.na rfl ?_ | refine WL.nu rfl rfl ?_ | apply WC.block | apply WC.skip | apply WC.exit | apply WC.ret | apply WX.e_block | refine WX.e_other rfl ?_ | apply WX.e_then | apply WX.e_again | apply WX.n_block | apply WX.r_then | apply WX.r_block | apply WX.r_again | refine WC.cond_yes rfl ?_ | refine WC.cond_no rfl ?_ | refine WC.cond rfl (fun hc => ?_) (fun hc => ?_) | refine WC.cond_b rfl (fun hc => ?_) (fun hc => ?_))
          exact WX.ret1 rfl rfl ⟨rfl, hG2.trans (hg1.trans (hg2.trans (((Gr.refl w2).alloc _).trans hg3)))⟩
        · refine WO.one (W1.load rfl (cell_ext hg1.ext hy1) rfl ?_)
          apply WA.fold
          refine WA.all [6] (by kernel_rfl) rfl ⟨⟨_, rfl, ?_⟩, trivial⟩
          refine WO.one (W1.load rfl (cell_ext hg1.ext hx1) rfl ?_)
          apply WA.fold
          refine WA.all [9] (by kernel_rfl) rfl ⟨⟨_, rfl, ?_⟩, trivial⟩
          refine WO.one (W1.call (vs := [zv x.2, zv y.2]) rfl rfl (compareG _ _ w1) ?_)
          rintro v w2 ⟨rfl, hg2⟩
          apply WA.fold
          refine WA.all [10] (by kernel_rfl) rfl ⟨⟨_, rfl, ?_⟩, trivial⟩
          refine WO.one (W1.lit (cs := [zv (Lib.compareInt x.1 y.1), zv (Lib.compareInt x.2 y.2)]) rfl rfl rfl rfl rfl rfl ?_)
          apply WA.fold
          refine WA.all [11] (by kernel_rfl) rfl ⟨⟨_, rfl, ?_⟩, trivial⟩
          refine WO.one (W1.call (vs := [_]) rfl rfl (orG _ _ _ _ (Blk.new w2 [zv (Lib.compareInt x.1 y.1), zv (Lib.compareInt x.2 y.2)] 3)) ?_)
          rintro v w3 ⟨rfl, hg3⟩
          apply WA.fold
          refine WA.pa 12 rfl ?_
          refine WA.done (by kernel_rfl) ?_
          repeat' (first | apply WL.fold | apply WA.fold | apply WL.nil | apply WX.n_then | apply WC.seq | apply WC.region | refine WL.pa ?_ | refine WL.ga rfl ?_ | refine WL.na rfl ?_ | refine WL.nu rfl rfl ?_ | apply WC.block | apply WC.skip | apply WC.exit | apply WC.ret | apply WX.e_block | refine WX.e_other rfl ?_ | apply WX.e_then | apply WX.e_again | apply WX.n_block | apply WX.r_then | apply WX.r_block | apply WX.r_again | refine WC.cond_yes rfl ?_ | refine WC.cond_no rfl ?_ | refine WC.cond rfl (fun hc => ?_) (fun hc => ?_) | refine WC.cond_b rfl (fun hc => ?_) (fun hc => ?_))
          exact WX.ret1 rfl rfl ⟨rfl, hG2.trans (hg1.trans (hg2.trans (((Gr.refl w2).alloc _).trans hg3)))⟩
      · refine WO.one (W1.load rfl hx1 rfl ?_)
        apply WA.fold
        refine WA.all [4, 8] (by kernel_rfl) rfl ⟨⟨_, rfl, ?_⟩, ⟨_, rfl, ?_⟩, trivial⟩
        · refine WO.one (W1.call (vs := [zv x.1, zv y.1]) rfl rfl (compareG _ _ w) ?_)
          rintro v w1 ⟨rfl, hg1⟩
          apply WA.fold
          refine WA.all [8] (by kernel_rfl) rfl ⟨⟨_, rfl, ?_⟩, trivial⟩
          refine WO.one (W1.load rfl (cell_ext hg1.ext hy1) rfl ?_)
          apply WA.fold
          refine WA.all [9] (by kernel_rfl) rfl ⟨⟨_, rfl, ?_⟩, trivial⟩
          refine WO.one (W1.call (vs := [zv x.2, zv y.2]) rfl rfl (compareG _ _ w1) ?_)
          rintro v w2 ⟨rfl, hg2⟩
          apply WA.fold
          refine WA.all [10] (by kernel_rfl) rfl ⟨⟨_, rfl, ?_⟩, trivial⟩
          refine WO.one (W1.lit (cs := [zv (Lib.compareInt x.1 y.1), zv (Lib.compareInt x.2 y.2)]) rfl rfl rfl rfl rfl rfl ?_)
          apply WA.fold
          refine WA.all [11] (by kernel_rfl) rfl ⟨⟨_, rfl, ?_⟩, trivial⟩
          refine WO.one (W1.call (vs := [_]) rfl rfl (orG _ _ _ _ (Blk.new w2 [zv (Lib.compareInt x.1 y.1), zv (Lib.compareInt x.2 y.2)] 3)) ?_)
          rintro v w3 ⟨rfl, hg3⟩
          apply WA.fold
          refine WA.pa 12 rfl ?_
          refine WA.done (by kernel_rfl) ?_
          repeat' (first | apply WL.fold | apply WA.fold | apply WL.nil | apply WX.n_then | apply WC.seq | apply WC.region | refine WL.pa ?_ | refine WL.ga rfl ?_ | refine WL.na rfl ?_ | refine WL.nu rfl rfl ?_ | apply WC.block | apply WC.skip | apply WC.exit | apply WC.ret | apply WX.e_block | refine WX.e_other rfl ?_ | apply WX.e_then | apply WX.e_again | apply WX.n_block | apply WX.r_then | apply WX.r_block | apply WX.r_again | refine WC.cond_yes rfl ?_ | refine WC.cond_no rfl ?_ | refine WC.cond rfl (fun hc => ?_) (fun hc => ?_) | refine WC.cond_b rfl (fun hc => ?_) (fun hc => ?_))
          exact WX.ret1 rfl rfl ⟨rfl, hG2.trans (hg1.trans (hg2.trans (((Gr.refl w2).alloc _).trans hg3)))⟩
        · refine WO.one (W1.load rfl hy1 rfl ?_)
          apply WA.fold
          refine WA.all [4] (by kernel_rfl) rfl ⟨⟨_, rfl, ?_⟩, trivial⟩
          refine WO.one (W1.call (vs := [zv x.1, zv y.1]) rfl rfl (compareG _ _ w) ?_)
          rintro v w1 ⟨rfl, hg1⟩
          apply WA.fold
          refine WA.all [9] (by kernel_rfl) rfl ⟨⟨_, rfl, ?_⟩, trivial⟩
          refine WO.one (W1.call (vs := [zv x.2, zv y.2]) rfl rfl (compareG _ _ w1) ?_)
          rintro v w2 ⟨rfl, hg2⟩
          apply WA.fold
          refine WA.all [10] (by kernel_rfl) rfl ⟨⟨_, rfl, ?_⟩, trivial⟩
          refine WO.one (W1.lit (cs := [zv (Lib.compareInt x.1 y.1), zv (Lib.compareInt x.2 y.2)]) rfl rfl rfl rfl rfl rfl ?_)
          apply WA.fold
          refine WA.all [11] (by kernel_rfl) rfl ⟨⟨_, rfl, ?_⟩, trivial⟩
          refine WO.one (W1.call (vs := [_]) rfl rfl (orG _ _ _ _ (Blk.new w2 [zv (Lib.compareInt x.1 y.1), zv (Lib.compareInt x.2 y.2)] 3)) ?_)
          rintro v w3 ⟨rfl, hg3⟩
          apply WA.fold
          refine WA.pa 12 rfl ?_
          refine WA.done (by kernel_rfl) ?_
          repeat' (first | apply WL.fold | apply WA.fold | apply WL.nil | apply WX.n_then | apply WC.seq | apply WC.region | refine WL.pa ?_ | refine WL.ga rfl ?_ | refine WL.na rfl ?_ | refine WL.nu rfl rfl ?_ | apply WC.block | apply WC.skip | apply WC.exit | apply WC.ret | apply WX.e_block | refine WX.e_other rfl ?_ | apply WX.e_then | apply WX.e_again | apply WX.n_block | apply WX.r_then | apply WX.r_block | apply WX.r_again | refine WC.cond_yes rfl ?_ | refine WC.cond_no rfl ?_ | refine WC.cond rfl (fun hc => ?_) (fun hc => ?_) | refine WC.cond_b rfl (fun hc => ?_) (fun hc => ?_))
          exact WX.ret1 rfl rfl ⟨rfl, hG2.trans (hg1.trans (hg2.trans (((Gr.refl w2).alloc _).trans hg3)))⟩
      · refine WO.one (W1.load rfl hy1 rfl ?_)
        apply WA.fold
        refine WA.all [4, 6] (by kernel_rfl) rfl ⟨⟨_, rfl, ?_⟩, ⟨_, rfl, ?_⟩, trivial⟩
        · refine WO.one (W1.call (vs := [zv x.1, zv y.1]) rfl rfl (compareG _ _ w) ?_)
          rintro v w1 ⟨rfl, hg1⟩
          apply WA.fold
          refine WA.all [6] (by kernel_rfl) rfl ⟨⟨_, rfl, ?_⟩, trivial⟩
          refine WO.one (W1.load rfl (cell_ext hg1.ext hx1) rfl ?_)
          apply WA.fold
          refine WA.all [9] (by kernel_rfl) rfl ⟨⟨_, rfl, ?_⟩, trivial⟩
          refine WO.one (W1.call (vs := [zv x.2, zv y.2]) rfl rfl (compareG _ _ w1) ?_)
          rintro v w2 ⟨rfl, hg2⟩
          apply WA.fold
          refine WA.all [10] (by kernel_rfl) rfl ⟨⟨_, rfl, ?_⟩, trivial⟩
          refine WO.one (W1.lit (cs := [zv (Lib.compareInt x.1 y.1), zv (Lib.compareInt x.2 y.2)]) rfl rfl rfl rfl rfl rfl ?_)
          apply WA.fold
          refine WA.all [11] (by kernel_rfl) rfl ⟨⟨_, rfl, ?_⟩, trivial⟩
          refine WO.one (W1.call (vs := [_]) rfl rfl (orG _ _ _ _ (Blk.new w2 [zv (Lib.compareInt x.1 y.1), zv (Lib.compareInt x.2 y.2)] 3)) ?_)
          rintro v w3 ⟨rfl, hg3⟩
          apply WA.fold
          refine WA.pa 12 rfl ?_
          refine WA.done (by kernel_rfl) ?_
          repeat' (first | apply WL.fold | apply WA.fold | apply WL.nil | apply WX.n_then | apply WC.seq | apply WC.region | refine WL.pa ?_ | refine WL.ga rfl ?_ | refine WL.na rfl ?_ | refine WL.nu rfl rfl ?_ | apply WC.block | apply WC.skip | apply WC.exit | apply WC.ret | apply WX.e_block | refine WX.e_other rfl ?_ | apply WX.e_then | apply WX.e_again | apply WX.n_block | apply WX.r_then | apply WX.r_block | apply WX.r_again | refine WC.cond_yes rfl ?_ | refine WC.cond_no rfl ?_ | refine WC.cond rfl (fun hc => ?_) (fun hc => ?_) | refine WC.cond_b rfl (fun hc => ?_) (fun hc => ?_))
          exact WX.ret1 rfl rfl ⟨rfl, hG2.trans (hg1.trans (hg2.trans (((Gr.refl w2).alloc _).trans hg3)))⟩
        · refine WO.one (W1.load rfl hx1 rfl ?_)
          apply WA.fold
          refine WA.all [4] (by kernel_rfl) rfl ⟨⟨_, rfl, ?_⟩, trivial⟩
          refine WO.one (W1.call (vs := [zv x.1, zv y.1]) rfl rfl (compareG _ _ w) ?_)
          rintro v w1 ⟨rfl, hg1⟩
          apply WA.fold
          refine WA.all [9] (by kernel_rfl) rfl ⟨⟨_, rfl, ?_⟩, trivial⟩
          refine WO.one (W1.call (vs := [zv x.2, zv y.2]) rfl rfl (compareG _ _ w1) ?_)
          rintro v w2 ⟨rfl, hg2⟩
          apply WA.fold
          refine WA.all [10] (by kernel_rfl) rfl ⟨⟨_, rfl, ?_⟩, trivial⟩
          refine WO.one (W1.lit (cs := [zv (Lib.compareInt x.1 y.1), zv (Lib.compareInt x.2 y.2)]) rfl rfl rfl rfl rfl rfl ?_)
          apply WA.fold
          refine WA.all [11] (by kernel_rfl) rfl ⟨⟨_, rfl, ?_⟩, trivial⟩
          refine WO.one (W1.call (vs := [_]) rfl rfl (orG _ _ _ _ (Blk.new w2 [zv (Lib.compareInt x.1 y.1), zv (Lib.compareInt x.2 y.2)] 3)) ?_)
          rintro v w3 ⟨rfl, hg3⟩
          apply WA.fold
          refine WA.pa 12 rfl ?_
          refine WA.done (by kernel_rfl) ?_
          repeat' (first | apply WL.fold | apply WA.fold | apply WL.nil | apply WX.n_then | apply WC.seq | apply WC.region | refine WL.pa ?_ | refine WL.ga rfl ?_ | refine WL.na rfl ?_ | refine WL.nu rfl rfl ?_ | apply WC.block | apply WC.skip | apply WC.exit | apply WC.ret | apply WX.e_block | refine WX.e_other rfl ?_ | apply WX.e_then | apply WX.e_again | apply WX.n_block | apply WX.r_then | apply WX.r_block | apply WX.r_again | refine WC.cond_yes rfl ?_ | refine WC.cond_no rfl ?_ | refine WC.cond rfl (fun hc => ?_) (fun hc => ?_) | refine WC.cond_b rfl (fun hc => ?_) (fun hc => ?_))
          exact WX.ret1 rfl rfl ⟨rfl, hG2.trans (hg1.trans (hg2.trans (((Gr.refl w2).alloc _).trans hg3)))⟩
    · refine WO.one (W1.load rfl hx1 rfl ?_)
      apply WA.fold
      refine WA.all [1, 8] (by kernel_rfl) rfl ⟨⟨_, rfl, ?_⟩, ⟨_, rfl, ?_⟩, trivial⟩
      · refine WO.one (W1.load rfl hx0 rfl ?_)
        apply WA.fold
        refine WA.all [4, 8] (by kernel_rfl) rfl ⟨⟨_, rfl, ?_⟩, ⟨_, rfl, ?_⟩, trivial⟩
        · refine WO.one (W1.call (vs := [zv x.1, zv y.1]) rfl rfl (compareG _ _ w) ?_)
          rintro v w1 ⟨rfl, hg1⟩
          apply WA.fold
          refine WA.all [8] (by kernel_rfl) rfl ⟨⟨_, rfl, ?_⟩, trivial⟩
          refine WO.one (W1.load rfl (cell_ext hg1.ext hy1) rfl ?_)
          apply WA.fold
          refine WA.all [9] (by kernel_rfl) rfl ⟨⟨_, rfl, ?_⟩, trivial⟩
          refine WO.one (W1.call (vs := [zv x.2, zv y.2]) rfl rfl (compareG _ _ w1) ?_)
          rintro v w2 ⟨rfl, hg2⟩
          apply WA.fold
          refine WA.all [10] (by kernel_rfl) rfl ⟨⟨_, rfl, ?_⟩, trivial⟩
          refine WO.one (W1.lit (cs := [zv (Lib.compareInt x.1 y.1), zv (Lib.compareInt x.2 y.2)]) rfl rfl rfl rfl rfl rfl ?_)
          apply WA.fold
          refine WA.all [11] (by kernel_rfl) rfl ⟨⟨_, rfl, ?_⟩, trivial⟩
          refine WO.one (W1.call (vs := [_]) rfl rfl (orG _ _ _ _ (Blk.new w2 [zv (Lib.compareInt x.1 y.1), zv (Lib.compareInt x.2 y.2)] 3)) ?_)
          rintro v w3 ⟨rfl, hg3⟩
          apply WA.fold
          refine WA.pa 12 rfl ?_
          refine WA.done (by kernel_rfl) ?_
          repeat' (first | apply WL.fold | apply WA.fold | apply WL.nil | apply WX.n_then | apply WC.seq | apply WC.region | refine WL.pa ?_ | refine WL.ga rfl ?_ | refine WL.na rfl ?_ | refine WL.nu rfl rfl ?_ | apply WC.block | apply WC.skip | apply WC.exit | apply WC.ret | apply WX.e_block | refine WX.e_other rfl ?_ | apply WX.e_then | apply WX.e_again | apply WX.n_block | apply WX.r_then | apply WX.r_block | apply WX.r_again | refine WC.cond_yes rfl ?_ | refine WC.cond_no rfl ?_ | refine WC.cond rfl (fun hc => ?_) (fun hc => ?_) | refine WC.cond_b rfl (fun hc => ?_) (fun hc => ?_))
          exact WX.ret1 rfl rfl ⟨rfl, hG2.trans (hg1.trans (hg2.trans (((Gr.refl w2).alloc _).trans hg3)))⟩
        · refine WO.one (W1.load rfl hy1 rfl ?_)
          apply WA.fold
          refine WA.all [4] (by kernel_rfl) rfl ⟨⟨_, rfl, ?_⟩, trivial⟩
          refine WO.one (W1.call (vs := [zv x.1, zv y.1]) rfl rfl (compareG _ _ w) ?_)
          rintro v w1 ⟨rfl, hg1⟩
          apply WA.fold
          refine WA.all [9] (by kernel_rfl) rfl ⟨⟨_, rfl, ?_⟩, trivial⟩
          refine WO.one (W1.call (vs := [zv x.2, zv y.2]) rfl rfl (compareG _ _ w1) ?_)
          rintro v w2 ⟨rfl, hg2⟩
          apply WA.fold
          refine WA.all [10] (by kernel_rfl) rfl ⟨⟨_, rfl, ?_⟩, trivial⟩
          refine WO.one (W1.lit (cs := [zv (Lib.compareInt x.1 y.1), zv (Lib.compareInt x.2 y.2)]) rfl rfl rfl rfl rfl rfl ?_)
          apply WA.fold
          refine WA.all [11] (by kernel_rfl) rfl ⟨⟨_, rfl, ?_⟩, trivial⟩
          refine WO.one (W1.call (vs := [_]) rfl rfl (orG _ _ _ _ (Blk.new w2 [zv (Lib.compareInt x.1 y.1), zv (Lib.compareInt x.2 y.2)] 3)) ?_)
          rintro v w3 ⟨rfl, hg3⟩
          apply WA.fold
          refine WA.pa 12 rfl ?_
          refine WA.done (by kernel_rfl) ?_
          repeat' (first | apply WL.fold | apply WA.fold | apply WL.nil | apply WX.n_then | apply WC.seq | apply WC.region | refine WL.pa ?_ | refine WL.ga rfl ?_ | refine WL.na rfl ?_ | refine WL.nu rfl rfl ?_ | apply WC.block | apply WC.skip | apply WC.exit | apply WC.ret | apply WX.e_block | refine WX.e_other rfl ?_ | apply WX.e_then | apply WX.e_again | apply WX.n_block | apply WX.r_then | apply WX.r_block | apply WX.r_again | refine WC.cond_yes rfl ?_ | refine WC.cond_no rfl ?_ | refine WC.cond rfl (fun hc => ?_) (fun hc => ?_) | refine WC.cond_b rfl (fun hc => ?_) (fun hc => ?_))
          exact WX.ret1 rfl rfl ⟨rfl, hG2.trans (hg1.trans (hg2.trans (((Gr.refl w2).alloc _).trans hg3)))⟩
      · refine WO.one (W1.load rfl hy1 rfl ?_)
        apply WA.fold
        refine WA.all [1] (by kernel_rfl) rfl ⟨⟨_, rfl, ?_⟩, trivial⟩
        refine WO.one (W1.load rfl hx0 rfl ?_)
        apply WA.fold
        refine WA.all [4] (by kernel_rfl) rfl ⟨⟨_, rfl, ?_⟩, trivial⟩
        refine WO.one (W1.call (vs := [zv x.1, zv y.1]) rfl rfl (compareG _ _ w) ?_)
        rintro v w1 ⟨rfl, hg1⟩
        apply WA.fold
        refine WA.all [9] (by kernel_rfl) rfl ⟨⟨_, rfl, ?_⟩, trivial⟩
        refine WO.one (W1.call (vs := [zv x.2, zv y.2]) rfl rfl (compareG _ _ w1) ?_)
        rintro v w2 ⟨rfl, hg2⟩
        apply WA.fold
        refine WA.all [10] (by kernel_rfl) rfl ⟨⟨_, rfl, ?_⟩, trivial⟩
        refine WO.one (W1.lit (cs := [zv (Lib.compareInt x.1 y.1), zv (Lib.compareInt x.2 y.2)]) rfl rfl rfl rfl rfl rfl ?_)
        apply WA.fold
        refine WA.all [11] (by kernel_rfl) rfl ⟨⟨_, rfl, ?_⟩, trivial⟩
        refine WO.one (W1.call (vs := [_]) rfl rfl (orG _ _ _ _ (Blk.new w2 [zv (Lib.compareInt x.1 y.1), zv (Lib.compareInt x.2 y.2)] 3)) ?_)
        rintro v w3 ⟨rfl, hg3⟩
        apply WA.fold
        refine WA.pa 12 rfl ?_
        refine WA.done (by kernel_rfl) ?_
        repeat' (first | apply WL.fold | apply WA.fold | apply WL.nil | apply WX.n_then | apply WC.seq | apply WC.region | refine WL.pa ?_ | refine WL.ga rfl ?_ | refine WL.na rfl ?_ | refine WL.nu rfl rfl ?_ | apply WC.block | apply WC.skip | apply WC.exit | apply WC.ret | apply WX.e_block | refine WX.e_other rfl ?_ | apply WX.e_then | apply WX.e_again | apply WX.n_block | apply WX.r_then | apply WX.r_block | apply WX.r_again | refine WC.cond_yes rfl ?_ | refine WC.cond_no rfl ?_ | refine WC.cond rfl (fun hc => ?_) (fun hc => ?_) | refine WC.cond_b rfl (fun hc => ?_) (fun hc => ?_))
        exact WX.ret1 rfl rfl ⟨rfl, hG2.trans (hg1.trans (hg2.trans (((Gr.refl w2).alloc _).trans hg3)))⟩
    · refine WO.one (W1.load rfl hy1 rfl ?_)
      apply WA.fold
      refine WA.all [1, 6] (by kernel_rfl) rfl ⟨⟨_, rfl, ?_⟩, ⟨_, rfl, ?_⟩, trivial⟩
      · refine WO.one (W1.load rfl hx0 rfl ?_)
        apply WA.fold
        refine WA.all [4, 6] (by kernel_rfl) rfl ⟨⟨_, rfl, ?_⟩, ⟨_, rfl, ?_⟩, trivial⟩
        · refine WO.one (W1.call (vs := [zv x.1, zv y.1]) rfl rfl (compareG _ _ w) ?_)
          rintro v w1 ⟨rfl, hg1⟩
          apply WA.fold
          refine WA.all [6] (by kernel_rfl) rfl ⟨⟨_, rfl, ?_⟩, trivial⟩
          refine WO.one (W1.load rfl (cell_ext hg1.ext hx1) rfl ?_)
          apply WA.fold
          refine WA.all [9] (by kernel_rfl) rfl ⟨⟨_, rfl, ?_⟩, trivial⟩
          refine WO.one (W1.call (vs := [zv x.2, zv y.2]) rfl rfl (compareG _ _ w1) ?_)
          rintro v w2 ⟨rfl, hg2⟩
          apply WA.fold
          refine WA.all [10] (by kernel_rfl) rfl ⟨⟨_, rfl, ?_⟩, trivial⟩
          refine WO.one (W1.lit (cs := [zv (Lib.compareInt x.1 y.1), zv (Lib.compareInt x.2 y.2)]) rfl rfl rfl rfl rfl rfl ?_)
          apply WA.fold
          refine WA.all [11] (by kernel_rfl) rfl ⟨⟨_, rfl, ?_⟩, trivial⟩
          refine WO.one (W1.call (vs := [_]) rfl rfl (orG _ _ _ _ (Blk.new w2 [zv (Lib.compareInt x.1 y.1), zv (Lib.compareInt x.2 y.2)] 3)) ?_)
          rintro v w3 ⟨rfl, hg3⟩
          apply WA.fold
          refine WA.pa 12 rfl ?_
          refine WA.done (by kernel_rfl) ?_
          repeat' (first | apply WL.fold | apply WA.fold | apply WL.nil | apply WX.n_then | apply WC.seq | apply WC.region | refine WL.pa ?_ | refine WL.ga rfl ?_ | refine WL.na rfl ?_ | refine WL.nu rfl rfl ?_ | apply WC.block | apply WC.skip | apply WC.exit | apply WC.ret | apply WX.e_block | refine WX.e_other rfl ?_ | apply WX.e_then | apply WX.e_again | apply WX.n_block | apply WX.r_then | apply WX.r_block | apply WX.r_again | refine WC.cond_yes rfl ?_ | refine WC.cond_no rfl ?_ | refine WC.cond rfl (fun hc => ?_) (fun hc => ?_) | refine WC.cond_b rfl (fun hc => ?_) (fun hc => ?_))
          exact WX.ret1 rfl rfl ⟨rfl, hG2.trans (hg1.trans (hg2.trans (((Gr.refl w2).alloc _).trans hg3)))⟩
        · refine WO.one (W1.load rfl hx1 rfl ?_)
          apply WA.fold
          refine WA.all [4] (by kernel_rfl) rfl ⟨⟨_, rfl, ?_⟩, trivial⟩
          refine WO.one (W1.call (vs := [zv x.1, zv y.1]) rfl rfl (compareG _ _ w) ?_)
          rintro v w1 ⟨rfl, hg1⟩
          apply WA.fold
          refine WA.all [9] (by kernel_rfl) rfl ⟨⟨_, rfl, ?_⟩, trivial⟩
          refine WO.one (W1.call (vs := [zv x.2, zv y.2]) rfl rfl (compareG _ _ w1) ?_)
          rintro v w2 ⟨rfl, hg2⟩
          apply WA.fold
          refine WA.all [10] (by kernel_rfl) rfl ⟨⟨_, rfl, ?_⟩, trivial⟩
          refine WO.one (W1.lit (cs := [zv (Lib.compareInt x.1 y.1), zv (Lib.compareInt x.2 y.2)]) rfl rfl rfl rfl rfl rfl ?_)
          apply WA.fold
          refine WA.all [11] (by kernel_rfl) rfl ⟨⟨_, rfl, ?_⟩, trivial⟩
          refine WO.one (W1.call (vs := [_]) rfl rfl (orG _ _ _ _ (Blk.new w2 [zv (Lib.compareInt x.1 y.1), zv (Lib.compareInt x.2 y.2)] 3)) ?_)
          rintro v w3 ⟨rfl, hg3⟩
          apply WA.fold
          refine WA.pa 12 rfl ?_
          refine WA.done (by kernel_rfl) ?_
          repeat' (first | apply WL.fold | apply WA.fold | apply WL.nil | apply WX.n_then | apply WC.seq | apply WC.region | refine WL.pa ?_ | refine WL.ga rfl ?_ | refine WL.na rfl ?_ | refine WL.nu rfl rfl ?_ | apply WC.block | apply WC.skip | apply WC.exit | apply WC.ret | apply WX.e_block | refine WX.e_other rfl ?_ | apply WX.e_then | apply WX.e_again | apply WX.n_block | apply WX.r_then | apply WX.r_block | apply WX.r_again | refine WC.cond_yes rfl ?_ | refine WC.cond_no rfl ?_ | refine WC.cond rfl (fun hc => ?_) (fun hc => ?_) | refine WC.cond_b rfl (fun hc => ?_) (fun hc => ?_))
          exact WX.ret1 rfl rfl ⟨rfl, hG2.trans (hg1.trans (hg2.trans (((Gr.refl w2).alloc _).trans hg3)))⟩
      · refine WO.one (W1.load rfl hx1 rfl ?_)
        apply WA.fold
        refine WA.all [1] (by kernel_rfl) rfl ⟨⟨_, rfl, ?_⟩, trivial⟩
        refine WO.one (W1.load rfl hx0 rfl ?_)
        apply WA.fold
        refine WA.all [4] (by kernel_rfl) rfl ⟨⟨_, rfl, ?_⟩, trivial⟩
        refine WO.one (W1.call (vs := [zv x.1, zv y.1]) rfl rfl (compareG _ _ w) ?_)
        rintro v w1 ⟨rfl, hg1⟩
        apply WA.fold
        refine WA.all [9] (by kernel_rfl) rfl ⟨⟨_, rfl, ?_⟩, trivial⟩
        refine WO.one (W1.call (vs := [zv x.2, zv y.2]) rfl rfl (compareG _ _ w1) ?_)
        rintro v w2 ⟨rfl, hg2⟩
        apply WA.fold
        refine WA.all [10] (by kernel_rfl) rfl ⟨⟨_, rfl, ?_⟩, trivial⟩
        refine WO.one (W1.lit (cs := [zv (Lib.compareInt x.1 y.1), zv (Lib.compareInt x.2 y.2)]) rfl rfl rfl rfl rfl rfl ?_)
        apply WA.fold
        refine WA.all [11] (by kernel_rfl) rfl ⟨⟨_, rfl, ?_⟩, trivial⟩
        refine WO.one (W1.call (vs := [_]) rfl rfl (orG _ _ _ _ (Blk.new w2 [zv (Lib.compareInt x.1 y.1), zv (Lib.compareInt x.2 y.2)] 3)) ?_)
        rintro v w3 ⟨rfl, hg3⟩
        apply WA.fold
        refine WA.pa 12 rfl ?_
        refine WA.done (by kernel_rfl) ?_
        repeat' (first | apply WL.fold | apply WA.fold | apply WL.nil | apply WX.n_then | apply WC.seq | apply WC.region | refine WL.pa ?_ | refine WL.ga rfl ?_ | refine WL.na rfl ?_ | refine WL.nu rfl rfl ?_ | apply WC.block | apply WC.skip | apply WC.exit | apply WC.ret | apply WX.e_block | refine WX.e_other rfl ?_ | apply WX.e_then | apply WX.e_again | apply WX.n_block | apply WX.r_then | apply WX.r_block | apply WX.r_again | refine WC.cond_yes rfl ?_ | refine WC.cond_no rfl ?_ | refine WC.cond rfl (fun hc => ?_) (fun hc => ?_) | refine WC.cond_b rfl (fun hc => ?_) (fun hc => ?_))
        exact WX.ret1 rfl rfl ⟨rfl, hG2.trans (hg1.trans (hg2.trans (((Gr.refl w2).alloc _).trans hg3)))⟩
  · refine WO.one (W1.load rfl hx1 rfl ?_)
    apply WA.fold
    refine WA.all [1, 3, 8] (by kernel_rfl) rfl ⟨⟨_, rfl, ?_⟩, ⟨_, rfl, ?_⟩, ⟨_, rfl, ?_⟩, trivial⟩
    · refine WO.one (W1.load rfl hx0 rfl ?_)
      apply WA.fold
      refine WA.all [3, 8] (by kernel_rfl) rfl ⟨⟨_, rfl, ?_⟩, ⟨_, rfl, ?_⟩, trivial⟩
      · refine WO.one (W1.load rfl hy0 rfl ?_)
        apply WA.fold
        refine WA.all [4, 8] (by kernel_rfl) rfl ⟨⟨_, rfl, ?_⟩, ⟨_, rfl, ?_⟩, trivial⟩
        · refine WO.one (W1.call (vs := [zv x.1, zv y.1]) rfl rfl (compareG _ _ w) ?_)
          rintro v w1 ⟨rfl, hg1⟩
          apply WA.fold
          refine WA.all [8] (by kernel_rfl) rfl ⟨⟨_, rfl, ?_⟩, trivial⟩
          refine WO.one (W1.load rfl (cell_ext hg1.ext hy1) rfl ?_)
          apply WA.fold
          refine WA.all [9] (by kernel_rfl) rfl ⟨⟨_, rfl, ?_⟩, trivial⟩
          refine WO.one (W1.call (vs := [zv x.2, zv y.2]) rfl rfl (compareG _ _ w1) ?_)
          rintro v w2 ⟨rfl, hg2⟩
          apply WA.fold
          refine WA.all [10] (by kernel_rfl) rfl ⟨⟨_, rfl, ?_⟩, trivial⟩
          refine WO.one (W1.lit (cs := [zv (Lib.compareInt x.1 y.1), zv (Lib.compareInt x.2 y.2)]) rfl rfl rfl rfl rfl rfl ?_)
          apply WA.fold
          refine WA.all [11] (by kernel_rfl) rfl ⟨⟨_, rfl, ?_⟩, trivial⟩
          refine WO.one (W1.call (vs := [_]) rfl rfl (orG _ _ _ _ (Blk.new w2 [zv (Lib.compareInt x.1 y.1), zv (Lib.compareInt x.2 y.2)] 3)) ?_)
          rintro v w3 ⟨rfl, hg3⟩
          apply WA.fold
          refine WA.pa 12 rfl ?_
          refine WA.done (by kernel_rfl) ?_
          repeat' (first | apply WL.fold | apply WA.fold | apply WL.nil | apply WX.n_then | apply WC.seq | apply WC.region | refine WL.pa ?_ | refine WL.ga rfl ?_ | refine WL.na rfl ?_ | refine WL.nu rfl rfl ?_ | apply WC.block | apply WC.skip | apply WC.exit | apply WC.ret | apply WX.e_block | refine WX.e_other rfl ?_ | apply WX.e_then | apply WX.e_again | apply WX.n_block | apply WX.r_then | apply WX.r_block | apply WX.r_again | refine WC.cond_yes rfl ?_ | refine WC.cond_no rfl ?_ | refine WC.cond rfl (fun hc => ?_) (fun hc => ?_) | refine WC.cond_b rfl (fun hc => ?_) (fun hc => ?_))
          exact WX.ret1 rfl rfl ⟨rfl, hG2.trans (hg1.trans (hg2.trans (((Gr.refl w2).alloc _).trans hg3)))⟩
        · refine WO.one (W1.load rfl hy1 rfl ?_)
          apply WA.fold
          refine WA.all [4] (by kernel_rfl) rfl ⟨⟨_, rfl, ?_⟩, trivial⟩
          refine WO.one (W1.call (vs := [zv x.1, zv y.1]) rfl rfl (compareG _ _ w) ?_)
          rintro v w1 ⟨rfl, hg1⟩
          apply WA.fold
          refine WA.all [9] (by kernel_rfl) rfl ⟨⟨_, rfl, ?_⟩, trivial⟩
          refine WO.one (W1.call (vs := [zv x.2, zv y.2]) rfl rfl (compareG _ _ w1) ?_)
          rintro v w2 ⟨rfl, hg2⟩
          apply WA.fold
          refine WA.all [10] (by kernel_rfl) rfl ⟨⟨_, rfl, ?_⟩, trivial⟩
          refine WO.one (W1.lit (cs := [zv (Lib.compareInt x.1 y.1), zv (Lib.compareInt x.2 y.2)]) rfl rfl rfl rfl rfl rfl ?_)
          apply WA.fold
          refine WA.all [11] (by kernel_rfl) rfl ⟨⟨_, rfl, ?_⟩, trivial⟩
          refine WO.one (W1.call (vs := [_]) rfl rfl (orG _ _ _ _ (Blk.new w2 [zv (Lib.compareInt x.1 y.1), zv (Lib.compareInt x.2 y.2)] 3)) ?_)
          rintro v w3 ⟨rfl, hg3⟩
          apply WA.fold
          refine WA.pa 12 rfl ?_
          refine WA.done (by kernel_rfl) ?_
          repeat' (first | apply WL.fold | apply WA.fold | apply WL.nil | apply WX.n_then | apply WC.seq | apply WC.region | refine WL.pa ?_ | refine WL.ga rfl ?_ | refine WL.na rfl ?_ | refine WL.nu rfl rfl ?_ | apply WC.block | apply WC.skip | apply WC.exit | apply WC.ret | apply WX.e_block | refine WX.e_other rfl ?_ | apply WX.e_then | apply WX.e_again | apply WX.n_block | apply WX.r_then | apply WX.r_block | apply WX.r_again | refine WC.cond_yes rfl ?_ | refine WC.cond_no rfl ?_ | refine WC.cond rfl (fun hc => ?_) (fun hc => ?_) | refine WC.cond_b rfl (fun hc => ?_) (fun hc => ?_))
          exact WX.ret1 rfl rfl ⟨rfl, hG2.trans (hg1.trans (hg2.trans (((Gr.refl w2).alloc _).trans hg3)))⟩
      · refine WO.one (W1.load rfl hy1 rfl ?_)
        apply WA.fold
        refine WA.all [3] (by kernel_rfl) rfl ⟨⟨_, rfl, ?_⟩, trivial⟩
        refine WO.one (W1.load rfl hy0 rfl ?_)
        apply WA.fold
        refine WA.all [4] (by kernel_rfl) rfl ⟨⟨_, rfl, ?_⟩, trivial⟩
        refine WO.one (W1.call (vs := [zv x.1, zv y.1]) rfl rfl (compareG _ _ w) ?_)
        rintro v w1 ⟨rfl, hg1⟩
        apply WA.fold
        refine WA.all [9] (by kernel_rfl) rfl ⟨⟨_, rfl, ?_⟩, trivial⟩
        refine WO.one (W1.call (vs := [zv x.2, zv y.2]) rfl rfl (compareG _ _ w1) ?_)
        rintro v w2 ⟨rfl, hg2⟩
        apply WA.fold
        refine WA.all [10] (by kernel_rfl) rfl ⟨⟨_, rfl, ?_⟩, trivial⟩
        refine WO.one (W1.lit (cs := [zv (Lib.compareInt x.1 y.1), zv (Lib.compareInt x.2 y.2)]) rfl rfl rfl rfl rfl rfl ?_)
        apply WA.fold
        refine WA.all [11] (by kernel_rfl) rfl ⟨⟨_, rfl, ?_⟩, trivial⟩
        refine WO.one (W1.call (vs := [_]) rfl rfl (orG _ _ _ _ (Blk.new w2 [zv (Lib.compareInt x.1 y.1), zv (Lib.compareInt x.2 y.2)] 3)) ?_)
        rintro v w3 ⟨rfl, hg3⟩
        apply WA.fold
        refine WA.pa 12 rfl ?_
        refine WA.done (by kernel_rfl) ?_
        repeat' (first | apply WL.fold | apply WA.fold | apply WL.nil | apply WX.n_then | apply WC.seq | apply WC.region | refine WL.pa ?_ | refine WL.ga rfl ?_ | refine WL.na rfl ?_ | refine WL.nu rfl rfl ?_ | apply WC.block | apply WC.skip | apply WC.exit | apply WC.ret | apply WX.e_block | refine WX.e_other rfl ?_ | apply WX.e_then | apply WX.e_again | apply WX.n_block | apply WX.r_then | apply WX.r_block | apply WX.r_again | refine WC.cond_yes rfl ?_ | refine WC.cond_no rfl ?_ | refine WC.cond rfl (fun hc => ?_) (fun hc => ?_) | refine WC.cond_b rfl (fun hc => ?_) (fun hc => ?_))
        exact WX.ret1 rfl rfl ⟨rfl, hG2.trans (hg1.trans (hg2.trans (((Gr.refl w2).alloc _).trans hg3)))⟩
    · refine WO.one (W1.load rfl hy0 rfl ?_)
      apply WA.fold
      refine WA.all [1, 8] (by kernel_rfl) rfl ⟨⟨_, rfl, ?_⟩, ⟨_, rfl, ?_⟩, trivial⟩
      · refine WO.one (W1.load rfl hx0 rfl ?_)
        apply WA.fold
        refine WA.all [4, 8] (by kernel_rfl) rfl ⟨⟨_, rfl, ?_⟩, ⟨_, rfl, ?_⟩, trivial⟩
        · refine WO.one (W1.call (vs := [zv x.1, zv y.1]) rfl rfl (compareG _ _ w) ?_)
          rintro v w1 ⟨rfl, hg1⟩
          apply WA.fold
          refine WA.all [8] (by kernel_rfl) rfl ⟨⟨_, rfl, ?_⟩, trivial⟩
          refine WO.one (W1.load rfl (cell_ext hg1.ext hy1) rfl ?_)
          apply WA.fold
          refine WA.all [9] (by kernel_rfl) rfl ⟨⟨_, rfl, ?_⟩, trivial⟩
          refine WO.one (W1.call (vs := [zv x.2, zv y.2]) rfl rfl (compareG _ _ w1) ?_)
          rintro v w2 ⟨rfl, hg2⟩
          apply WA.fold
          refine WA.all [10] (by kernel_rfl) rfl ⟨⟨_, rfl, ?_⟩, trivial⟩
          refine WO.one (W1.lit (cs := [zv (Lib.compareInt x.1 y.1), zv (Lib.compareInt x.2 y.2)]) rfl rfl rfl rfl rfl rfl ?_)
          apply WA.fold
          refine WA.all [11] (by kernel_rfl) rfl ⟨⟨_, rfl, ?_⟩, trivial⟩
          refine WO.one (W1.call (vs := [_]) rfl rfl (orG _ _ _ _ (Blk.new w2 [zv (Lib.compareInt x.1 y.1), zv (Lib.compareInt x.2 y.2)] 3)) ?_)
          rintro v w3 ⟨rfl, hg3⟩
          apply WA.fold
          refine WA.pa 12 rfl ?_
          refine WA.done (by kernel_rfl) ?_
          repeat' (first | apply WL.fold | apply WA.fold | apply WL.nil | apply WX.n_then | apply WC.seq | apply WC.region | refine WL.pa ?_ | refine WL.ga rfl ?_ | refine WL.na rfl ?_ | refine WL.nu rfl rfl ?_ | apply WC.block | apply WC.skip | apply WC.exit | apply WC.ret | apply WX.e_block | refine WX.e_other rfl ?_ | apply WX.e_then | apply WX.e_again | apply WX.n_block | apply WX.r_then | apply WX.r_block | apply WX.r_again | refine WC.cond_yes rfl ?_ | refine WC.cond_no rfl ?_ | refine WC.cond rfl (fun hc => ?_) (fun hc => ?_) | refine WC.cond_b rfl (fun hc => ?_) (fun hc => ?_))
          exact WX.ret1 rfl rfl ⟨rfl, hG2.trans (hg1.trans (hg2.trans (((Gr.refl w2).alloc _).trans hg3)))⟩
        · refine WO.one (W1.load rfl hy1 rfl ?_)
          apply WA.fold
          refine WA.all [4] (by kernel_rfl) rfl ⟨⟨_, rfl, ?_⟩, trivial⟩
          refine WO.one (W1.call (vs := [zv x.1, zv y.1]) rfl rfl (compareG _ _ w) ?_)
          rintro v w1 ⟨rfl, hg1⟩
          apply WA.fold
          refine WA.all [9] (by kernel_rfl) rfl ⟨⟨_, rfl, ?_⟩, trivial⟩
          refine WO.one (W1.call (vs := [zv x.2, zv y.2]) rfl rfl (compareG _ _ w1) ?_)
          rintro v w2 ⟨rfl, hg2⟩
          apply WA.fold
          refine WA.all [10] (by kernel_rfl) rfl ⟨⟨_, rfl, ?_⟩, trivial⟩
          refine WO.one (W1.lit (cs := [zv (Lib.compareInt x.1 y.1), zv (Lib.compareInt x.2 y.2)]) rfl rfl rfl rfl rfl rfl ?_)
          apply WA.fold
          refine WA.all [11] (by kernel_rfl) rfl ⟨⟨_, rfl, ?_⟩, trivial⟩
          refine WO.one (W1.call (vs := [_]) rfl rfl (orG _ _ _ _ (Blk.new w2 [zv (Lib.compareInt x.1 y.1), zv (Lib.compareInt x.2 y.2)] 3)) ?_)
          rintro v w3 ⟨rfl, hg3⟩
          apply WA.fold
          refine WA.pa 12 rfl ?_
          refine WA.done (by kernel_rfl) ?_
          repeat' (first | apply WL.fold | apply WA.fold | apply WL.nil | apply WX.n_then | apply WC.seq | apply WC.region | refine WL.pa ?_ | refine WL.ga rfl ?_ | refine WL.na rfl ?_ | refine WL.nu rfl rfl ?_ | apply WC.block | apply WC.skip | apply WC.exit | apply WC.ret | apply WX.e_block | refine WX.e_other rfl ?_ | apply WX.e_then | apply WX.e_again | apply WX.n_block | apply WX.r_then | apply WX.r_block | apply WX.r_again | refine WC.cond_yes rfl ?_ | refine WC.cond_no rfl ?_ | refine WC.cond rfl (fun hc => ?_) (fun hc => ?_) | refine WC.cond_b rfl (fun hc => ?_) (fun hc => ?_))
          exact WX.ret1 rfl rfl ⟨rfl, hG2.trans (hg1.trans (hg2.trans (((Gr.refl w2).alloc _).trans hg3)))⟩
      · refine WO.one (W1.load rfl hy1 rfl ?_)
        apply WA.fold
        refine WA.all [1] (by kernel_rfl) rfl ⟨⟨_, rfl, ?_⟩, trivial⟩
        refine WO.one (W1.load rfl hx0 rfl ?_)
        apply WA.fold
        refine WA.all [4] (by kernel_rfl) rfl ⟨⟨_, rfl, ?_⟩, trivial⟩
        refine WO.one (W1.call (vs := [zv x.1, zv y.1]) rfl rfl (compareG _ _ w) ?_)
        rintro v w1 ⟨rfl, hg1⟩
        apply WA.fold
        refine WA.all [9] (by kernel_rfl) rfl ⟨⟨_, rfl, ?_⟩, trivial⟩
        refine WO.one (W1.call (vs := [zv x.2, zv y.2]) rfl rfl (compareG _ _ w1) ?_)
        rintro v w2 ⟨rfl, hg2⟩
        apply WA.fold
        refine WA.all [10] (by kernel_rfl) rfl ⟨⟨_, rfl, ?_⟩, trivial⟩
        refine WO.one (W1.lit (cs := [zv (Lib.compareInt x.1 y.1), zv (Lib.compareInt x.2 y.2)]) rfl rfl rfl rfl rfl rfl ?_)
        apply WA.fold
        refine WA.all [11] (by kernel_rfl) rfl ⟨⟨_, rfl, ?_⟩, trivial⟩
        refine WO.one (W1.call (vs := [_]) rfl rfl (orG _ _ _ _ (Blk.new w2 [zv (Lib.compareInt x.1 y.1), zv (Lib.compareInt x.2 y.2)] 3)) ?_)
        rintro v w3 ⟨rfl, hg3⟩
        apply WA.fold
        refine WA.pa 12 rfl ?_
        refine WA.done (by kernel_rfl) ?_
        repeat' (first | apply WL.fold | apply WA.fold | apply WL.nil | apply WX.n_then | apply WC.seq | apply WC.region | refine WL.pa ?_ | refine WL.ga rfl ?_ | refine WL.na rfl ?_ | refine WL.nu rfl rfl ?_ | apply WC.block | apply WC.skip | apply WC.exit | apply WC.ret | apply WX.e_block | refine WX.e_other rfl ?_ | apply WX.e_then | apply WX.e_again | apply WX.n_block | apply WX.r_then | apply WX.r_block | apply WX.r_again | refine WC.cond_yes rfl ?_ | refine WC.cond_no rfl ?_ | refine WC.cond rfl (fun hc => ?_) (fun hc => ?_) | refine WC.cond_b rfl (fun hc => ?_) (fun hc => ?_))
        exact WX.ret1 rfl rfl ⟨rfl, hG2.trans (hg1.trans (hg2.trans (((Gr.refl w2).alloc _).trans hg3)))⟩
    · refine WO.one (W1.load rfl hy1 rfl ?_)
      apply WA.fold
      refine WA.all [1, 3] (by kernel_rfl) rfl ⟨⟨_, rfl, ?_⟩, ⟨_, rfl, ?_⟩, trivial⟩
      · refine WO.one (W1.load rfl hx0 rfl ?_)
        apply WA.fold
        refine WA.all [3] (by kernel_rfl) rfl ⟨⟨_, rfl, ?_⟩, trivial⟩
        refine WO.one (W1.load rfl hy0 rfl ?_)
        apply WA.fold
        refine WA.all [4] (by kernel_rfl) rfl ⟨⟨_, rfl, ?_⟩, trivial⟩
        refine WO.one (W1.call (vs := [zv x.1, zv y.1]) rfl rfl (compareG _ _ w) ?_)
        rintro v w1 ⟨rfl, hg1⟩
        apply WA.fold
        refine WA.all [9] (by kernel_rfl) rfl ⟨⟨_, rfl, ?_⟩, trivial⟩
        refine WO.one (W1.call (vs := [zv x.2, zv y.2]) rfl rfl (compareG _ _ w1) ?_)
        rintro v w2 ⟨rfl, hg2⟩
        apply WA.fold
        refine WA.all [10] (by kernel_rfl) rfl ⟨⟨_, rfl, ?_⟩, trivial⟩
        refine WO.one (W1.lit (cs := [zv (Lib.compareInt x.1 y.1), zv (Lib.compareInt x.2 y.2)]) rfl rfl rfl rfl rfl rfl ?_)
        apply WA.fold
        refine WA.all [11] (by kernel_rfl) rfl ⟨⟨_, rfl, ?_⟩, trivial⟩
        refine WO.one (W1.call (vs := [_]) rfl rfl (orG _ _ _ _ (Blk.new w2 [zv (Lib.compareInt x.1 y.1), zv (Lib.compareInt x.2 y.2)] 3)) ?_)
        rintro v w3 ⟨rfl, hg3⟩
        apply WA.fold
        refine WA.pa 12 rfl ?_
        refine WA.done (by kernel_rfl) ?_
        repeat' (first | apply WL.fold | apply WA.fold | apply WL.nil | apply WX.n_then | apply WC.seq | apply WC.region | refine WL.pa ?_ | refine WL.ga rfl ?_ | refine WL.na rfl ?_ | refine WL.nu rfl rfl ?_ | apply WC.block | apply WC.skip | apply WC.exit | apply WC.ret | apply WX.e_block | refine WX.e_other rfl ?_ | apply WX.e_then | apply WX.e_again | apply WX.n_block | apply WX.r_then | apply WX.r_block | apply WX.r_again | refine WC.cond_yes rfl ?_ | refine WC.cond_no rfl ?_ | refine WC.cond rfl (fun hc => ?_) (fun hc => ?_) | refine WC.cond_b rfl (fun hc => ?_) (fun hc => ?_))
        exact WX.ret1 rfl rfl ⟨rfl, hG2.trans (hg1.trans (hg2.trans (((Gr.refl w2).alloc _).trans hg3)))⟩
      · refine WO.one (W1.load rfl hy0 rfl ?_)
        apply WA.fold
        refine WA.all [1] (by kernel_rfl) rfl ⟨⟨_, rfl, ?_⟩, trivial⟩
        refine WO.one (W1.load rfl hx0 rfl ?_)
        apply WA.fold
        refine WA.all [4] (by kernel_rfl) rfl ⟨⟨_, rfl, ?_⟩, trivial⟩
        refine WO.one (W1.call (vs := [zv x.1, zv y.1]) rfl rfl (compareG _ _ w) ?_)
        rintro v w1 ⟨rfl, hg1⟩
        apply WA.fold
        refine WA.all [9] (by kernel_rfl) rfl ⟨⟨_, rfl, ?_⟩, trivial⟩
        refine WO.one (W1.call (vs := [zv x.2, zv y.2]) rfl rfl (compareG _ _ w1) ?_)
        rintro v w2 ⟨rfl, hg2⟩
        apply WA.fold
        refine WA.all [10] (by kernel_rfl) rfl ⟨⟨_, rfl, ?_⟩, trivial⟩
        refine WO.one (W1.lit (cs := [zv (Lib.compareInt x.1 y.1), zv (Lib.compareInt x.2 y.2)]) rfl rfl rfl rfl rfl rfl ?_)
        apply WA.fold
        refine WA.all [11] (by kernel_rfl) rfl ⟨⟨_, rfl, ?_⟩, trivial⟩
        refine WO.one (W1.call (vs := [_]) rfl rfl (orG _ _ _ _ (Blk.new w2 [zv (Lib.compareInt x.1 y.1), zv (Lib.compareInt x.2 y.2)] 3)) ?_)
        rintro v w3 ⟨rfl, hg3⟩
        apply WA.fold
        refine WA.pa 12 rfl ?_
        refine WA.done (by kernel_rfl) ?_
        repeat' (first | apply WL.fold | apply WA.fold | apply WL.nil | apply WX.n_then | apply WC.seq | apply WC.region | refine WL.pa ?_ | refine WL.ga rfl ?_ | refine WL.na rfl ?_ | refine WL.nu rfl rfl ?_ | apply WC.block | apply WC.skip | apply WC.exit | apply WC.ret | apply WX.e_block | refine WX.e_other rfl ?_ | apply WX.e_then | apply WX.e_again | apply WX.n_block | apply WX.r_then | apply WX.r_block | apply WX.r_again | refine WC.cond_yes rfl ?_ | refine WC.cond_no rfl ?_ | refine WC.cond rfl (fun hc => ?_) (fun hc => ?_) | refine WC.cond_b rfl (fun hc => ?_) (fun hc => ?_))
        exact WX.ret1 rfl rfl ⟨rfl, hG2.trans (hg1.trans (hg2.trans (((Gr.refl w2).alloc _).trans hg3)))⟩
  · refine WO.one (W1.load rfl hy1 rfl ?_)
    apply WA.fold
    refine WA.all [1, 3, 6] (by kernel_rfl) rfl ⟨⟨_, rfl, ?_⟩, ⟨_, rfl, ?_⟩, ⟨_, rfl, ?_⟩, trivial⟩
    · refine WO.one (W1.load rfl hx0 rfl ?_)
      apply WA.fold
      refine WA.all [3, 6] (by kernel_rfl) rfl ⟨⟨_, rfl, ?_⟩, ⟨_, rfl, ?_⟩, trivial⟩
      · refine WO.one (W1.load rfl hy0 rfl ?_)
        apply WA.fold
        refine WA.all [4, 6] (by kernel_rfl) rfl ⟨⟨_, rfl, ?_⟩, ⟨_, rfl, ?_⟩, trivial⟩
        · refine WO.one (W1.call (vs := [zv x.1, zv y.1]) rfl rfl (compareG _ _ w) ?_)
          rintro v w1 ⟨rfl, hg1⟩
          apply WA.fold
          refine WA.all [6] (by kernel_rfl) rfl ⟨⟨_, rfl, ?_⟩, trivial⟩
          refine WO.one (W1.load rfl (cell_ext hg1.ext hx1) rfl ?_)
          apply WA.fold
          refine WA.all [9] (by kernel_rfl) rfl ⟨⟨_, rfl, ?_⟩, trivial⟩
          refine WO.one (W1.call (vs := [zv x.2, zv y.2]) rfl rfl (compareG _ _ w1) ?_)
          rintro v w2 ⟨rfl, hg2⟩
          apply WA.fold
          refine WA.all [10] (by kernel_rfl) rfl ⟨⟨_, rfl, ?_⟩, trivial⟩
          refine WO.one (W1.lit (cs := [zv (Lib.compareInt x.1 y.1), zv (Lib.compareInt x.2 y.2)]) rfl rfl rfl rfl rfl rfl ?_)
          apply WA.fold
          refine WA.all [11] (by kernel_rfl) rfl ⟨⟨_, rfl, ?_⟩, trivial⟩
          refine WO.one (W1.call (vs := [_]) rfl rfl (orG _ _ _ _ (Blk.new w2 [zv (Lib.compareInt x.1 y.1), zv (Lib.compareInt x.2 y.2)] 3)) ?_)
          rintro v w3 ⟨rfl, hg3⟩
          apply WA.fold
          refine WA.pa 12 rfl ?_
          refine WA.done (by kernel_rfl) ?_
          repeat' (first | apply WL.fold | apply WA.fold | apply WL.nil | apply WX.n_then | apply WC.seq | apply WC.region | refine WL.pa ?_ | refine WL.ga rfl ?_ | refine WL.na rfl ?_ | refine WL.nu rfl rfl ?_ | apply WC.block | apply WC.skip | apply WC.exit | apply WC.ret | apply WX.e_block | refine WX.e_other rfl ?_ | apply WX.e_then | apply WX.e_again | apply WX.n_block | apply WX.r_then | apply WX.r_block | apply WX.r_again | refine WC.cond_yes rfl ?_ | refine WC.cond_no rfl ?_ | refine WC.cond rfl (fun hc => ?_) (fun hc => ?_) | refine WC.cond_b rfl (fun hc => ?_) (fun hc => ?_))
          exact WX.ret1 rfl rfl ⟨rfl, hG2.trans (hg1.trans (hg2.trans (((Gr.refl w2).alloc _).trans hg3)))⟩
        · refine WO.one (W1.load rfl hx1 rfl ?_)
          apply WA.fold
          refine WA.all [4] (by kernel_rfl) rfl ⟨⟨_, rfl, ?_⟩, trivial⟩
          refine WO.one (W1.call (vs := [zv x.1, zv y.1]) rfl rfl (compareG _ _ w) ?_)
          rintro v w1 ⟨rfl, hg1⟩
          apply WA.fold
          refine WA.all [9] (by kernel_rfl) rfl ⟨⟨_, rfl, ?_⟩, trivial⟩
          refine WO.one (W1.call (vs := [zv x.2, zv y.2]) rfl rfl (compareG _ _ w1) ?_)
          rintro v w2 ⟨rfl, hg2⟩
          apply WA.fold
          refine WA.all [10] (by kernel_rfl) rfl ⟨⟨_, rfl, ?_⟩, trivial⟩
          refine WO.one (W1.lit (cs := [zv (Lib.compareInt x.1 y.1), zv (Lib.compareInt x.2 y.2)]) rfl rfl rfl rfl rfl rfl ?_)
          apply WA.fold
          refine WA.all [11] (by kernel_rfl) rfl ⟨⟨_, rfl, ?_⟩, trivial⟩
          refine WO.one (W1.call (vs := [_]) rfl rfl (orG _ _ _ _ (Blk.new w2 [zv (Lib.compareInt x.1 y.1), zv (Lib.compareInt x.2 y.2)] 3)) ?_)
          rintro v w3 ⟨rfl, hg3⟩
          apply WA.fold
          refine WA.pa 12 rfl ?_
          refine WA.done (by kernel_rfl) ?_
          repeat' (first | apply WL.fold | apply WA.fold | apply WL.nil | apply WX.n_then | apply WC.seq | apply WC.region | refine WL.pa ?_ | refine WL.ga rfl ?_ | refine WL.na rfl ?_ | refine WL.nu rfl rfl ?_ | apply WC.block | apply WC.skip | apply WC.exit | apply WC.ret | apply WX.e_block | refine WX.e_other rfl ?_ | apply WX.e_then | apply WX.e_again | apply WX.n_block | apply WX.r_then | apply WX.r_block | apply WX.r_again | refine WC.cond_yes rfl ?_ | refine WC.cond_no rfl ?_ | refine WC.cond rfl (fun hc => ?_) (fun hc => ?_) | refine WC.cond_b rfl (fun hc => ?_) (fun hc => ?_))
          exact WX.ret1 rfl rfl ⟨rfl, hG2.trans (hg1.trans (hg2.trans (((Gr.refl w2).alloc _).trans hg3)))⟩
      · refine WO.one (W1.load rfl hx1 rfl ?_)
        apply WA.fold
        refine WA.all [3] (by kernel_rfl) rfl ⟨⟨_, rfl, ?_⟩, trivial⟩
        refine WO.one (W1.load rfl hy0 rfl ?_)
        apply WA.fold
        refine WA.all [4] (by kernel_rfl) rfl ⟨⟨_, rfl, ?_⟩, trivial⟩
        refine WO.one (W1.call (vs := [zv x.1, zv y.1]) rfl rfl (compareG _ _ w) ?_)
        rintro v w1 ⟨rfl, hg1⟩
        apply WA.fold
        refine WA.all [9] (by kernel_rfl) rfl ⟨⟨_, rfl, ?_⟩, trivial⟩
        refine WO.one (W1.call (vs := [zv x.2, zv y.2]) rfl rfl (compareG _ _ w1) ?_)
        rintro v w2 ⟨rfl, hg2⟩
        apply WA.fold
        refine WA.all [10] (by kernel_rfl) rfl ⟨⟨_, rfl, ?_⟩, trivial⟩
        refine WO.one (W1.lit (cs := [zv (Lib.compareInt x.1 y.1), zv (Lib.compareInt x.2 y.2)]) rfl rfl rfl rfl rfl rfl ?_)
        apply WA.fold
        refine WA.all [11] (by kernel_rfl) rfl ⟨⟨_, rfl, ?_⟩, trivial⟩
        refine WO.one (W1.call (vs := [_]) rfl rfl (orG _ _ _ _ (Blk.new w2 [zv (Lib.compareInt x.1 y.1), zv (Lib.compareInt x.2 y.2)] 3)) ?_)
        rintro v w3 ⟨rfl, hg3⟩
        apply WA.fold
        refine WA.pa 12 rfl ?_
        refine WA.done (by kernel_rfl) ?_
        repeat' (first | apply WL.fold | apply WA.fold | apply WL.nil | apply WX.n_then | apply WC.seq | apply WC.region | refine WL.pa ?_ | refine WL.ga rfl ?_ | refine WL.na rfl ?_ | refine WL.nu rfl rfl ?_ | apply WC.block | apply WC.skip | apply WC.exit | apply WC.ret | apply WX.e_block | refine WX.e_other rfl ?_ | apply WX.e_then | apply WX.e_again | apply WX.n_block | apply WX.r_then | apply WX.r_block | apply WX.r_again | refine WC.cond_yes rfl ?_ | refine WC.cond_no rfl ?_ | refine WC.cond rfl (fun hc => ?_) (fun hc => ?_) | refine WC.cond_b rfl (fun hc => ?_) (fun hc => ?_))
        exact WX.ret1 rfl rfl ⟨rfl, hG2.trans (hg1.trans (hg2.trans (((Gr.refl w2).alloc _).trans hg3)))⟩
    · refine WO.one (W1.load rfl hy0 rfl ?_)
      apply WA.fold
      refine WA.all [1, 6] (by kernel_rfl) rfl ⟨⟨_, rfl, ?_⟩, ⟨_, rfl, ?_⟩, trivial⟩
      · refine WO.one (W1.load rfl hx0 rfl ?_)
        apply WA.fold
        refine WA.all [4, 6] (by kernel_rfl) rfl ⟨⟨_, rfl, ?_⟩, ⟨_, rfl, ?_⟩, trivial⟩
        · refine WO.one (W1.call (vs := [zv x.1, zv y.1]) rfl rfl (compareG _ _ w) ?_)
          rintro v w1 ⟨rfl, hg1⟩
          apply WA.fold
          refine WA.all [6] (by kernel_rfl) rfl ⟨⟨_, rfl, ?_⟩, trivial⟩
          refine WO.one (W1.load rfl (cell_ext hg1.ext hx1) rfl ?_)
          apply WA.fold
          refine WA.all [9] (by kernel_rfl) rfl ⟨⟨_, rfl, ?_⟩, trivial⟩
          refine WO.one (W1.call (vs := [zv x.2, zv y.2]) rfl rfl (compareG _ _ w1) ?_)
          rintro v w2 ⟨rfl, hg2⟩
          apply WA.fold
          refine WA.all [10] (by kernel_rfl) rfl ⟨⟨_, rfl, ?_⟩, trivial⟩
          refine WO.one (W1.lit (cs := [zv (Lib.compareInt x.1 y.1), zv (Lib.compareInt x.2 y.2)]) rfl rfl rfl rfl rfl rfl ?_)
          apply WA.fold
          refine WA.all [11] (by kernel_rfl) rfl ⟨⟨_, rfl, ?_⟩, trivial⟩
          refine WO.one (W1.call (vs := [_]) rfl rfl (orG _ _ _ _ (Blk.new w2 [zv (Lib.compareInt x.1 y.1), zv (Lib.compareInt x.2 y.2)] 3)) ?_)
          rintro v w3 ⟨rfl, hg3⟩
          apply WA.fold
          refine WA.pa 12 rfl ?_
          refine WA.done (by kernel_rfl) ?_
          repeat' (first | apply WL.fold | apply WA.fold | apply WL.nil | apply WX.n_then | apply WC.seq | apply WC.region | refine WL.pa ?_ | refine WL.ga rfl ?_ | refine WL.na rfl ?_ | refine WL.nu rfl rfl ?_ | apply WC.block | apply WC.skip | apply WC.exit | apply WC.ret | apply WX.e_block | refine WX.e_other rfl ?_ | apply WX.e_then | apply WX.e_again | apply WX.n_block | apply WX.r_then | apply WX.r_block | apply WX.r_again | refine WC.cond_yes rfl ?_ | refine WC.cond_no rfl ?_ | refine WC.cond rfl (fun hc => ?_) (fun hc => ?_) | refine WC.cond_b rfl (fun hc => ?_) (fun hc => ?_))
          exact WX.ret1 rfl rfl ⟨rfl, hG2.trans (hg1.trans (hg2.trans (((Gr.refl w2).alloc _).trans hg3)))⟩
        · refine WO.one (W1.load rfl hx1 rfl ?_)
          apply WA.fold
          refine WA.all [4] (by kernel_rfl) rfl ⟨⟨_, rfl, ?_⟩, trivial⟩
          refine WO.one (W1.call (vs := [zv x.1, zv y.1]) rfl rfl (compareG _ _ w) ?_)
          rintro v w1 ⟨rfl, hg1⟩
          apply WA.fold
          refine WA.all [9] (by kernel_rfl) rfl ⟨⟨_, rfl, ?_⟩, trivial⟩
          refine WO.one (W1.call (vs := [zv x.2, zv y.2]) rfl rfl (compareG _ _ w1) ?_)
          rintro v w2 ⟨rfl, hg2⟩
          apply WA.fold
          refine WA.all [10] (by kernel_rfl) rfl ⟨⟨_, rfl, ?_⟩, trivial⟩
          refine WO.one (W1.lit (cs := [zv (Lib.compareInt x.1 y.1), zv (Lib.compareInt x.2 y.2)]) rfl rfl rfl rfl rfl rfl ?_)
          apply WA.fold
          refine WA.all [11] (by kernel_rfl) rfl ⟨⟨_, rfl, ?_⟩, trivial⟩
          refine WO.one (W1.call (vs := [_]) rfl rfl (orG _ _ _ _ (Blk.new w2 [zv (Lib.compareInt x.1 y.1), zv (Lib.compareInt x.2 y.2)] 3)) ?_)
          rintro v w3 ⟨rfl, hg3⟩
          apply WA.fold
          refine WA.pa 12 rfl ?_
          refine WA.done (by kernel_rfl) ?_
          repeat' (first | apply WL.fold | apply WA.fold | apply WL.nil | apply WX.n_then | apply WC.seq | apply WC.region | refine WL.pa ?_ | refine WL.ga rfl ?_ | refine WL.na rfl ?_ | refine WL.nu rfl rfl ?_ | apply WC.block | apply WC.skip | apply WC.exit | apply WC.ret | apply WX.e_block | refine WX.e_other rfl ?_ | apply WX.e_then | apply WX.e_again | apply WX.n_block | apply WX.r_then | apply WX.r_block | apply WX.r_again | refine WC.cond_yes rfl ?_ | refine WC.cond_no rfl ?_ | refine WC.cond rfl (fun hc => ?_) (fun hc => ?_) | refine WC.cond_b rfl (fun hc => ?_) (fun hc => ?_))
          exact WX.ret1 rfl rfl ⟨rfl, hG2.trans (hg1.trans (hg2.trans (((Gr.refl w2).alloc _).trans hg3)))⟩
      · refine WO.one (W1.load rfl hx1 rfl ?_)
        apply WA.fold
        refine WA.all [1] (by kernel_rfl) rfl ⟨⟨_, rfl, ?_⟩, trivial⟩
        refine WO.one (W1.load rfl hx0 rfl ?_)
        apply WA.fold
        refine WA.all [4] (by kernel_rfl) rfl ⟨⟨_, rfl, ?_⟩, trivial⟩
        refine WO.one (W1.call (vs := [zv x.1, zv y.1]) rfl rfl (compareG _ _ w) ?_)
        rintro v w1 ⟨rfl, hg1⟩
        apply WA.fold
        refine WA.all [9] (by kernel_rfl) rfl ⟨⟨_, rfl, ?_⟩, trivial⟩
        refine WO.one (W1.call (vs := [zv x.2, zv y.2]) rfl rfl (compareG _ _ w1) ?_)
        rintro v w2 ⟨rfl, hg2⟩
        apply WA.fold
        refine WA.all [10] (by kernel_rfl) rfl ⟨⟨_, rfl, ?_⟩, trivial⟩
        refine WO.one (W1.lit (cs := [zv (Lib.compareInt x.1 y.1), zv (Lib.compareInt x.2 y.2)]) rfl rfl rfl rfl rfl rfl ?_)
        apply WA.fold
        refine WA.all [11] (by kernel_rfl) rfl ⟨⟨_, rfl, ?_⟩, trivial⟩
        refine WO.one (W1.call (vs := [_]) rfl rfl (orG _ _ _ _ (Blk.new w2 [zv (Lib.compareInt x.1 y.1), zv (Lib.compareInt x.2 y.2)] 3)) ?_)
        rintro v w3 ⟨rfl, hg3⟩
        apply WA.fold
        refine WA.pa 12 rfl ?_
        refine WA.done (by kernel_rfl) ?_
        repeat' (first | apply WL.fold | apply WA.fold | apply WL.nil | apply WX.n_then | apply WC.seq | apply WC.region | refine WL.pa ?_ | refine WL.ga rfl ?_ | refine WL.na rfl ?_ | refine WL.nu rfl rfl ?_ | apply WC.block | apply WC.skip | apply WC.exit | apply WC.ret | apply WX.e_block | refine WX.e_other rfl ?_ | apply WX.e_then | apply WX.e_again | apply WX.n_block | apply WX.r_then | apply WX.r_block | apply WX.r_again | refine WC.cond_yes rfl ?_ | refine WC.cond_no rfl ?_ | refine WC.cond rfl (fun hc => ?_) (fun hc => ?_) | refine WC.cond_b rfl (fun hc => ?_) (fun hc => ?_))
        exact WX.ret1 rfl rfl ⟨rfl, hG2.trans (hg1.trans (hg2.trans (((Gr.refl w2).alloc _).trans hg3)))⟩
    · refine WO.one (W1.load rfl hx1 rfl ?_)
      apply WA.fold
      refine WA.all [1, 3] (by kernel_rfl) rfl ⟨⟨_, rfl, ?_⟩, ⟨_, rfl, ?_⟩, trivial⟩
      · refine WO.one (W1.load rfl hx0 rfl ?_)
        apply WA.fold
        refine WA.all [3] (by kernel_rfl) rfl ⟨⟨_, rfl, ?_⟩, trivial⟩
        refine WO.one (W1.load rfl hy0 rfl ?_)
        apply WA.fold
        refine WA.all [4] (by kernel_rfl) rfl ⟨⟨_, rfl, ?_⟩, trivial⟩
        refine WO.one (W1.call (vs := [zv x.1, zv y.1]) rfl rfl (compareG _ _ w) ?_)
        rintro v w1 ⟨rfl, hg1⟩
        apply WA.fold
        refine WA.all [9] (by kernel_rfl) rfl ⟨⟨_, rfl, ?_⟩, trivial⟩
        refine WO.one (W1.call (vs := [zv x.2, zv y.2]) rfl rfl (compareG _ _ w1) ?_)
        rintro v w2 ⟨rfl, hg2⟩
        apply WA.fold
        refine WA.all [10] (by kernel_rfl) rfl ⟨⟨_, rfl, ?_⟩, trivial⟩
        refine WO.one (W1.lit (cs := [zv (Lib.compareInt x.1 y.1), zv (Lib.compareInt x.2 y.2)]) rfl rfl rfl rfl rfl rfl ?_)
        apply WA.fold
        refine WA.all [11] (by kernel_rfl) rfl ⟨⟨_, rfl, ?_⟩, trivial⟩
        refine WO.one (W1.call (vs := [_]) rfl rfl (orG _ _ _ _ (Blk.new w2 [zv (Lib.compareInt x.1 y.1), zv (Lib.compareInt x.2 y.2)] 3)) ?_)
        rintro v w3 ⟨rfl, hg3⟩
        apply WA.fold
        refine WA.pa 12 rfl ?_
        refine WA.done (by kernel_rfl) ?_
        repeat' (first | apply WL.fold | apply WA.fold | apply WL.nil | apply WX.n_then | apply WC.seq | apply WC.region | refine WL.pa ?_ | refine WL.ga rfl ?_ | refine WL.na rfl ?_ | refine WL.nu rfl rfl ?_ | apply WC.block | apply WC.skip | apply WC.exit | apply WC.ret | apply WX.e_block | refine WX.e_other rfl ?_ | apply WX.e_then | apply WX.e_again | apply WX.n_block | apply WX.r_then | apply WX.r_block | apply WX.r_again | refine WC.cond_yes rfl ?_ | refine WC.cond_no rfl ?_ | refine WC.cond rfl (fun hc => ?_) (fun hc => ?_) | refine WC.cond_b rfl (fun hc => ?_) (fun hc => ?_))
        exact WX.ret1 rfl rfl ⟨rfl, hG2.trans (hg1.trans (hg2.trans (((Gr.refl w2).alloc _).trans hg3)))⟩
      · refine WO.one (W1.load rfl hy0 rfl ?_)
        apply WA.fold
        refine WA.all [1] (by kernel_rfl) rfl ⟨⟨_, rfl, ?_⟩, trivial⟩
        refine WO.one (W1.load rfl hx0 rfl ?_)
        apply WA.fold
        refine WA.all [4] (by kernel_rfl) rfl ⟨⟨_, rfl, ?_⟩, trivial⟩
        refine WO.one (W1.call (vs := [zv x.1, zv y.1]) rfl rfl (compareG _ _ w) ?_)
        rintro v w1 ⟨rfl, hg1⟩
        apply WA.fold
        refine WA.all [9] (by kernel_rfl) rfl ⟨⟨_, rfl, ?_⟩, trivial⟩
        refine WO.one (W1.call (vs := [zv x.2, zv y.2]) rfl rfl (compareG _ _ w1) ?_)
        rintro v w2 ⟨rfl, hg2⟩
        apply WA.fold
        refine WA.all [10] (by kernel_rfl) rfl ⟨⟨_, rfl, ?_⟩, trivial⟩
        refine WO.one (W1.lit (cs := [zv (Lib.compareInt x.1 y.1), zv (Lib.compareInt x.2 y.2)]) rfl rfl rfl rfl rfl rfl ?_)
        apply WA.fold
        refine WA.all [11] (by kernel_rfl) rfl ⟨⟨_, rfl, ?_⟩, trivial⟩
        refine WO.one (W1.call (vs := [_]) rfl rfl (orG _ _ _ _ (Blk.new w2 [zv (Lib.compareInt x.1 y.1), zv (Lib.compareInt x.2 y.2)] 3)) ?_)
        rintro v w3 ⟨rfl, hg3⟩
        apply WA.fold
        refine WA.pa 12 rfl ?_
        refine WA.done (by kernel_rfl) ?_
        repeat' (first | apply WL.fold | apply WA.fold | apply WL.nil | apply WX.n_then | apply WC.seq | apply WC.region | refine WL.pa ?_ | refine WL.ga rfl ?_ | refine WL.na rfl ?_ | refine WL.nu rfl rfl ?_ | apply WC.block | apply WC.skip | apply WC.exit | apply WC.ret | apply WX.e_block | refine WX.e_other rfl ?_ | apply WX.e_then | apply WX.e_again | apply WX.n_block | apply WX.r_then | apply WX.r_block | apply WX.r_again | refine WC.cond_yes rfl ?_ | refine WC.cond_no rfl ?_ | refine WC.cond rfl (fun hc => ?_) (fun hc => ?_) | refine WC.cond_b rfl (fun hc => ?_) (fun hc => ?_))
        exact WX.ret1 rfl rfl ⟨rfl, hG2.trans (hg1.trans (hg2.trans (((Gr.refl w2).alloc _).trans hg3)))⟩
end Go.Sx

