/- Chapter 21: slices.SortFunc at records. -/
import Derived.Test.YtdfkohdcoigofaaGreatDoorQH07
namespace Go.Sx
open Go Go.Proofs Go.RowKit
instance : Inhabited Rc := ⟨rcZ⟩
theorem rc_at {l : List Rc} {j : Nat} (h : j < l.length) : l[j]? = some l.toArray[j]! := by simp [h]
theorem flatK_rcl (l : List Rc) : (Go.Sort.flatK rcells 15 l.toArray).toList = rcl l := by
  apply List.ext_getElem?
  intro t
  have hsz : (Go.Sort.flatK rcells 15 l.toArray).size = l.length * 15 := by simp [Go.Sort.flatK]
  by_cases ht : t < l.length * 15
  · have h1 := Go.Sort.get_flatK rcells 15 l.toArray t (by simpa using ht)
    have hj : t / 15 < l.length := by omega
    have hm : t % 15 < 15 := Nat.mod_lt _ (by decide)
    have h2 : (rcells l.toArray[t / 15]!)[t % 15]? = some (rcells l.toArray[t / 15]!)[t % 15]! := by
      rw [List.getElem!_eq_getElem?_getD, List.getElem?_eq_getElem (by rw [rcells_len]; exact hm)]; rfl
    have h3 := rcl_get (rc_at hj) (t % 15) _ h2
    rw [show t / 15 * 15 + t % 15 = t by omega] at h3
    rw [h3, ← h1]
    have ht' : t < (Go.Sort.flatK rcells 15 l.toArray).size := by omega
    exact arr_at ht'
  · rw [List.getElem?_eq_none (by rw [Array.length_toList, hsz]; omega), List.getElem?_eq_none (by rw [rcl_len]; omega)]
def cfN (x y : Rc) : Int := Lib.compareInt (numK x) (numK y)
theorem ltN (x y : Rc) : ltOf cfN x y = decide (numK x < numK y) := by
  unfold ltOf cfN Lib.compareInt
  by_cases h1 : numK x < numK y
  · simp [h1]
  · by_cases h2 : numK y < numK x <;> simp [h1, h2]
theorem swoN : Go.Sort.SWO (ltOf cfN) where
  irrefl x := by rw [ltN]; simp
  trans x y z h1 h2 := by rw [ltN] at *; simp at *; omega
  ntrans x y z h1 h2 := by rw [ltN] at *; simp at *; omega
attribute [local irreducible] WC WL WX POp Then Again Fn NX W1 WA WO QL RP RA Yld LoopAt
theorem numberG (r : Rc) (W : World) : Fn Tryz.prog 36 #[recV r] W fun v w' => v = zv (numK r) ∧ Gr W w' := by
  refine enter (l := [_]) rfl Tryz.ntmps36 rfl ?_
  repeat' (first | apply WL.fold | apply WA.fold | apply WL.nil | apply WX.n_then | apply WC.seq | apply WC.region | refine WL.pa ?_ | refine WL.ga rfl ?_ | refine WL.na rfl ?_ | refine WL.nu rfl rfl ?_ | apply WC.block | apply WC.skip | apply WC.exit | apply WC.ret | apply WX.e_block | refine WX.e_other rfl ?_ | apply WX.e_then | apply WX.e_again | apply WX.n_block | apply WX.r_then | apply WX.r_block | apply WX.r_again | refine WC.cond_yes rfl ?_ | refine WC.cond_no rfl ?_ | refine WC.cond rfl (fun hc => ?_) (fun hc => ?_) | refine WC.cond_b rfl (fun hc => ?_) (fun hc => ?_))
  refine WL.one (W1.box (v := recV r) rfl rfl ?_)
  apply WL.fold
  have hc : ∀ i v, (rcells r)[i]? = some v → (W.alloc (.cells (recV r).cells 36)).cell? ⟨W.heap.size, i, none⟩ = some v := fun i v h => (Blk.new W (rcells r) _).cell h
  have hG : Gr W (W.alloc (.cells (recV r).cells 36)) := (Gr.refl W).alloc _
  generalize W.alloc (.cells (recV r).cells 36) = w at hc hG ⊢
  unfold numK
  by_cases h1 : r.kind = 2
  · rw [if_pos h1]
    repeat' (first | apply WL.fold | apply WA.fold | apply WL.nil | apply WX.n_then | apply WC.seq | apply WC.region | refine WL.pa ?_ | refine WL.ga rfl ?_ | refine WL.na rfl ?_ | refine WL.nu rfl rfl ?_ | apply WC.block | apply WC.skip | apply WC.exit | apply WC.ret | apply WX.e_block | refine WX.e_other rfl ?_ | apply WX.e_then | apply WX.e_again | apply WX.n_block | apply WX.r_then | apply WX.r_block | apply WX.r_again | refine WC.cond_yes rfl ?_ | refine WC.cond_no rfl ?_ | refine WC.cond rfl (fun hc => ?_) (fun hc => ?_) | refine WC.cond_b rfl (fun hc => ?_) (fun hc => ?_))
    refine WL.load rfl (hc 0 _ rfl) rfl ?_
    repeat' (first | apply WL.fold | apply WA.fold | apply WL.nil | apply WX.n_then | apply WC.seq | apply WC.region | refine WL.pa ?_ | refine WL.ga rfl ?_ | refine WL.na rfl ?_ | refine WL.nu rfl rfl ?_ | apply WC.block | apply WC.skip | apply WC.exit | apply WC.ret | apply WX.e_block | refine WX.e_other rfl ?_ | apply WX.e_then | apply WX.e_again | apply WX.n_block | apply WX.r_then | apply WX.r_block | apply WX.r_again | refine WC.cond_yes rfl ?_ | refine WC.cond_no rfl ?_ | refine WC.cond rfl (fun hc => ?_) (fun hc => ?_) | refine WC.cond_b rfl (fun hc => ?_) (fun hc => ?_))
    refine WL.load rfl (hc 11 _ rfl) rfl ?_
    repeat' (first | apply WL.fold | apply WA.fold | apply WL.nil | apply WX.n_then | apply WC.seq | apply WC.region | refine WL.pa ?_ | refine WL.ga rfl ?_ | refine WL.na rfl ?_ | refine WL.nu rfl rfl ?_ | apply WC.block | apply WC.skip | apply WC.exit | apply WC.ret | apply WX.e_block | refine WX.e_other rfl ?_ | apply WX.e_then | apply WX.e_again | apply WX.n_block | apply WX.r_then | apply WX.r_block | apply WX.r_again | refine WC.cond_yes rfl ?_ | refine WC.cond_no rfl ?_ | refine WC.cond rfl (fun hc => ?_) (fun hc => ?_) | refine WC.cond_b rfl (fun hc => ?_) (fun hc => ?_))
    exact WX.ret1 rfl rfl ⟨rfl, hG⟩
  · rw [if_neg h1]
    by_cases h2 : r.kind = 6
    · rw [if_pos h2]
      repeat' (first | apply WL.fold | apply WA.fold | apply WL.nil | apply WX.n_then | apply WC.seq | apply WC.region | refine WL.pa ?_ | refine WL.ga rfl ?_ | refine WL.na rfl ?_ | refine WL.nu rfl rfl ?_ | apply WC.block | apply WC.skip | apply WC.exit | apply WC.ret | apply WX.e_block | refine WX.e_other rfl ?_ | apply WX.e_then | apply WX.e_again | apply WX.n_block | apply WX.r_then | apply WX.r_block | apply WX.r_again | refine WC.cond_yes rfl ?_ | refine WC.cond_no rfl ?_ | refine WC.cond rfl (fun hc => ?_) (fun hc => ?_) | refine WC.cond_b rfl (fun hc => ?_) (fun hc => ?_))
      refine WL.load rfl (hc 0 _ rfl) rfl ?_
      repeat' (first | apply WL.fold | apply WA.fold | apply WL.nil | apply WX.n_then | apply WC.seq | apply WC.region | refine WL.pa ?_ | refine WL.ga rfl ?_ | refine WL.na rfl ?_ | refine WL.nu rfl rfl ?_ | apply WC.block | apply WC.skip | apply WC.exit | apply WC.ret | apply WX.e_block | refine WX.e_other rfl ?_ | apply WX.e_then | apply WX.e_again | apply WX.n_block | apply WX.r_then | apply WX.r_block | apply WX.r_again | refine WC.cond_yes rfl ?_ | refine WC.cond_no rfl ?_ | refine WC.cond rfl (fun hc => ?_) (fun hc => ?_) | refine WC.cond_b rfl (fun hc => ?_) (fun hc => ?_))
      refine WL.load rfl (hc 13 _ rfl) rfl ?_
      repeat' (first | apply WL.fold | apply WA.fold | apply WL.nil | apply WX.n_then | apply WC.seq | apply WC.region | refine WL.pa ?_ | refine WL.ga rfl ?_ | refine WL.na rfl ?_ | refine WL.nu rfl rfl ?_ | apply WC.block | apply WC.skip | apply WC.exit | apply WC.ret | apply WX.e_block | refine WX.e_other rfl ?_ | apply WX.e_then | apply WX.e_again | apply WX.n_block | apply WX.r_then | apply WX.r_block | apply WX.r_again | refine WC.cond_yes rfl ?_ | refine WC.cond_no rfl ?_ | refine WC.cond rfl (fun hc => ?_) (fun hc => ?_) | refine WC.cond_b rfl (fun hc => ?_) (fun hc => ?_))
      exact WX.ret1 rfl rfl ⟨rfl, hG⟩
    · rw [if_neg h2]
      repeat' (first | apply WL.fold | apply WA.fold | apply WL.nil | apply WX.n_then | apply WC.seq | apply WC.region | refine WL.pa ?_ | refine WL.ga rfl ?_ | refine WL.na rfl ?_ | refine WL.nu rfl rfl ?_ | apply WC.block | apply WC.skip | apply WC.exit | apply WC.ret | apply WX.e_block | refine WX.e_other rfl ?_ | apply WX.e_then | apply WX.e_again | apply WX.n_block | apply WX.r_then | apply WX.r_block | apply WX.r_again | refine WC.cond_yes rfl ?_ | refine WC.cond_no rfl ?_ | refine WC.cond rfl (fun hc => ?_) (fun hc => ?_) | refine WC.cond_b rfl (fun hc => ?_) (fun hc => ?_))
      refine WL.load rfl (hc 0 _ rfl) rfl ?_
      repeat' (first | apply WL.fold | apply WA.fold | apply WL.nil | apply WX.n_then | apply WC.seq | apply WC.region | refine WL.pa ?_ | refine WL.ga rfl ?_ | refine WL.na rfl ?_ | refine WL.nu rfl rfl ?_ | apply WC.block | apply WC.skip | apply WC.exit | apply WC.ret | apply WX.e_block | refine WX.e_other rfl ?_ | apply WX.e_then | apply WX.e_again | apply WX.n_block | apply WX.r_then | apply WX.r_block | apply WX.r_again | refine WC.cond_yes rfl ?_ | refine WC.cond_no rfl ?_ | refine WC.cond rfl (fun hc => ?_) (fun hc => ?_) | refine WC.cond_b rfl (fun hc => ?_) (fun hc => ?_))
      refine WL.load rfl (hc 1 _ rfl) rfl ?_
      repeat' (first | apply WL.fold | apply WA.fold | apply WL.nil | apply WX.n_then | apply WC.seq | apply WC.region | refine WL.pa ?_ | refine WL.ga rfl ?_ | refine WL.na rfl ?_ | refine WL.nu rfl rfl ?_ | apply WC.block | apply WC.skip | apply WC.exit | apply WC.ret | apply WX.e_block | refine WX.e_other rfl ?_ | apply WX.e_then | apply WX.e_again | apply WX.n_block | apply WX.r_then | apply WX.r_block | apply WX.r_again | refine WC.cond_yes rfl ?_ | refine WC.cond_no rfl ?_ | refine WC.cond rfl (fun hc => ?_) (fun hc => ?_) | refine WC.cond_b rfl (fun hc => ?_) (fun hc => ?_))
      exact WX.ret1 rfl rfl ⟨rfl, hG⟩
theorem ofC1 (x y : Rc) (W : World) : Fn Tryz.prog 34 #[recV x, recV y] W fun v w' => v = zv (cfN x y) ∧ Gr W w' := by
  refine enter (l := [_, _]) rfl Tryz.ntmps34 rfl ?_
  repeat' (first | apply WL.fold | apply WA.fold | apply WL.nil | apply WX.n_then | apply WC.seq | apply WC.region | refine WL.pa ?_ | refine WL.ga rfl ?_ | refine WL.na rfl ?_ | refine WL.nu rfl rfl ?_ | apply WC.block | apply WC.skip | apply WC.exit | apply WC.ret | apply WX.e_block | refine WX.e_other rfl ?_ | apply WX.e_then | apply WX.e_again | apply WX.n_block | apply WX.r_then | apply WX.r_block | apply WX.r_again | refine WC.cond_yes rfl ?_ | refine WC.cond_no rfl ?_ | refine WC.cond rfl (fun hc => ?_) (fun hc => ?_) | refine WC.cond_b rfl (fun hc => ?_) (fun hc => ?_))
  refine WL.one (W1.box (v := recV x) rfl rfl ?_)
  apply WL.fold
  repeat' (first | apply WL.fold | apply WA.fold | apply WL.nil | apply WX.n_then | apply WC.seq | apply WC.region | refine WL.pa ?_ | refine WL.ga rfl ?_ | refine WL.na rfl ?_ | refine WL.nu rfl rfl ?_ | apply WC.block | apply WC.skip | apply WC.exit | apply WC.ret | apply WX.e_block | refine WX.e_other rfl ?_ | apply WX.e_then | apply WX.e_again | apply WX.n_block | apply WX.r_then | apply WX.r_block | apply WX.r_again | refine WC.cond_yes rfl ?_ | refine WC.cond_no rfl ?_ | refine WC.cond rfl (fun hc => ?_) (fun hc => ?_) | refine WC.cond_b rfl (fun hc => ?_) (fun hc => ?_))
  refine WL.one (W1.box (v := recV y) rfl rfl ?_)
  apply WL.fold
  repeat' (first | apply WL.fold | apply WA.fold | apply WL.nil | apply WX.n_then | apply WC.seq | apply WC.region | refine WL.pa ?_ | refine WL.ga rfl ?_ | refine WL.na rfl ?_ | refine WL.nu rfl rfl ?_ | apply WC.block | apply WC.skip | apply WC.exit | apply WC.ret | apply WX.e_block | refine WX.e_other rfl ?_ | apply WX.e_then | apply WX.e_again | apply WX.n_block | apply WX.r_then | apply WX.r_block | apply WX.r_again | refine WC.cond_yes rfl ?_ | refine WC.cond_no rfl ?_ | refine WC.cond rfl (fun hc => ?_) (fun hc => ?_) | refine WC.cond_b rfl (fun hc => ?_) (fun hc => ?_))
  refine WC.anyE rfl ?_
  have hG1 : Gr W (W.alloc (.cells (recV x).cells 36)) := (Gr.refl W).alloc _
  have hG2 : Gr W ((W.alloc (.cells (recV x).cells 36)).alloc (.cells (recV y).cells 36)).drew := (hG1.alloc _).drew
  have hx : ∀ i v, (rcells x)[i]? = some v → ((W.alloc (.cells (recV x).cells 36)).alloc (.cells (recV y).cells 36)).drew.cell? ⟨W.heap.size, 0 + i, none⟩ = some v := fun i v h => by
    rw [Nat.zero_add]
    exact cell_ext (Ext.alloc _ _) ((Blk.new W (rcells x) _).cell h)
  have hy : ∀ i v, (rcells y)[i]? = some v → ((W.alloc (.cells (recV x).cells 36)).alloc (.cells (recV y).cells 36)).drew.cell? ⟨(W.alloc (.cells (recV x).cells 36)).heap.size, 0 + i, none⟩ = some v := fun i v h => by
    rw [Nat.zero_add]
    exact (Blk.new (W.alloc _) (rcells y) _).cell h
  generalize ((W.alloc (.cells (recV x).cells 36)).alloc (.cells (recV y).cells 36)).drew = w at hx hy hG2 ⊢
  generalize (W.alloc (.cells (recV x).cells 36)).heap.size = b2 at hy ⊢
  generalize W.heap.size = b1 at hx ⊢
  refine WA.all [0, 2] (by kernel_rfl) rfl ⟨⟨_, rfl, ?_⟩, ⟨_, rfl, ?_⟩, trivial⟩
  · refine WO.one (W1.loadAgg (vs := rcells x) rfl rfl hx rfl ?_)
    apply WA.fold
    refine WA.all [1, 2] (by kernel_rfl) rfl ⟨⟨_, rfl, ?_⟩, ⟨_, rfl, ?_⟩, trivial⟩
    · refine WO.one (W1.call (vs := [recV x]) rfl rfl (numberG x w) ?_)
      rintro v w1 ⟨rfl, hg1⟩
      apply WA.fold
      refine WA.all [2] (by kernel_rfl) rfl ⟨⟨_, rfl, ?_⟩, trivial⟩
      refine WO.one (W1.loadAgg (vs := rcells y) rfl rfl (fun i v h => cell_ext hg1.ext (hy i v h)) rfl ?_)
      apply WA.fold
      refine WA.all [3] (by kernel_rfl) rfl ⟨⟨_, rfl, ?_⟩, trivial⟩
      refine WO.one (W1.call (vs := [recV y]) rfl rfl (numberG y w1) ?_)
      rintro v w2 ⟨rfl, hg2⟩
      apply WA.fold
      refine WA.all [4] (by kernel_rfl) rfl ⟨⟨_, rfl, ?_⟩, trivial⟩
      refine WO.one (W1.call (vs := [zv (numK x), zv (numK y)]) rfl rfl (compareG _ _ w2) ?_)
      rintro v w3 ⟨rfl, hg3⟩
      apply WA.fold
      refine WA.pa 5 rfl ?_
      refine WA.done (by kernel_rfl) ?_
      repeat' (first | apply WL.fold | apply WA.fold | apply WL.nil | apply WX.n_then | apply WC.seq | apply WC.region | refine WL.pa ?_ | refine WL.ga rfl ?_ | refine WL.na rfl ?_ | refine WL.nu rfl rfl ?_ | apply WC.block | apply WC.skip | apply WC.exit | apply WC.ret | apply WX.e_block | refine WX.e_other rfl ?_ | apply WX.e_then | apply WX.e_again | apply WX.n_block | apply WX.r_then | apply WX.r_block | apply WX.r_again | refine WC.cond_yes rfl ?_ | refine WC.cond_no rfl ?_ | refine WC.cond rfl (fun hc => ?_) (fun hc => ?_) | refine WC.cond_b rfl (fun hc => ?_) (fun hc => ?_))
      exact WX.ret1 rfl rfl ⟨rfl, ((hG2.trans hg1).trans hg2).trans hg3⟩
    · refine WO.one (W1.loadAgg (vs := rcells y) rfl rfl hy rfl ?_)
      apply WA.fold
      refine WA.all [1] (by kernel_rfl) rfl ⟨⟨_, rfl, ?_⟩, trivial⟩
      refine WO.one (W1.call (vs := [recV x]) rfl rfl (numberG x w) ?_)
      rintro v w1 ⟨rfl, hg1⟩
      apply WA.fold
      refine WA.all [3] (by kernel_rfl) rfl ⟨⟨_, rfl, ?_⟩, trivial⟩
      refine WO.one (W1.call (vs := [recV y]) rfl rfl (numberG y w1) ?_)
      rintro v w2 ⟨rfl, hg2⟩
      apply WA.fold
      refine WA.all [4] (by kernel_rfl) rfl ⟨⟨_, rfl, ?_⟩, trivial⟩
      refine WO.one (W1.call (vs := [zv (numK x), zv (numK y)]) rfl rfl (compareG _ _ w2) ?_)
      rintro v w3 ⟨rfl, hg3⟩
      apply WA.fold
      refine WA.pa 5 rfl ?_
      refine WA.done (by kernel_rfl) ?_
      repeat' (first | apply WL.fold | apply WA.fold | apply WL.nil | apply WX.n_then | apply WC.seq | apply WC.region | refine WL.pa ?_ | refine WL.ga rfl ?_ | refine WL.na rfl ?_ | refine WL.nu rfl rfl ?_ | apply WC.block | apply WC.skip | apply WC.exit | apply WC.ret | apply WX.e_block | refine WX.e_other rfl ?_ | apply WX.e_then | apply WX.e_again | apply WX.n_block | apply WX.r_then | apply WX.r_block | apply WX.r_again | refine WC.cond_yes rfl ?_ | refine WC.cond_no rfl ?_ | refine WC.cond rfl (fun hc => ?_) (fun hc => ?_) | refine WC.cond_b rfl (fun hc => ?_) (fun hc => ?_))
      exact WX.ret1 rfl rfl ⟨rfl, ((hG2.trans hg1).trans hg2).trans hg3⟩
  · refine WO.one (W1.loadAgg (vs := rcells y) rfl rfl hy rfl ?_)
    apply WA.fold
    refine WA.all [0] (by kernel_rfl) rfl ⟨⟨_, rfl, ?_⟩, trivial⟩
    refine WO.one (W1.loadAgg (vs := rcells x) rfl rfl hx rfl ?_)
    apply WA.fold
    refine WA.all [1] (by kernel_rfl) rfl ⟨⟨_, rfl, ?_⟩, trivial⟩
    refine WO.one (W1.call (vs := [recV x]) rfl rfl (numberG x w) ?_)
    rintro v w1 ⟨rfl, hg1⟩
    apply WA.fold
    refine WA.all [3] (by kernel_rfl) rfl ⟨⟨_, rfl, ?_⟩, trivial⟩
    refine WO.one (W1.call (vs := [recV y]) rfl rfl (numberG y w1) ?_)
    rintro v w2 ⟨rfl, hg2⟩
    apply WA.fold
    refine WA.all [4] (by kernel_rfl) rfl ⟨⟨_, rfl, ?_⟩, trivial⟩
    refine WO.one (W1.call (vs := [zv (numK x), zv (numK y)]) rfl rfl (compareG _ _ w2) ?_)
    rintro v w3 ⟨rfl, hg3⟩
    apply WA.fold
    refine WA.pa 5 rfl ?_
    refine WA.done (by kernel_rfl) ?_
    repeat' (first | apply WL.fold | apply WA.fold | apply WL.nil | apply WX.n_then | apply WC.seq | apply WC.region | refine WL.pa ?_ | refine WL.ga rfl ?_ | refine WL.na rfl ?_ | refine WL.nu rfl rfl ?_ | apply WC.block | apply WC.skip | apply WC.exit | apply WC.ret | apply WX.e_block | refine WX.e_other rfl ?_ | apply WX.e_then | apply WX.e_again | apply WX.n_block | apply WX.r_then | apply WX.r_block | apply WX.r_again | refine WC.cond_yes rfl ?_ | refine WC.cond_no rfl ?_ | refine WC.cond rfl (fun hc => ?_) (fun hc => ?_) | refine WC.cond_b rfl (fun hc => ?_) (fun hc => ?_))
    exact WX.ret1 rfl rfl ⟨rfl, ((hG2.trans hg1).trans hg2).trans hg3⟩
end Go.Sx
namespace Go.Sx
open Go Go.Proofs Go.RowKit
theorem cmpLaysR (blk off size : Nat) (w : World) : CmpLays Tryz.prog 34 #[] rcells 15 cfN blk off size w := fun m os dk _ x y => by
  refine Calls.mono (ofC1 x y _) ?_
  rintro e w' ⟨v, rfl, rfl, q, os', hw⟩
  exact ⟨rfl, q, os', hw⟩
theorem sortFunc_fn {w0 w : World} {H : List Atom} {H' : List Rc → List Atom} {a : Option Addr} {c : Nat} {l : List Rc} (hM : Mm w0 H w) (hl : l.length ≤ 1000000)
    (hr : ∀ l' : List Rc, l'.length = l.length → Rpl (A.grow 36 15 a c l.length (rcl l)) (A.grow 36 15 a c l'.length (rcl l')) H (H' l')) :
    Fn Tryz.prog 33 #[.slice a l.length c, fnV 34] w fun v w' => ∃ l', (l'.Perm l ∧ l'.Pairwise fun x y => numK x ≤ numK y) ∧ v = .tuple #[] ∧ Mm w0 (H' l') w' := by
  by_cases h0 : l = []
  · subst h0
    refine Calls.mono (AnyF.slices_SortFunc_none Tryz.sortR a c (fnV 34) w) ?_
    rintro e w' ⟨rfl, rfl⟩
    exact ⟨_, rfl, [], ⟨List.Perm.refl _, List.Pairwise.nil⟩, rfl, Rpl.same (hr [] rfl) ▸ hM⟩
  have hne : l.length ≠ 0 := fun e => h0 (List.eq_nil_of_length_eq_zero e)
  have hown := hM.own (hr l rfl).mem
  obtain ⟨b, cur, rfl, hg, hnc, hcm, hcs, htake⟩ : ∃ b cur, a = some ⟨b, 0, none⟩ ∧ w.heap[b]? = some (.cells cur 36 (0, 0)) ∧ l.length ≤ c ∧ c ≤ maxLen ∧ cur.size = c * 15 ∧ cur.toList.take (l.length * 15) = rcl l := by
    rcases hown.2 with ⟨-, h2⟩ | ⟨g, cap, cur, hv, -, hg, hnc, hcm, hcs, ht⟩
    · exact absurd h2 hne
    · cases hv; exact ⟨g, cur, rfl, hg, hnc, hcm, hcs, ht⟩
  have hlt := (Array.getElem?_eq_some_iff.1 hg).1
  have hfs : ∀ l : List Rc, (Go.Sort.flatK rcells 15 l.toArray).size = l.length * 15 := fun l => by simp [Go.Sort.flatK]
  have hH : Go.Sort.HoldsK rcells 15 w b 0 l.toArray := fun j hj => by
    rw [hfs] at hj
    have h1 : (rcl l)[j]? = some (Go.Sort.flatK rcells 15 l.toArray)[j]! := by
      rw [← flatK_rcl]
      have hj' : j < (Go.Sort.flatK rcells 15 l.toArray).size := by rw [hfs]; exact hj
      exact arr_at hj'
    rw [Nat.zero_add]
    exact ⟨ownsRow_cell hown h1, by simp [World.frozen?, hg]⟩
  have eg : ∀ args w, (callFunc 34 args).run Tryz.prog w = .ok (.enter 34 args) w := CallOk.run
  have hS := AnyQ.slices_SortFunc Tryz.sortR 15 Tryz.isAgg36 Tryz.sizeOf36 rcells rcells_len rcells_one cfN swoN 34 #[] b 0 c l.toArray w eg (cmpLaysR b 0 _ w) hH hlt (by simp; omega)
  refine Calls.mono hS ?_
  rintro e w' ⟨rfl, d', n, os, hp, hs, rfl⟩
  have hsz : d'.size = l.length := by have := hp.1; simpa using this
  obtain ⟨l', rfl⟩ : ∃ l' : List Rc, d' = l'.toArray := ⟨d'.toList, by simp⟩
  have hl' : l'.length = l.length := by simpa using hsz
  have hperm : l'.Perm l := by
    have h1 := hp.2.2
    have e1 : l'.toArray.extract 0 l.toArray.size = l'.toArray := by
      rw [show l.toArray.size = l'.toArray.size by simp [hl']]; exact Array.extract_size
    have e2 : l.toArray.extract 0 l.toArray.size = l.toArray := Array.extract_size
    rw [e1, e2] at h1
    simpa using h1
  have hsort : l'.Pairwise fun x y => numK x ≤ numK y := by
    refine List.pairwise_iff_getElem.2 fun i j hi hj hij => ?_
    have h1 := hs i j (Nat.zero_le _) hij (by simp; omega)
    rw [ltN, decide_eq_false_iff_not] at h1
    simp [hi, hj] at h1
    omega
  refine ⟨_, rfl, l', ⟨hperm, hsort⟩, rfl, hM.turn (hr l' hl') rfl rfl rfl ?_ (fun k hk hkb => ?_) ?_ (by simp [A.grow, Value.ownBlock]) (fun b' hb' => .inl (by simpa [A.grow, Value.ownBlock] using hb'))⟩
  · simp [sortWorldK, Go.Sort.putRowK, Go.Sort.grow, Go.Sort.putRow, Go.Sort.mapBlock, Go.Sort.ahead]
  · have hkb' : ¬ b = k := fun e => hkb (by subst e; simp [A.grow, Value.ownBlock])
    have hs1 : (Go.Sort.putRow id (Go.Sort.ahead w n) b 0 (Go.Sort.flatK rcells 15 l'.toArray)).heap.size = w.heap.size := by simp [Go.Sort.putRow, Go.Sort.mapBlock, Go.Sort.ahead]
    show ((Go.Sort.putRow id (Go.Sort.ahead w n) b 0 (Go.Sort.flatK rcells 15 l'.toArray)).heap ++ os)[k]? = _
    rw [Array.getElem?_append, if_pos (by rw [hs1]; exact hk)]
    show (w.heap.modify b _)[k]? = _
    rw [Array.getElem?_modify, if_neg hkb']
  · rw [hl']
    refine ⟨by rw [rcl_len, hl'], .inr ⟨b, c, Go.Sort.putCells id 0 (Go.Sort.flatK rcells 15 l'.toArray) cur, rfl, Nat.zero_le _, ?_, hnc, hcm, by simp [Go.Sort.putCells, hcs], ?_⟩⟩
    · have hm : (Go.Sort.putRow id (Go.Sort.ahead w n) b 0 (Go.Sort.flatK rcells 15 l'.toArray)).heap[b]? = some (.cells (Go.Sort.putCells id 0 (Go.Sort.flatK rcells 15 l'.toArray) cur) 36 (0, 0)) := by
        simp [Go.Sort.putRow, Go.Sort.mapBlock, Go.Sort.ahead, Array.getElem?_modify, hg, Go.Sort.onCells]
      have hs1 : (Go.Sort.putRow id (Go.Sort.ahead w n) b 0 (Go.Sort.flatK rcells 15 l'.toArray)).heap.size = w.heap.size := by simp [Go.Sort.putRow, Go.Sort.mapBlock, Go.Sort.ahead]
      show ((Go.Sort.putRow id (Go.Sort.ahead w n) b 0 (Go.Sort.flatK rcells 15 l'.toArray)).heap ++ os)[b]? = _
      rw [Array.getElem?_append, if_pos (by rw [hs1]; exact hlt), hm]
    · have h1 := putCells_id (Go.Sort.flatK rcells 15 l'.toArray) cur (by rw [hfs, hcs, hl']; exact Nat.mul_le_mul_right _ hnc)
      rw [hfs, hl', flatK_rcl] at h1
      exact h1
end Go.Sx
/- Chapter 21: Of: what is known on a day. -/
namespace Go.Sx
open Go Go.Proofs Go.RowKit
theorem hwXR {G G2 : Prop} (x : G2) (hwq : Hold G2 → G := by
    intro hQq
    repeat' (first | apply HL.fold | apply HA.fold | apply HL.nil | apply HX.n_then | apply HC.seq | apply HC.region | refine HL.pa ?_ | refine HL.ga rfl ?_ | refine HL.na rfl ?_ | refine HL.nu rfl rfl ?_ | apply HC.block | apply HC.skip | apply HC.exit | apply HC.ret | apply HX.e_block | refine HX.e_other rfl ?_ | apply HX.e_then | apply HX.e_again | apply HX.n_block | apply HX.r_then | apply HX.r_block | apply HX.r_again | refine HC.cond_yes rfl ?_ | refine HC.cond_no rfl ?_ | refine HL.one (H1.ldb rfl memA rfl rfl ?_) | refine HC.cond rfl (fun hc => ?_) (fun hc => ?_) | refine HC.cond_b rfl (fun hc => ?_) (fun hc => ?_))
    exact hQq.get) : G := hwq ⟨x⟩
theorem hbXR {G G2 : Prop} (x : G2) (hwq : Hold G2 → G := by
    intro hQq
    repeat' (first | apply HL.fold | apply HA.fold | apply HL.nil | apply HX.n_then | apply HC.seq | apply HC.region | refine HL.pa ?_ | refine HL.ga rfl ?_ | refine HL.na rfl ?_ | refine HL.nu rfl rfl ?_ | apply HC.skip | apply HC.exit | apply HC.ret | apply HX.e_block | refine HX.e_other rfl ?_ | apply HX.e_then | apply HX.e_again | apply HX.n_block | apply HX.r_then | apply HX.r_block | apply HX.r_again | refine HC.cond_yes rfl ?_ | refine HC.cond_no rfl ?_ | refine HL.one (H1.ldb rfl memA rfl rfl ?_) | refine HC.cond rfl (fun hc => ?_) (fun hc => ?_) | refine HC.cond_b rfl (fun hc => ?_) (fun hc => ?_))
    exact hQq.get) : G := hwq ⟨x⟩
theorem nodup_len {α : Type} : ∀ {L l : List α}, L.Nodup → (∀ x ∈ L, x ∈ l) → L.length ≤ l.length
  | [], _, _, _ => Nat.zero_le _
  | a :: L, l, h, hs => by
    obtain ⟨s, t, rfl⟩ := List.append_of_mem (hs a (List.mem_cons_self ..))
    have h1 := List.nodup_cons.1 h
    have h2 := nodup_len (l := s ++ t) h1.2 fun x hx => by
      rcases List.mem_append.1 (hs x (List.mem_cons_of_mem _ hx)) with h3 | h3
      · exact List.mem_append_left _ h3
      · rcases List.mem_cons.1 h3 with rfl | h3
        · exact absurd hx h1.1
        · exact List.mem_append_right _ h3
    simp only [List.length_append, List.length_cons] at h2 ⊢
    omega
abbrev Slot := Option Addr × Nat × List Rc
def slot (x : Slot) : Value := .slice x.1 x.2.2.length x.2.1
def slotA (x : Slot) : Atom := A.grow 36 15 x.1 x.2.1 x.2.2.length (rcl x.2.2)
def slots (q : Nat → Slot) : List Atom := (List.range 8).map fun i => slotA (q i)
def updQ (q : Nat → Slot) (i : Nat) (x : Slot) : Nat → Slot := fun j => if j = i then x else q j
theorem rpl_map {f f' : Nat → Atom} {i : Nat} (hne : ∀ j, j ≠ i → f j = f' j) : ∀ {L : List Nat}, L.Nodup → i ∈ L → Rpl (f i) (f' i) (L.map f) (L.map f')
  | [], _, h => absurd h (by simp)
  | j :: L, hn, h => by
    have h1 := List.nodup_cons.1 hn
    by_cases e : j = i
    · subst e
      rw [List.map_cons, List.map_cons]
      have : L.map f = L.map f' := List.map_congr_left fun x hx => hne x fun e => h1.1 (e ▸ hx)
      rw [this]; exact Rpl.here
    · rw [List.map_cons, List.map_cons, hne j e]
      exact Rpl.there (rpl_map hne h1.2 ((List.mem_cons.1 h).resolve_left fun e2 => e e2.symm))
theorem rpl_slots (q : Nat → Slot) {i : Nat} (h : i < 8) (x : Slot) : Rpl (slotA (q i)) (slotA x) (slots q) (slots (updQ q i x)) := by
  have := rpl_map (f := fun j => slotA (q j)) (f' := fun j => slotA (updQ q i x j)) (i := i) (fun j hj => by show slotA (q j) = slotA (updQ q i x j); rw [show updQ q i x j = q j from if_neg hj]) (L := List.range 8) List.nodup_range (List.mem_range.2 h)
  simp only [updQ, if_true] at this
  exact this
theorem slot_upd (q : Nat → Slot) (i : Nat) (x : Slot) : (row 8 fun j => slot (q j)).set i (slot x) = row 8 fun j => slot (updQ q i x j) :=
  row_step (by show slot (updQ q i x i) = slot x; rw [show updQ q i x i = x from if_pos rfl]) fun j hj => by
    show slot (q j) = slot (updQ q i x j)
    rw [show updQ q i x j = q j from if_neg hj]
theorem recV_inj {r s : Rc} (h : recV r = recV s) : r = s := by
  have h1 : rcells r = rcells s := by
    injection h with h
    exact List.toArray_inj h
  unfold rcells at h1
  simp only [List.cons.injEq, Value.int.injEq, Value.bool.injEq, Value.string.injEq, true_and, and_true] at h1
  obtain ⟨h1, h2, h3, h4, h5, h6, h7, h8, h9, h10, h11, h12, h13, h14, h15⟩ := h1
  cases r; cases s
  simp only at h1 h2 h3 h4 h5 h6 h7 h8 h9 h10 h11 h12 h13 h14 h15
  subst h1 h2 h3 h4 h5 h6 h7 h8 h9 h10 h11 h12 h13 h14 h15
  rfl
/-- A base, as it reads. -/
def BaseV (w : World) (v : Value) (B : Nat → List Rc) : Prop := ∃ s : Nat → Value, v = .agg (row 8 s).toArray ∧ ∀ i, i < 8 → RdR w (s i) (B i)
theorem BaseV.ext {w w' : World} {v : Value} {B : Nat → List Rc} (h : BaseV w v B) (k : Ext w w') : BaseV w' v B := by
  obtain ⟨s, h1, h2⟩ := h
  exact ⟨s, h1, fun i hi => (h2 i hi).ext k⟩
theorem isOf_sorted {l : List Rc} {day : Int} {i : Nat} {L : List Rc} (hn : L.Nodup) (hs : L.Pairwise fun x y => numK x ≤ numK y) (hm : ∀ r, r ∈ L ↔ r.kind = (i : Int) + 1 ∧ Top l day r ∧ r.gone = false) : IsOf l day ((i : Int) + 1) L := by
  refine ⟨?_, fun r => by rw [hm]; exact ⟨fun h => ⟨⟨h.2.1, h.2.2⟩, h.1⟩, fun h => ⟨h.2, h.1.1, h.1.2⟩⟩⟩
  refine (hs.and hn).imp_of_mem fun {a b} ha hb h => ?_
  rw [numK_numR, numK_numR] at h
  have h1 := (hm a).1 ha
  have h2 := (hm b).1 hb
  have hne : numR a ≠ numR b := fun e => h.2 (top_uniq h1.2.1 h2.2.1 (by
    unfold keyR
    unfold numR at e
    rw [e, h1.1, h2.1]))
  omega
/-- A base that lies in slices of the call's own: its value, its atom, its lists. -/
abbrev bsV (q : Nat → Slot) : Value := .agg (row 8 fun i => slot (q i)).toArray
def bsA (q : Nat → Slot) : Atom := A.all (slots q)
def bsL (q : Nat → Slot) (i : Nat) : List Rc := (q i).2.2
theorem Mm.base {w0 w : World} {q : Nat → Slot} {H : List Atom} (h : Mm w0 H w) (hm : bsA q ∈ H) : BaseV w (bsV q) (bsL q) := by
  have hp : ∀ x ∈ slots q, x.p w := h.all _ hm
  exact ⟨_, rfl, fun i hi => RdR.of_owns (hp _ (List.mem_map.2 ⟨i, List.mem_range.2 hi, rfl⟩))⟩
def q0 : Nat → Slot := fun _ => (none, 0, [])
section
variable {P : Program} {r : Option Nat} {N : Nat} {ds : List Deferred} {Q : Post} {E : Env} {w0 : World} {H : List Atom}
theorem Mm.slots0 {w : World} (h : Mm w0 H w) : Mm w0 (slots q0 ++ H) w :=
  (((((((h.grow0 36 15).grow0 36 15).grow0 36 15).grow0 36 15).grow0 36 15).grow0 36 15).grow0 36 15).grow0 36 15
theorem HC.slots0 {co : Code} (h : HC P r N ds co Q E w0 (slots q0 ++ H)) : HC P r N ds co Q E w0 H := fun w hM => h w hM.slots0
end
/-- What the lists hold while the map is ranged over. -/
structure SlotI (es : Array MapEntry) (seen : Array Nat) (q : Nat → Slot) : Prop where
  nd : ∀ i, i < 8 → (q i).2.2.Nodup
  mem : ∀ i, i < 8 → ∀ r, r ∈ (q i).2.2 ↔ r.kind = (i : Int) + 1 ∧ ∃ e ∈ es.toList, e.born ∈ seen ∧ e.val = recV r
theorem SlotI.nil (es : Array MapEntry) : SlotI es #[] q0 := ⟨fun _ _ => List.nodup_nil, fun i hi r => by
  constructor
  · intro h; exact absurd h (by simp [q0])
  · rintro ⟨-, e, -, h, -⟩; exact absurd h (by simp)⟩
theorem SlotI.push {l : List Rc} {day : Int} {m : List (List UInt8 × Rc)} {es : Array MapEntry} {clk : Nat} {seen : Array Nat} {q : Nat → Slot} (h : SlotI es seen q) (hG : EffG l day m) (hms : MS (liftM m) es clk) {e : MapEntry} (he : e ∈ es.toList) (hne : e.born ∉ seen) {r : Rc}
    (hv : e.val = recV r) {k : Nat} (hk8 : k < 8) (hk : r.kind = (k : Int) + 1) (a : Option Addr) (c : Nat) : SlotI es (seen.push e.born) (updQ q k (a, c, (q k).2.2 ++ [r])) := by
  have huniq : ∀ e' ∈ es.toList, e'.val = recV r → e' = e := fun e' he' hv' => by
    obtain ⟨x, hx, h1, h2⟩ := hms.ent he
    obtain ⟨y, hy, h3, h4⟩ := hms.ent he'
    obtain ⟨p, hp, rfl⟩ := List.mem_map.1 hx
    obtain ⟨p', hp', rfl⟩ := List.mem_map.1 hy
    dsimp only at h1 h2 h3 h4
    have e1 : p.2 = r := recV_inj (h2.symm.trans hv)
    have e2 : p'.2 = r := recV_inj (h4.symm.trans hv')
    have e3 : p'.1 = p.1 := by rw [hG.key p hp, hG.key p' hp', e1, e2]
    obtain ⟨i, hi⟩ := List.mem_iff_getElem?.1 (show e ∈ es.toList from he)
    obtain ⟨j, hj⟩ := List.mem_iff_getElem?.1 (show e' ∈ es.toList from he')
    have hi2 : ((liftM m).map Prod.fst)[i]? = some ⟨p.1.toArray⟩ := by
      have h5 := congrArg (fun l => l[i]?) hms.ents
      simp only [List.getElem?_map, hi, Option.map_some] at h5
      cases h6 : (liftM m)[i]? with
      | none => rw [h6] at h5; cases h5
      | some z =>
        rw [h6] at h5
        simp only [Option.map_some, Option.some.injEq, Prod.mk.injEq] at h5
        rw [List.getElem?_map, h6, Option.map_some]
        rw [h1] at h5
        injection h5.1 with h7
        rw [h7]
    have hj2 : ((liftM m).map Prod.fst)[j]? = some ⟨p.1.toArray⟩ := by
      have h5 := congrArg (fun l => l[j]?) hms.ents
      simp only [List.getElem?_map, hj, Option.map_some] at h5
      cases h6 : (liftM m)[j]? with
      | none => rw [h6] at h5; cases h5
      | some z =>
        rw [h6] at h5
        simp only [Option.map_some, Option.some.injEq, Prod.mk.injEq] at h5
        rw [List.getElem?_map, h6, Option.map_some]
        rw [h3, e3] at h5
        injection h5.1 with h7
        rw [h7]
    have hnd : ((liftM m).map Prod.fst).Nodup := by
      have := hG.nd
      unfold liftM
      rw [List.map_map]
      have e4 : (m.map (Prod.fst ∘ fun p : List UInt8 × Rc => ((⟨p.1.toArray⟩ : ByteArray), recV p.2))) = (m.map Prod.fst).map fun x => (⟨x.toArray⟩ : ByteArray) := by rw [List.map_map]; rfl
      rw [e4]
      exact this.map _ fun x y hxy e5 => hxy (ba_inj e5)
    have hlt : i < ((liftM m).map Prod.fst).length := (List.getElem?_eq_some_iff.1 hi2).1
    have e5 := (List.getElem?_inj hlt hnd).1 (hi2.trans hj2.symm)
    subst e5
    rw [hi] at hj
    exact (Option.some.inj hj).symm
  have hno : r ∉ (q k).2.2 := fun hr => by
    obtain ⟨-, e', he', hs', hv'⟩ := (h.mem k hk8 r).1 hr
    rw [huniq e' he' hv'] at hs'
    exact hne hs'
  refine ⟨fun i hi => ?_, fun i hi s => ?_⟩
  · unfold updQ
    split
    · rename_i e1
      subst e1
      refine List.nodup_append.2 ⟨h.nd i hi, by simp, fun a ha b hb e2 => ?_⟩
      obtain rfl := List.mem_singleton.1 hb
      exact hno (e2 ▸ ha)
    · exact h.nd i hi
  · unfold updQ
    split
    · rename_i e1
      subst e1
      rw [List.mem_append, List.mem_singleton, h.mem i hi s]
      constructor
      · rintro (⟨h1, e', he', hs', hv'⟩ | rfl)
        · exact ⟨h1, e', he', Array.mem_push.2 (.inl hs'), hv'⟩
        · exact ⟨hk, e, he, Array.mem_push.2 (.inr rfl), hv⟩
      · rintro ⟨h1, e', he', hs', hv'⟩
        rcases Array.mem_push.1 hs' with h2 | h2
        · exact .inl ⟨h1, e', he', h2, hv'⟩
        · have e2 := stamp_inj hms.nd he' he h2
          subst e2
          exact .inr (recV_inj (hv'.symm.trans hv))
    · rename_i e1
      rw [h.mem i hi s]
      constructor
      · rintro ⟨h1, e', he', hs', hv'⟩
        exact ⟨h1, e', he', Array.mem_push.2 (.inl hs'), hv'⟩
      · rintro ⟨h1, e', he', hs', hv'⟩
        rcases Array.mem_push.1 hs' with h2 | h2
        · exact ⟨h1, e', he', h2, hv'⟩
        · have e2 := stamp_inj hms.nd he' he h2
          subst e2
          have e3 := recV_inj (hv'.symm.trans hv)
          subst e3
          exact absurd (by omega) e1
theorem slot_one (q : Nat → Slot) : ∀ u ∈ (row 8 fun i => slot (q i)), u.oneCell' = true := fun u hu => by
  obtain ⟨i, -, rfl⟩ := List.mem_map.1 hu
  rfl
theorem rpl_push (q : Nat → Slot) {k : Nat} (h : k < 8) (r : Rc) (a' : Option Addr) (c' : Nat) :
    Rpl (A.grow 36 15 (q k).1 (q k).2.1 (q k).2.2.length (rcl (q k).2.2)) (A.grow 36 15 a' c' ((q k).2.2.length + 1) (rcl (q k).2.2 ++ rcells r)) (slots q) (slots (updQ q k (a', c', (q k).2.2 ++ [r]))) := by
  have h1 := rpl_slots q h (a', c', (q k).2.2 ++ [r])
  have h2 : slotA (a', c', (q k).2.2 ++ [r]) = A.grow 36 15 a' c' ((q k).2.2.length + 1) (rcl (q k).2.2 ++ rcells r) := by
    unfold slotA
    dsimp only
    rw [List.length_append, rcl_app]
    simp [rcl]
  rw [h2] at h1
  exact h1
theorem slot_push (q : Nat → Slot) (k : Nat) (r : Rc) (a' : Option Addr) (c' : Nat) : (row 8 fun i => slot (q i)).set k (.slice a' ((q k).2.2.length + 1) c') = row 8 fun j => slot (updQ q k (a', c', (q k).2.2 ++ [r]) j) := by
  rw [← slot_upd]
  congr 1
  unfold slot
  dsimp only
  rw [List.length_append]; rfl
theorem slot_same (q : Nat → Slot) (k : Nat) {l' : List Rc} (h : l'.length = (q k).2.2.length) : (row 8 fun i => slot (q i)) = row 8 fun j => slot (updQ q k ((q k).1, (q k).2.1, l') j) :=
  row_congr fun i _ => by
    unfold updQ
    split
    · rename_i e
      subst e
      unfold slot
      dsimp only
      rw [h]
    · rfl
attribute [local irreducible] WC WL WX POp Then Again Fn NX W1 WA WO QL RP RA Yld LoopAt HC HL HX HN H1 HA HO HQ HB HP A.blk A.grow A.rd A.obj A.mp AgainH CutH
attribute [local irreducible] A.ms A.mx A.mit slots
set_option maxHeartbeats 2000000 in
theorem of_fn (a : Option Addr) (c : Nat) (l : List Rc) (hl : l.length ≤ 1000000) (hok : ∀ r ∈ l, RcOk r) (day : Int) (w : World) (hR : RdR w (.slice a l.length c) l) :
    Fn Tryz.prog 11 #[.slice a l.length c, zv day] w fun v w' => ∃ q, (∀ i : Nat, i < 8 → IsOf l day ((i : Int) + 1) (bsL q i)) ∧ v = bsV q ∧ Mm w [bsA q] w' := by
  refine enterH (l := [_, _]) rfl Tryz.ntmps11 rfl ?_
  refine hwXR ?_
  refine HL.one (H1.alloc (cs := row 8 fun i => slot (q0 i)) rfl rfl (fun b4 => ?_))
  refine hwXR ?_
  refine HL.one (H1.callz1 (α := Nat × List (List UInt8 × Rc)) (V := fun z => .map (some z.1)) (An := fun z => A.ms z.1 (liftM z.2)) (I := fun z => EffG l day z.2) (vs := [.slice a l.length c, zv day]) rfl rfl (fun w' hM => effect_fn a c l hl hok day w' (hR.ext hM.ext)) ?_)
  rintro ⟨bm, m⟩ hG
  dsimp only at hG ⊢
  apply HL.fold
  refine HL.openms fun es clk hms => ?_
  refine HL.one (H1.mqrange (es := es) (clk := clk) rfl (fun w' hM => hM.mx (.head _)) rfl (fun it => ?_))
  refine hbXR ?_
  refine HC.slots0 ?_
  refine HC.cut (α := Nat → Slot) (fun _ => [(4, .pointer (some ⟨b4, 0, none⟩))]) (fun q => A.blk b4 (row 8 fun i => slot (q i)) 38 :: slots q)
    (fun q => ∀ i : Nat, i < 8 → (q i).2.2.Nodup ∧ ∀ r, r ∈ (q i).2.2 ↔ r.kind = (i : Int) + 1 ∧ Top l day r ∧ r.gone = false) ?_ ?_
  · refine hwXR ?_
    refine HC.loop (α := Array Nat × (Nat → Slot)) (fun _ => [(4, .pointer (some ⟨b4, 0, none⟩)), (12, .pointer (some ⟨it, 0, none⟩))])
      (fun z => A.mit it bm clk z.1 :: A.mx bm es clk :: A.blk b4 (row 8 fun i => slot (z.2 i)) 38 :: slots z.2) (fun z => SlotI es z.1 z.2) (fun z => mleft es z.1) (#[], q0) (SlotI.nil es) esA ⟨[], by rw [List.append_nil]; exact List.perm_append_comm⟩ ?_
    rintro ⟨seen, q⟩ hI
    dsimp only at hI ⊢
    have hall : ∀ r, (∃ e ∈ es.toList, e.val = recV r) ↔ Top l day r ∧ r.gone = false := fun r => by
      rw [← hG.mem]
      constructor
      · rintro ⟨e, he, hv⟩
        obtain ⟨x, hx, h1, h2⟩ := hms.ent he
        obtain ⟨p, hp, rfl⟩ := List.mem_map.1 hx
        exact ⟨p, hp, recV_inj (h2.symm.trans hv)⟩
      · rintro ⟨p, hp, rfl⟩
        obtain ⟨e, he, h1, h2⟩ := hms.of (List.mem_map.2 ⟨p, hp, rfl⟩)
        exact ⟨e, he, h2⟩
    refine hwXR ?_
    refine HL.one (H1.mqnext (H' := fun s => A.mit it bm clk s :: A.mx bm es clk :: A.blk b4 (row 8 fun i => slot (q i)) 38 :: slots q) rfl (fun w' hM => hM.mx (.tail _ (.head _))) hms.born (fun s => Rpl.here) rfl (fun hseen => ?_) (fun e he hne => ?_))
    · refine hwXR ?_
      refine HX.cut q (fun i hi => ⟨hI.nd i hi, fun r => ?_⟩) esA (Hs.refl _).skip.skip
      rw [hI.mem i hi r, ← hall r]
      exact ⟨fun h => ⟨h.1, by obtain ⟨e, he, -, hv⟩ := h.2; exact ⟨e, he, hv⟩⟩, fun h => ⟨h.1, by obtain ⟨e, he, hv⟩ := h.2; exact ⟨e, he, hseen e he, hv⟩⟩⟩
    obtain ⟨x, hx, hkey, hval⟩ := hms.ent he
    obtain ⟨p, hp, rfl⟩ := List.mem_map.1 hx
    dsimp only at hkey hval
    obtain ⟨r, hr⟩ : ∃ r, r = p.2 := ⟨_, rfl⟩
    rw [← hr] at hval
    have htop := ((hall r).1 ⟨e, he, hval⟩).1
    obtain ⟨k, hk, hk8⟩ : ∃ k : Nat, r.kind = (k : Int) + 1 ∧ k < 8 := ⟨(r.kind - 1).toNat, by have := htop.now.1.kind; omega, by have := htop.now.1.kind; omega⟩
    have hpush := hI.push hG hms he hne hval hk8 hk
    have hlen : (q k).2.2.length + 1 ≤ 1000000 := by
      have h1 := (hpush none 0).nd k hk8
      have h2 := (hpush none 0).mem k hk8
      simp only [updQ, if_true] at h1 h2
      have h3 := nodup_len (l := l) h1 fun s hs => by
        obtain ⟨-, e', he', -, hv'⟩ := (h2 s).1 hs
        exact ((hall s).1 ⟨e', he', hv'⟩).1.mem
      rw [List.length_append, List.length_singleton] at h3
      omega
    rw [hkey, hval]
    refine hwXR ?_
    refine HL.one (H1.mqentry (e := e) rfl (fun w' hM => hM.mx (.tail _ (.head _))) he hms.nd (.head _) rfl ?_)
    rw [hkey, hval]
    refine hwXR ?_
    refine HL.one (H1.alloc (cs := rcells rcZ) rfl rfl (fun b6 => ?_))
    refine hwXR ?_
    refine HL.one (H1.stAgg (cs := rcells rcZ) (vs := rcells r) rfl rfl rfl (rcells_one _) rplA rfl ?_)
    refine hwXR ?_
    refine HL.one (H1.callx (vs := [.pointer (some ⟨b4, 0, none⟩), zv r.kind]) rfl rfl (fun w' _ => by rw [hk]; exact list_fn b4 k hk8 w') ?_)
    refine hwXR ?_
    refine HC.any rfl ?_
    refine HA.pa 0 rfl ?_
    refine HA.pa 1 rfl ?_
    refine HA.pa 2 rfl ?_ (POp.nilCheck rfl)
    refine HA.all [3, 4] (by kernel_rfl) rfl ⟨⟨_, rfl, ?_⟩, ⟨_, rfl, ?_⟩, trivial⟩
    · refine HO.one ?_
      refine H1.ldb (cs := row 8 fun i => slot (q i)) (v := slot (q k)) rfl memA (row_get _ hk8) rfl ?_
      apply HA.fold
      refine HA.all [4] (by kernel_rfl) rfl ⟨⟨_, rfl, ?_⟩, trivial⟩
      refine HO.one ?_
      refine H1.ldAgg (vs := rcells r) rfl (.head _) rfl (fun i v hv => by rw [Nat.zero_add]; exact hv) rfl ?_
      apply HA.fold
      refine HA.all [5] (by kernel_rfl) rfl ⟨⟨_, rfl, ?_⟩, trivial⟩
      refine HO.one ?_
      refine H1.lit (cs := rcells r) rfl rfl rfl rfl rfl rfl (fun b8 => ?_)
      apply HA.fold
      refine HA.all [6] (by kernel_rfl) rfl ⟨⟨_, rfl, ?_⟩, trivial⟩
      refine HO.one ?_
      refine H1.app (e := 36) (sz := 15) (m := 1) (n := (q k).2.2.length) (a := (q k).1) (c := (q k).2.1) (xs := rcl (q k).2.2) (news := rcells r) rfl (by decide) rfl rfl (fun a' c' => Rpl.there (Rpl.there (Rpl.there (Rpl.there (Rpl.there (rpl_push q hk8 r a' c')))))) rfl (fun w hM j u hu => by rw [add_lit, Nat.zero_add]; exact (hM.blk (.head _)).cell hu) (rcells_one r) hlen (by decide) rfl (fun a' c' _ => ?_)
      apply HA.fold
      refine HA.pa 7 rfl ?_ (POp.nilCheck rfl)
      refine HA.all [8] (by kernel_rfl) rfl ⟨⟨_, rfl, ?_⟩, trivial⟩
      refine HO.one ?_
      refine H1.st (b := b4) (i := k) rfl rfl (by intro _ h; cases h) (by intro _ h; cases h) (Rpl.there (Rpl.there (Rpl.there (Rpl.there Rpl.here)))) (by rw [row_len]; exact hk8) ?_
      rw [slot_push]
      apply HA.fold
      refine HA.done (by kernel_rfl) ?_
      refine hwXR ?_
      exact HX.again (seen.push e.born, updQ q k (a', c', (q k).2.2 ++ [r])) (hpush a' c') (mleft_lt he hne) esA (Hs.refl _).skip.skip
    · refine HO.one ?_
      refine H1.ldAgg (vs := rcells r) rfl (.head _) rfl (fun i v hv => by rw [Nat.zero_add]; exact hv) rfl ?_
      apply HA.fold
      refine HA.all [3, 5] (by kernel_rfl) rfl ⟨⟨_, rfl, ?_⟩, ⟨_, rfl, ?_⟩, trivial⟩
      · refine HO.one ?_
        refine H1.ldb (cs := row 8 fun i => slot (q i)) (v := slot (q k)) rfl memA (row_get _ hk8) rfl ?_
        apply HA.fold
        refine HA.all [5] (by kernel_rfl) rfl ⟨⟨_, rfl, ?_⟩, trivial⟩
        refine HO.one ?_
        refine H1.lit (cs := rcells r) rfl rfl rfl rfl rfl rfl (fun b8 => ?_)
        apply HA.fold
        refine HA.all [6] (by kernel_rfl) rfl ⟨⟨_, rfl, ?_⟩, trivial⟩
        refine HO.one ?_
        refine H1.app (e := 36) (sz := 15) (m := 1) (n := (q k).2.2.length) (a := (q k).1) (c := (q k).2.1) (xs := rcl (q k).2.2) (news := rcells r) rfl (by decide) rfl rfl (fun a' c' => Rpl.there (Rpl.there (Rpl.there (Rpl.there (Rpl.there (rpl_push q hk8 r a' c')))))) rfl (fun w hM j u hu => by rw [add_lit, Nat.zero_add]; exact (hM.blk (.head _)).cell hu) (rcells_one r) hlen (by decide) rfl (fun a' c' _ => ?_)
        apply HA.fold
        refine HA.pa 7 rfl ?_ (POp.nilCheck rfl)
        refine HA.all [8] (by kernel_rfl) rfl ⟨⟨_, rfl, ?_⟩, trivial⟩
        refine HO.one ?_
        refine H1.st (b := b4) (i := k) rfl rfl (by intro _ h; cases h) (by intro _ h; cases h) (Rpl.there (Rpl.there (Rpl.there (Rpl.there Rpl.here)))) (by rw [row_len]; exact hk8) ?_
        rw [slot_push]
        apply HA.fold
        refine HA.done (by kernel_rfl) ?_
        refine hwXR ?_
        exact HX.again (seen.push e.born, updQ q k (a', c', (q k).2.2 ++ [r])) (hpush a' c') (mleft_lt he hne) esA (Hs.refl _).skip.skip
      · refine HO.one ?_
        refine H1.lit (cs := rcells r) rfl rfl rfl rfl rfl rfl (fun b8 => ?_)
        apply HA.fold
        refine HA.all [3] (by kernel_rfl) rfl ⟨⟨_, rfl, ?_⟩, trivial⟩
        refine HO.one ?_
        refine H1.ldb (cs := row 8 fun i => slot (q i)) (v := slot (q k)) rfl memA (row_get _ hk8) rfl ?_
        apply HA.fold
        refine HA.all [6] (by kernel_rfl) rfl ⟨⟨_, rfl, ?_⟩, trivial⟩
        refine HO.one ?_
        refine H1.app (e := 36) (sz := 15) (m := 1) (n := (q k).2.2.length) (a := (q k).1) (c := (q k).2.1) (xs := rcl (q k).2.2) (news := rcells r) rfl (by decide) rfl rfl (fun a' c' => Rpl.there (Rpl.there (Rpl.there (Rpl.there (Rpl.there (rpl_push q hk8 r a' c')))))) rfl (fun w hM j u hu => by rw [add_lit, Nat.zero_add]; exact (hM.blk (.head _)).cell hu) (rcells_one r) hlen (by decide) rfl (fun a' c' _ => ?_)
        apply HA.fold
        refine HA.pa 7 rfl ?_ (POp.nilCheck rfl)
        refine HA.all [8] (by kernel_rfl) rfl ⟨⟨_, rfl, ?_⟩, trivial⟩
        refine HO.one ?_
        refine H1.st (b := b4) (i := k) rfl rfl (by intro _ h; cases h) (by intro _ h; cases h) (Rpl.there (Rpl.there (Rpl.there (Rpl.there Rpl.here)))) (by rw [row_len]; exact hk8) ?_
        rw [slot_push]
        apply HA.fold
        refine HA.done (by kernel_rfl) ?_
        refine hwXR ?_
        exact HX.again (seen.push e.born, updQ q k (a', c', (q k).2.2 ++ [r])) (hpush a' c') (mleft_lt he hne) esA (Hs.refl _).skip.skip
  intro q hq
  refine hwXR ?_
  refine HC.loop (α := Nat × (Nat → Slot)) (fun z => [(4, .pointer (some ⟨b4, 0, none⟩)), (28, zv (z.1 : Int))]) (fun z => A.blk b4 (row 8 fun i => slot (z.2 i)) 38 :: slots z.2)
    (fun z => z.1 ≤ 8 ∧ ∀ i : Nat, i < 8 → ((z.2 i).2.2.Nodup ∧ ∀ r, r ∈ (z.2 i).2.2 ↔ r.kind = (i : Int) + 1 ∧ Top l day r ∧ r.gone = false) ∧ (i < z.1 → (z.2 i).2.2.Pairwise fun x y => numK x ≤ numK y)) (fun z => 8 - z.1) (0, q)
    ⟨Nat.zero_le _, fun i hi => ⟨hq i hi, fun h => absurd h (Nat.not_lt_zero _)⟩⟩ esA (Hs.refl _) ?_
  clear hq q
  rintro ⟨j, q⟩ ⟨hj, hI⟩
  dsimp only at hj hI ⊢
  by_cases hlt : j < 8
  · have hjI : ((j : Int) < 8) := by omega
    have hjq := hI j hlt
    have hlen : (q j).2.2.length ≤ 1000000 := by
      have := nodup_len (l := l) hjq.1.1 fun s hs => ((hjq.1.2 s).1 hs).2.1.mem
      omega
    refine hwXR ?_
    refine HL.one (H1.callx (vs := [.pointer (some ⟨b4, 0, none⟩), zv ((j : Int) + 1)]) rfl rfl (fun w' _ => list_fn b4 j hlt w') ?_)
    refine hwXR ?_
    refine HL.pa ?_ (POp.nilCheck rfl)
    refine HL.one (H1.ldb (v := slot (q j)) rfl (.head _) (row_get _ hlt) rfl ?_)
    refine hwXR ?_
    refine HL.one (H1.callk (α := List Rc) (V := fun _ => .tuple #[]) (I := fun l' => l'.Perm (q j).2.2 ∧ l'.Pairwise fun x y => numK x ≤ numK y) (H' := fun l' => A.blk b4 (row 8 fun i => slot (q i)) 38 :: slots (updQ q j ((q j).1, (q j).2.1, l'))) (vs := [slot (q j), fnV 34]) rfl rfl
      (fun w' hM => sortFunc_fn hM hlen (fun l' hl' => Rpl.there (rpl_slots q hlt ((q j).1, (q j).2.1, l')))) ?_)
    rintro l' ⟨hp, hs⟩
    rw [slot_same q j hp.length_eq]
    refine hwXR ?_
    refine HX.again (j + 1, updQ q j ((q j).1, (q j).2.1, l')) ⟨hlt, fun i hi => ?_⟩ (by show 8 - (j + 1) < 8 - j; omega) esA (Hs.refl _)
    dsimp only [updQ]
    by_cases e : i = j
    · subst e
      rw [if_pos rfl]
      dsimp only
      exact ⟨⟨hp.nodup_iff.2 hjq.1.1, fun r => by rw [hp.mem_iff]; exact hjq.1.2 r⟩, fun _ => hs⟩
    · rw [if_neg e]
      exact ⟨(hI i hi).1, fun h => (hI i hi).2 (by omega)⟩
  obtain rfl : j = 8 := by omega
  refine hwXR ?_
  refine HL.one (H1.ldAgg (vs := row 8 fun i => slot (q i)) rfl (.head _) rfl (fun i v hv => by rw [Nat.zero_add]; exact hv) rfl ?_)
  refine hwXR ?_
  refine HL.one (H1.stAgg (cs := row 8 fun i => slot (q i)) (vs := row 8 fun i => slot (q i)) rfl rfl rfl (slot_one q) Rpl.here rfl ?_)
  refine hwXR ?_
  exact HX.retc1 (cs := row 8 fun i => slot (q i)) rfl rfl (.head _) rfl fun w' hM => ⟨q, fun i hi => isOf_sorted (hI i hi).1.1 ((hI i hi).2 hi) (hI i hi).1.2, rfl, hM.tail.pack1⟩
end Go.Sx
/- Chapter 21: Has, Consents, Embargoed, Held, Hidden. -/
namespace Go.Sx
open Go Go.Proofs Go.RowKit
theorem hwXV {G G2 : Prop} (x : G2) (hwq : Hold G2 → G := by
    intro hQq
    repeat' (first | apply HL.fold | apply HA.fold | apply HL.nil | apply HX.n_then | apply HC.seq | apply HC.region | refine HL.pa ?_ | refine HL.ga rfl ?_ | refine HL.na rfl ?_ | refine HL.nu rfl rfl ?_ | apply HC.block | apply HC.skip | apply HC.exit | apply HC.ret | apply HX.e_block | refine HX.e_other rfl ?_ | apply HX.e_then | apply HX.e_again | apply HX.n_block | apply HX.r_then | apply HX.r_block | apply HX.r_again | refine HC.cond_yes rfl ?_ | refine HC.cond_no rfl ?_ | refine HL.one (H1.ldb rfl memA rfl rfl ?_) | refine HC.cond rfl (fun hc => ?_) (fun hc => ?_) | refine HC.cond_b rfl (fun hc => ?_) (fun hc => ?_))
    exact hQq.get) : G := hwq ⟨x⟩
def heldL (L rel : List Rc) (a d : Int) : List Int := numL ((L.filter (heldB rel a d)).map Rc.id)
def embL (L : List Rc) (a d : Int) : List Int := numL ((L.filter (embB a d)).map Rc.id)
def hidL (L : List Rc) (a b d : Int) : List Int := numL ((L.filter (aboutB a b d)).map Rc.clause)
/-- What comes back: a slice of the call's own, of numbers. -/
abbrev NumV (w : World) (L : List Int) (v : Value) (w' : World) : Prop := ∃ z : Option Addr × Nat, True ∧ v = .slice z.1 L.length z.2 ∧ Mm w [A.grow 3 1 z.1 z.2 L.length (ints L)] w'
attribute [local irreducible] WC WL WX POp Then Again Fn NX W1 WA WO QL RP RA Yld LoopAt HC HL HX HN H1 HA HO HQ HB HP A.blk A.grow A.rd A.obj A.mp AgainH CutH
attribute [local irreducible] A.dfr A.loop
theorem Hidden_fn {B : Nat → List Rc} {vb : Value} (a b d : Int) (w : World) (hB : BaseV w vb B) (hl : (B 6).length ≤ 1000000) :
    Fn Tryz.prog 18 #[vb, zv a, zv b, zv d] w (NumV w (hidL (B 6) a b d)) := by
  obtain ⟨s, rfl, hs⟩ := hB
  have h0 := hs 6 (by decide)
  obtain ⟨a0, c0, e0, -⟩ := h0.shape
  refine enterH (l := [_, _, _, _]) rfl Tryz.ntmps18 rfl ?_
  refine hwXV ?_
  refine HL.one (H1.boxAgg (cs := row 8 s) rfl rfl (fun b4 => ?_))
  refine hwXV ?_
  refine HL.build (cs := qc a b d) rfl rfl rfl ?_
  refine hwXV ?_
  refine HL.one (H1.callz (α := Nat × Nat) (V := fun z => .func (.func 114) #[] #[.pointer (some ⟨z.1, 0, none⟩), .pointer (some ⟨z.2, 0, none⟩)]) (Hn := fun z => [A.blk z.2 [.func (.func 57) #[qV a b d] #[]] 126, A.blk z.1 [.slice a0 (B 6).length c0] 27]) (I := fun _ => True)
    (vs := [s 6, .func (.func 57) #[qV a b d] #[]]) rfl rfl (fun w' hM => by rw [e0]; exact those_fn a0 (B 6).length c0 57 [qV a b d] [] w') ?_)
  rintro ⟨b2, b3⟩ -
  refine hwXV ?_
  refine HL.one (H1.callz1 (α := Option Addr × Nat) (V := fun z => .slice z.1 (hidL (B 6) a b d).length z.2) (An := fun z => A.grow 3 1 z.1 z.2 (hidL (B 6) a b d).length (ints (hidL (B 6) a b d))) (I := fun _ => True) (vs := [.func (.func 114) #[] #[.pointer (some ⟨b2, 0, none⟩), .pointer (some ⟨b3, 0, none⟩)], fnV 58]) rfl rfl
    (fun w' hM => numbers_fn Rc.clause 58 inferInstance line1_fn (L := B 6) (p := aboutB a b d) w' hl (by rw [e0] at h0; exact h0.ext hM.ext) ⟨_, [qV a b d], [], rfl, inferInstance, fun w'' hx r _ => isAbout_fn a b d r w''⟩ ((hM.blk (cs := [.slice a0 (B 6).length c0]) memA).cell (i := 0) rfl) ((hM.blk (cs := [.func (.func 57) #[qV a b d] #[]]) memA).cell (i := 0) rfl)) ?_)
  rintro ⟨az, cz⟩ -
  refine hwXV ?_
  exact HX.ret1 rfl rfl fun w' hM => ⟨(az, cz), trivial, rfl, hM.sub (by repeat (first | exact Hs.nil _ | (refine Hs.cons pickA ?_)))⟩
end Go.Sx
/- Chapter 21: equality of lists of records, of bases; picked numbers. -/
namespace Go.Sx
open Go Go.Proofs Go.RowKit
noncomputable def eqR (r s : Rc) : Bool := @decide (r = s) (Classical.propDecidable _)
noncomputable def eqLB (l m : List Rc) : Bool := @decide (l = m) (Classical.propDecidable _)
/-- A number, as an index. -/
def pickI21 (c n : Int) : Int := if c < 0 then (-(c + 1)) % n else c % n
theorem pickI21_lt (c : Int) {n : Int} (hn : 0 < n) : 0 ≤ pickI21 c n ∧ pickI21 c n < n := by
  unfold pickI21
  split
  · exact ⟨Int.emod_nonneg _ (by omega), Int.emod_lt_of_pos _ hn⟩
  · exact ⟨Int.emod_nonneg _ (by omega), Int.emod_lt_of_pos _ hn⟩
attribute [local irreducible] WC WL WX POp Then Again Fn NX W1 WA WO QL RP RA Yld LoopAt HC HL HX HN H1 HA HO HQ HB HP A.blk A.grow A.rd A.obj A.mp AgainH CutH
attribute [local irreducible] A.dfr A.loop
theorem pick20_fn (c n : Int) (h1 : -9223372036854775808 ≤ c) (h2 : c ≤ 9223372036854775807) (hn : 0 < n) (w : World) : Fn Tryz.prog 27 #[zv c, zv n] w fun v w' => v = zv (pickI21 c n) ∧ w = w' := by
  refine enter (l := [_, _]) rfl Tryz.ntmps27 rfl ?_
  by_cases h : c < 0
  · repeat' (first | apply WL.fold | apply WA.fold | apply WL.nil | apply WX.n_then | apply WC.seq | apply WC.region | refine WL.pa ?_ | refine WL.ga rfl ?_ | refine WL.na rfl ?_ | refine WL.nu rfl rfl ?_ | apply WC.block | apply WC.skip | apply WC.exit | apply WC.ret | apply WX.e_block | refine WX.e_other rfl ?_ | apply WX.e_then | apply WX.e_again | apply WX.n_block | apply WX.r_then | apply WX.r_block | apply WX.r_again | refine WC.cond_yes rfl ?_ | refine WC.cond_no rfl ?_ | refine WC.cond rfl (fun hc => ?_) (fun hc => ?_) | refine WC.cond_b rfl (fun hc => ?_) (fun hc => ?_))
    exact WX.ret1 rfl rfl ⟨by rw [pickI21, if_pos h], rfl⟩
  · repeat' (first | apply WL.fold | apply WA.fold | apply WL.nil | apply WX.n_then | apply WC.seq | apply WC.region | refine WL.pa ?_ | refine WL.ga rfl ?_ | refine WL.na rfl ?_ | refine WL.nu rfl rfl ?_ | apply WC.block | apply WC.skip | apply WC.exit | apply WC.ret | apply WX.e_block | refine WX.e_other rfl ?_ | apply WX.e_then | apply WX.e_again | apply WX.n_block | apply WX.r_then | apply WX.r_block | apply WX.r_again | refine WC.cond_yes rfl ?_ | refine WC.cond_no rfl ?_ | refine WC.cond rfl (fun hc => ?_) (fun hc => ?_) | refine WC.cond_b rfl (fun hc => ?_) (fun hc => ?_))
    exact WX.ret1 rfl rfl ⟨by rw [pickI21, if_neg h], rfl⟩
/-- Two bases are equal. -/
def EqB (A B : Nat → List Rc) : Prop := ∀ i, i < 8 → A i = B i
noncomputable def eqBB (A B : Nat → List Rc) : Bool := @decide (EqB A B) (Classical.propDecidable _)
end Go.Sx
/- Chapter 20's reference: Fields, Limits, Set. -/
namespace Go.Sx
open Go Go.Proofs Go.RowKit
theorem hwV2 {G G2 : Prop} (x : G2) (hwq : Hold G2 → G := by
    intro hQq
    repeat' (first | apply HL.fold | apply HA.fold | apply HL.nil | apply HX.n_then | apply HC.seq | apply HC.region | refine HL.pa ?_ | refine HL.ga rfl ?_ | refine HL.na rfl ?_ | refine HL.nu rfl rfl ?_ | apply HC.block | apply HC.skip | apply HC.exit | apply HC.ret | apply HX.e_block | refine HX.e_other rfl ?_ | apply HX.e_then | apply HX.e_again | apply HX.n_block | apply HX.r_then | apply HX.r_block | apply HX.r_again | refine HC.cond_yes rfl ?_ | refine HC.cond_no rfl ?_ | refine HL.one (H1.ldb rfl memA rfl rfl ?_) | refine HC.cond rfl (fun hc => ?_) (fun hc => ?_) | refine HC.cond_b rfl (fun hc => ?_) (fun hc => ?_))
    exact hQq.get) : G := hwq ⟨x⟩
def fldN (k : Int) : List Int := (specF k).map fun p => (p.1 : Int)
attribute [local irreducible] WC WL WX POp Then Again Fn NX W1 WA WO QL RP RA Yld LoopAt HC HL HX HN H1 HA HO HQ HB HP A.blk A.grow A.rd A.obj A.mp AgainH CutH
theorem Fields_fn (k : Int) (hk : 1 ≤ k ∧ k ≤ 8) (w : World) : Fn Tryz.prog 28 #[zv k] w fun v w' => ∃ b : Nat, True ∧ v = .slice (some ⟨b, 0, none⟩) (specF k).length (specF k).length ∧ Mm w [A.blk b (ints (fldN k)) 3] w' := by
  refine enterH (l := [_]) rfl Tryz.ntmps28 rfl ?_
  rcases (show k = 1 ∨ k = 2 ∨ k = 3 ∨ k = 4 ∨ k = 5 ∨ k = 6 ∨ k = 7 ∨ k = 8 by omega) with rfl | rfl | rfl | rfl | rfl | rfl | rfl | rfl
  · refine hwV2 ?_
    refine HL.one (H1.lit (cs := ints (fldN 1)) rfl rfl rfl rfl rfl rfl (fun b => ?_))
    refine hwV2 ?_
    exact HX.ret1 rfl rfl fun w' hM => ⟨b, trivial, rfl, hM⟩
  · refine hwV2 ?_
    refine HL.one (H1.lit (cs := ints (fldN 2)) rfl rfl rfl rfl rfl rfl (fun b => ?_))
    refine hwV2 ?_
    exact HX.ret1 rfl rfl fun w' hM => ⟨b, trivial, rfl, hM⟩
  · refine hwV2 ?_
    refine HL.one (H1.lit (cs := ints (fldN 3)) rfl rfl rfl rfl rfl rfl (fun b => ?_))
    refine hwV2 ?_
    exact HX.ret1 rfl rfl fun w' hM => ⟨b, trivial, rfl, hM⟩
  · refine hwV2 ?_
    refine HL.one (H1.lit (cs := ints (fldN 4)) rfl rfl rfl rfl rfl rfl (fun b => ?_))
    refine hwV2 ?_
    exact HX.ret1 rfl rfl fun w' hM => ⟨b, trivial, rfl, hM⟩
  · refine hwV2 ?_
    refine HL.one (H1.lit (cs := ints (fldN 5)) rfl rfl rfl rfl rfl rfl (fun b => ?_))
    refine hwV2 ?_
    exact HX.ret1 rfl rfl fun w' hM => ⟨b, trivial, rfl, hM⟩
  · refine hwV2 ?_
    refine HL.one (H1.lit (cs := ints (fldN 6)) rfl rfl rfl rfl rfl rfl (fun b => ?_))
    refine hwV2 ?_
    exact HX.ret1 rfl rfl fun w' hM => ⟨b, trivial, rfl, hM⟩
  · refine hwV2 ?_
    refine HL.one (H1.lit (cs := ints (fldN 7)) rfl rfl rfl rfl rfl rfl (fun b => ?_))
    refine hwV2 ?_
    exact HX.ret1 rfl rfl fun w' hM => ⟨b, trivial, rfl, hM⟩
  · refine hwV2 ?_
    refine HL.one (H1.lit (cs := ints (fldN 8)) rfl rfl rfl rfl rfl rfl (fun b => ?_))
    refine hwV2 ?_
    exact HX.ret1 rfl rfl fun w' hM => ⟨b, trivial, rfl, hM⟩
set_option maxHeartbeats 2000000 in
theorem Limits_fn (k : Int) (hk : 1 ≤ k ∧ k ≤ 8) (p : Nat × Int × Int) (hp : p ∈ specF k) (w : World) : Fn Tryz.prog 29 #[zv k, zv (p.1 : Int)] w fun v w' => v = .tuple #[zv p.2.1, zv p.2.2] ∧ Ext w w' := by
  refine enterH (l := [_, _]) rfl Tryz.ntmps29 rfl ?_
  rcases (show k = 1 ∨ k = 2 ∨ k = 3 ∨ k = 4 ∨ k = 5 ∨ k = 6 ∨ k = 7 ∨ k = 8 by omega) with rfl | rfl | rfl | rfl | rfl | rfl | rfl | rfl
  · change p ∈ [(0, (1 : Int), (1000000 : Int)), (1, 0, 100000), (2, 0, 100000), (4, 1, 1000000), (5, 1, 1000000)] at hp
    simp only [List.mem_cons, List.not_mem_nil, or_false] at hp
    rcases hp with rfl | rfl | rfl | rfl | rfl <;> ((refine hwV2 ?_); exact HX.ret2 rfl rfl rfl fun w' hM => ⟨rfl, hM.ext⟩)
  · change p ∈ [(7, (1 : Int), (1000000 : Int)), (1, 0, 100000), (2, 0, 100000), (3, 0, 1000000), (5, 0, 1000000), (6, 0, 1000000), (8, 0, 1), (9, 0, 1000000)] at hp
    simp only [List.mem_cons, List.not_mem_nil, or_false] at hp
    rcases hp with rfl | rfl | rfl | rfl | rfl | rfl | rfl | rfl <;> ((refine hwV2 ?_); exact HX.ret2 rfl rfl rfl fun w' hM => ⟨rfl, hM.ext⟩)
  · change p ∈ [(0, (1 : Int), (1000000 : Int)), (1, 0, 100000), (2, 0, 100000), (3, 1, 1000000), (6, 0, 1000000), (9, 1, 1000000)] at hp
    simp only [List.mem_cons, List.not_mem_nil, or_false] at hp
    rcases hp with rfl | rfl | rfl | rfl | rfl | rfl <;> ((refine hwV2 ?_); exact HX.ret2 rfl rfl rfl fun w' hM => ⟨rfl, hM.ext⟩)
  · change p ∈ [(0, (1 : Int), (1000000 : Int)), (1, 0, 100000), (2, 0, 100000), (3, 1, 1000000)] at hp
    simp only [List.mem_cons, List.not_mem_nil, or_false] at hp
    rcases hp with rfl | rfl | rfl | rfl <;> ((refine hwV2 ?_); exact HX.ret2 rfl rfl rfl fun w' hM => ⟨rfl, hM.ext⟩)
  · change p ∈ [(0, (1 : Int), (1000000 : Int)), (1, 0, 100000), (2, 0, 100000), (3, 0, 1000000)] at hp
    simp only [List.mem_cons, List.not_mem_nil, or_false] at hp
    rcases hp with rfl | rfl | rfl | rfl <;> ((refine hwV2 ?_); exact HX.ret2 rfl rfl rfl fun w' hM => ⟨rfl, hM.ext⟩)
  · change p ∈ [(9, (1 : Int), (1000000 : Int)), (1, 0, 100000)] at hp
    simp only [List.mem_cons, List.not_mem_nil, or_false] at hp
    rcases hp with rfl | rfl <;> ((refine hwV2 ?_); exact HX.ret2 rfl rfl rfl fun w' hM => ⟨rfl, hM.ext⟩)
  · change p ∈ [(0, (1 : Int), (1000000 : Int)), (1, 0, 100000), (2, 0, 100000), (3, 1, 1000000), (6, 0, 1000000), (7, 0, 63)] at hp
    simp only [List.mem_cons, List.not_mem_nil, or_false] at hp
    rcases hp with rfl | rfl | rfl | rfl | rfl | rfl <;> ((refine hwV2 ?_); exact HX.ret2 rfl rfl rfl fun w' hM => ⟨rfl, hM.ext⟩)
  · change p ∈ [(0, (1 : Int), (1000000 : Int)), (1, 0, 100000), (3, 1, 1000000), (7, 1, 1000000)] at hp
    simp only [List.mem_cons, List.not_mem_nil, or_false] at hp
    rcases hp with rfl | rfl | rfl | rfl <;> ((refine hwV2 ?_); exact HX.ret2 rfl rfl rfl fun w' hM => ⟨rfl, hM.ext⟩)
set_option maxHeartbeats 2000000 in
theorem Set_fn (r : Rc) (i : Nat) (hi : i < 10) (n : Int) (w : World) : Fn Tryz.prog 30 #[recV r, zv (i : Int), zv n] w fun v w' => v = recV (r.setF i n) ∧ Ext w w' := by
  refine enterH (l := [_, _, _]) rfl Tryz.ntmps30 rfl ?_
  refine hwV2 ?_
  refine HL.one (H1.boxAgg (cs := rcells r) rfl rfl (fun b3 => ?_))
  refine hwV2 ?_
  refine HL.one (H1.alloc (cs := rcells rcZ) rfl rfl (fun b6 => ?_))
  apply HL.fold
  rcases ten hi with rfl | rfl | rfl | rfl | rfl | rfl | rfl | rfl | rfl | rfl
  · refine hwV2 ?_
    refine HL.one (H1.st (b := b3) rfl rfl (by intro _ h; cases h) (by intro _ h; cases h) rplA (of_decide_eq_true rfl) ?_)
    refine hwV2 ?_
    refine HL.one (H1.ldAgg (vs := rcells (r.setF 0 n)) rfl memA rfl (fun i v hv => by simp only [Nat.zero_add]; exact hv) rfl ?_)
    refine hwV2 ?_
    refine HL.one (H1.stAgg (cs := rcells rcZ) (vs := rcells (r.setF 0 n)) rfl rfl rfl (rcells_one _) rplA rfl ?_)
    refine hwV2 ?_
    exact HX.retc1 (cs := rcells (r.setF 0 n)) rfl rfl memA rfl fun w' hM => ⟨rfl, hM.ext⟩
  · refine hwV2 ?_
    refine HL.one (H1.st (b := b3) rfl rfl (by intro _ h; cases h) (by intro _ h; cases h) rplA (of_decide_eq_true rfl) ?_)
    refine hwV2 ?_
    refine HL.one (H1.ldAgg (vs := rcells (r.setF 1 n)) rfl memA rfl (fun i v hv => by simp only [Nat.zero_add]; exact hv) rfl ?_)
    refine hwV2 ?_
    refine HL.one (H1.stAgg (cs := rcells rcZ) (vs := rcells (r.setF 1 n)) rfl rfl rfl (rcells_one _) rplA rfl ?_)
    refine hwV2 ?_
    exact HX.retc1 (cs := rcells (r.setF 1 n)) rfl rfl memA rfl fun w' hM => ⟨rfl, hM.ext⟩
  · refine hwV2 ?_
    refine HL.one (H1.st (b := b3) rfl rfl (by intro _ h; cases h) (by intro _ h; cases h) rplA (of_decide_eq_true rfl) ?_)
    refine hwV2 ?_
    refine HL.one (H1.ldAgg (vs := rcells (r.setF 2 n)) rfl memA rfl (fun i v hv => by simp only [Nat.zero_add]; exact hv) rfl ?_)
    refine hwV2 ?_
    refine HL.one (H1.stAgg (cs := rcells rcZ) (vs := rcells (r.setF 2 n)) rfl rfl rfl (rcells_one _) rplA rfl ?_)
    refine hwV2 ?_
    exact HX.retc1 (cs := rcells (r.setF 2 n)) rfl rfl memA rfl fun w' hM => ⟨rfl, hM.ext⟩
  · refine hwV2 ?_
    refine HL.one (H1.st (b := b3) rfl rfl (by intro _ h; cases h) (by intro _ h; cases h) rplA (of_decide_eq_true rfl) ?_)
    refine hwV2 ?_
    refine HL.one (H1.ldAgg (vs := rcells (r.setF 3 n)) rfl memA rfl (fun i v hv => by simp only [Nat.zero_add]; exact hv) rfl ?_)
    refine hwV2 ?_
    refine HL.one (H1.stAgg (cs := rcells rcZ) (vs := rcells (r.setF 3 n)) rfl rfl rfl (rcells_one _) rplA rfl ?_)
    refine hwV2 ?_
    exact HX.retc1 (cs := rcells (r.setF 3 n)) rfl rfl memA rfl fun w' hM => ⟨rfl, hM.ext⟩
  · refine hwV2 ?_
    refine HL.one (H1.st (b := b3) rfl rfl (by intro _ h; cases h) (by intro _ h; cases h) rplA (of_decide_eq_true rfl) ?_)
    refine hwV2 ?_
    refine HL.one (H1.ldAgg (vs := rcells (r.setF 4 n)) rfl memA rfl (fun i v hv => by simp only [Nat.zero_add]; exact hv) rfl ?_)
    refine hwV2 ?_
    refine HL.one (H1.stAgg (cs := rcells rcZ) (vs := rcells (r.setF 4 n)) rfl rfl rfl (rcells_one _) rplA rfl ?_)
    refine hwV2 ?_
    exact HX.retc1 (cs := rcells (r.setF 4 n)) rfl rfl memA rfl fun w' hM => ⟨rfl, hM.ext⟩
  · refine hwV2 ?_
    refine HL.one (H1.st (b := b3) rfl rfl (by intro _ h; cases h) (by intro _ h; cases h) rplA (of_decide_eq_true rfl) ?_)
    refine hwV2 ?_
    refine HL.one (H1.ldAgg (vs := rcells (r.setF 5 n)) rfl memA rfl (fun i v hv => by simp only [Nat.zero_add]; exact hv) rfl ?_)
    refine hwV2 ?_
    refine HL.one (H1.stAgg (cs := rcells rcZ) (vs := rcells (r.setF 5 n)) rfl rfl rfl (rcells_one _) rplA rfl ?_)
    refine hwV2 ?_
    exact HX.retc1 (cs := rcells (r.setF 5 n)) rfl rfl memA rfl fun w' hM => ⟨rfl, hM.ext⟩
  · refine hwV2 ?_
    refine HL.one (H1.st (b := b3) rfl rfl (by intro _ h; cases h) (by intro _ h; cases h) rplA (of_decide_eq_true rfl) ?_)
    refine hwV2 ?_
    refine HL.one (H1.ldAgg (vs := rcells (r.setF 6 n)) rfl memA rfl (fun i v hv => by simp only [Nat.zero_add]; exact hv) rfl ?_)
    refine hwV2 ?_
    refine HL.one (H1.stAgg (cs := rcells rcZ) (vs := rcells (r.setF 6 n)) rfl rfl rfl (rcells_one _) rplA rfl ?_)
    refine hwV2 ?_
    exact HX.retc1 (cs := rcells (r.setF 6 n)) rfl rfl memA rfl fun w' hM => ⟨rfl, hM.ext⟩
  · refine hwV2 ?_
    refine HL.one (H1.st (b := b3) rfl rfl (by intro _ h; cases h) (by intro _ h; cases h) rplA (of_decide_eq_true rfl) ?_)
    refine hwV2 ?_
    refine HL.one (H1.ldAgg (vs := rcells (r.setF 7 n)) rfl memA rfl (fun i v hv => by simp only [Nat.zero_add]; exact hv) rfl ?_)
    refine hwV2 ?_
    refine HL.one (H1.stAgg (cs := rcells rcZ) (vs := rcells (r.setF 7 n)) rfl rfl rfl (rcells_one _) rplA rfl ?_)
    refine hwV2 ?_
    exact HX.retc1 (cs := rcells (r.setF 7 n)) rfl rfl memA rfl fun w' hM => ⟨rfl, hM.ext⟩
  · refine hwV2 ?_
    refine HL.one (H1.st (b := b3) rfl rfl (by intro _ h; cases h) (by intro _ h; cases h) rplA (of_decide_eq_true rfl) ?_)
    refine hwV2 ?_
    refine HL.one (H1.ldAgg (vs := rcells (r.setF 8 n)) rfl memA rfl (fun i v hv => by simp only [Nat.zero_add]; exact hv) rfl ?_)
    refine hwV2 ?_
    refine HL.one (H1.stAgg (cs := rcells rcZ) (vs := rcells (r.setF 8 n)) rfl rfl rfl (rcells_one _) rplA rfl ?_)
    refine hwV2 ?_
    exact HX.retc1 (cs := rcells (r.setF 8 n)) rfl rfl memA rfl fun w' hM => ⟨rfl, hM.ext⟩
  · refine hwV2 ?_
    refine HL.one (H1.st (b := b3) rfl rfl (by intro _ h; cases h) (by intro _ h; cases h) rplA (of_decide_eq_true rfl) ?_)
    refine hwV2 ?_
    refine HL.one (H1.ldAgg (vs := rcells (r.setF 9 n)) rfl memA rfl (fun i v hv => by simp only [Nat.zero_add]; exact hv) rfl ?_)
    refine hwV2 ?_
    refine HL.one (H1.stAgg (cs := rcells rcZ) (vs := rcells (r.setF 9 n)) rfl rfl rfl (rcells_one _) rplA rfl ?_)
    refine hwV2 ?_
    exact HX.retc1 (cs := rcells (r.setF 9 n)) rfl rfl memA rfl fun w' hM => ⟨rfl, hM.ext⟩
end Go.Sx
/- Chapter 20's reference: Some: at most 30 valid records. -/
namespace Go.Sx
open Go Go.Proofs Go.RowKit
theorem hwV4 {G G2 : Prop} (x : G2) (hwq : Hold G2 → G := by
    intro hQq
    repeat' (first | apply HL.fold | apply HA.fold | apply HL.nil | apply HX.n_then | apply HC.seq | apply HC.region | refine HL.pa ?_ | refine HL.ga rfl ?_ | refine HL.na rfl ?_ | refine HL.nu rfl rfl ?_ | apply HC.block | apply HC.skip | apply HC.exit | apply HC.ret | apply HX.e_block | refine HX.e_other rfl ?_ | apply HX.e_then | apply HX.e_again | apply HX.n_block | apply HX.r_then | apply HX.r_block | apply HX.r_again | refine HC.cond_yes rfl ?_ | refine HC.cond_no rfl ?_ | refine HL.one (H1.ldb rfl memA rfl rfl ?_) | refine HC.cond rfl (fun hc => ?_) (fun hc => ?_) | refine HC.cond_b rfl (fun hc => ?_) (fun hc => ?_))
    exact hQq.get) : G := hwq ⟨x⟩
theorem hbV4 {G G2 : Prop} (x : G2) (hwq : Hold G2 → G := by
    intro hQq
    repeat' (first | apply HL.fold | apply HA.fold | apply HL.nil | apply HX.n_then | apply HC.seq | apply HC.region | refine HL.pa ?_ | refine HL.ga rfl ?_ | refine HL.na rfl ?_ | refine HL.nu rfl rfl ?_ | apply HC.skip | apply HC.exit | apply HC.ret | apply HX.e_block | refine HX.e_other rfl ?_ | apply HX.e_then | apply HX.e_again | apply HX.n_block | apply HX.r_then | apply HX.r_block | apply HX.r_again | refine HC.cond_yes rfl ?_ | refine HC.cond_no rfl ?_ | refine HL.one (H1.ldb rfl memA rfl rfl ?_) | refine HC.cond rfl (fun hc => ?_) (fun hc => ?_) | refine HC.cond_b rfl (fun hc => ?_) (fun hc => ?_))
    exact hQq.get) : G := hwq ⟨x⟩
theorem i64W.tdiv {x n : Int} (h : i64W x) (hn : 0 < n) : i64W (x.tdiv n) := tdiv_abs hn h.1 h.2
theorem i64W.shr {x : Int} (h : i64W x) (n : Nat) : i64W (x / 2 ^ n) := shr_abs n h.1 h.2
theorem spec_n {k : Int} {p : Nat × Int × Int} (hp : p ∈ specF k) : (p.1 = 0 → p.2.1 ≤ 1 ∧ 9 ≤ p.2.2) ∧ (p.1 = 1 → p.2.1 ≤ 0 ∧ 39 ≤ p.2.2) ∧ (p.1 = 2 → p.2.1 ≤ 0 ∧ 68 ≤ p.2.2) ∧ (p.1 = 8 → p.2.1 = 0 ∧ p.2.2 = 1) ∧ (p.1 ≠ 8 → p.2.1 + 3 ≤ p.2.2) := by
  unfold specF at hp
  repeat' split at hp
  all_goals (simp only [List.mem_cons, List.not_mem_nil, or_false] at hp)
  all_goals (first | (rcases hp with rfl | rfl | rfl | rfl | rfl | rfl | rfl | rfl <;> decide) | (rcases hp with rfl | rfl | rfl | rfl | rfl | rfl <;> decide) | (rcases hp with rfl | rfl | rfl | rfl | rfl <;> decide) | (rcases hp with rfl | rfl | rfl | rfl <;> decide) | (rcases hp with rfl | rfl <;> decide))
theorem spec_one {k : Int} {j : Nat} {p : Nat × Int × Int} (h : (specF k)[j]? = some p) (h1 : p.1 = 1) : 2 ∉ ((specF k).take j).map Prod.fst := by
  have hc : ∀ j, j < 8 → ((specF k).map Prod.fst)[j]? = some 1 → 2 ∉ ((specF k).map Prod.fst).take j := by
    unfold specF
    repeat' split
    all_goals decide
  have hj := (List.getElem?_eq_some_iff.1 h).1
  have hl := spec_len k
  rw [List.map_take]
  exact hc j (by omega) (by rw [List.getElem?_map, h, ← h1]; rfl)
theorem six {y : List Int} (h : y.length = 6) : ∃ y0 y1 y2 y3 y4 y5, y = [y0, y1, y2, y3, y4, y5] := by
  match y, h with
  | [a, b, c, d, e, f], _ => exact ⟨a, b, c, d, e, f, rfl⟩
theorem getter_no {L : List (Nat × Int × Int)} (hnd : (L.map Prod.fst).Nodup) {k : Nat} {p : Nat × Int × Int} (hp : L[k]? = some p) : p.1 ∉ (L.take k).map Prod.fst := by
  have h1 : (L.map Prod.fst)[k]? = some p.1 := by rw [List.getElem?_map, hp]; rfl
  have hlt := (List.getElem?_eq_some_iff.1 hp).1
  intro hm
  rw [List.map_take] at hm
  obtain ⟨i, hi, e⟩ := List.getElem_of_mem hm
  rw [List.length_take] at hi
  have h2 : (L.map Prod.fst)[i]? = some p.1 := by
    rw [List.getElem?_eq_getElem (by omega)]
    rw [List.getElem_take] at e
    rw [e]
  have := (List.getElem?_inj (by omega) hnd).1 (h2.trans h1.symm)
  omega
attribute [local irreducible] WC WL WX POp Then Again Fn NX W1 WA WO QL RP RA Yld LoopAt HC HL HX HN H1 HA HO HQ HB HP A.blk A.grow A.rd A.obj A.mp AgainH CutH
attribute [local irreducible] specF fldN
set_option maxHeartbeats 8000000 in
theorem Some_fn (v : Value) (rows : List (List Int)) (hrow : ∀ y ∈ rows, y.length = 6 ∧ ∀ z ∈ y, i64W z) (w : World) (hR : RdA 6 w v rows) :
    Fn Tryz.prog 10 #[v] w fun v w' => ∃ z : (Option Addr × Nat) × List Rc, (z.2.length ≤ 30 ∧ ∀ r ∈ z.2, SomeOk r) ∧ v = .slice z.1.1 z.2.length z.1.2 ∧ Mm w [A.grow 36 15 z.1.1 z.1.2 z.2.length (rcl z.2)] w' := by
  obtain ⟨a0, c0, rfl, -⟩ := hR.shape
  refine enterH (l := [_]) rfl Tryz.ntmps10 rfl ?_
  refine hwV4 ?_
  refine HC.grow0 36 15 ?_
  refine HC.loop (α := Nat × List Rc × Option Addr × Nat) (fun z => [(0, .slice a0 rows.length c0), (3, .slice z.2.2.1 z.2.1.length z.2.2.2), (4, zv (z.1 : Int))]) (fun z => [A.grow 36 15 z.2.2.1 z.2.2.2 z.2.1.length (rcl z.2.1)])
    (fun z => z.1 ≤ rows.length ∧ z.1 ≤ 30 ∧ z.2.1.length = z.1 ∧ ∀ r ∈ z.2.1, SomeOk r) (fun z => 30 - z.1) (0, [], none, 0) ⟨Nat.zero_le _, Nat.zero_le _, rfl, fun r h => by cases h⟩ esA (by repeat (first | exact Hs.nil _ | (refine Hs.cons pickA ?_))) ?_
  rintro ⟨i, l, a, c⟩ ⟨hi1, hi2, hll, hok⟩
  dsimp only at hi1 hi2 hll hok ⊢
  by_cases hlt : i < rows.length
  rotate_left
  · have h1 : ¬ (i : Int) < (rows.length : Int) := by omega
    refine hwV4 ?_
    exact HX.ret1 rfl rfl fun w' hM => ⟨((a, c), l), ⟨by show l.length ≤ 30; omega, hok⟩, rfl, hM⟩
  by_cases h30 : i < 30
  rotate_left
  · have h1 : (i : Int) < (rows.length : Int) := by omega
    have h2 : ¬ (i : Int) < 30 := by omega
    refine hwV4 ?_
    exact HX.ret1 rfl rfl fun w' hM => ⟨((a, c), l), ⟨by show l.length ≤ 30; omega, hok⟩, rfl, hM⟩
  have hsnoc : ∀ s, SomeOk s → ∀ r ∈ l ++ [s], SomeOk r := fun s hs r hr => by
    rcases List.mem_append.1 hr with hr | hr
    · exact hok r hr
    · obtain rfl := List.mem_singleton.1 hr; exact hs
  obtain ⟨y, hy⟩ : ∃ y, rows[i]? = some y := ⟨_, List.getElem?_eq_getElem hlt⟩
  have hy6 := hrow y (List.mem_of_getElem? hy)
  obtain ⟨b1, off, rfl, -, hcell⟩ := hR.at (fun e => by rw [e] at hlt; exact absurd hlt (Nat.not_lt_zero _))
  have hcl := hcell i y hy
  clear hcell hR
  obtain ⟨y0, y1, y2, y3, y4, y5, rfl⟩ := six hy6.1
  have w0 := hy6.2 y0 (by simp)
  have w1 := hy6.2 y1 (by simp)
  have w2 := hy6.2 y2 (by simp)
  have w3 := hy6.2 y3 (by simp)
  have w4 := hy6.2 y4 (by simp)
  have w5 := hy6.2 y5 (by simp)
  have h1 : (i : Int) < (rows.length : Int) := by omega
  have h2 : (i : Int) < 30 := by omega
  refine hwV4 ?_
  refine HL.one (H1.ldAggw (vs := ints [y0, y1, y2, y3, y4, y5]) rfl rfl (fun w' hM i v hv => cell_ext hM.ext (hcl i v hv)) rfl ?_)
  clear hcl hy hy6
  refine hwV4 ?_
  refine HL.one (H1.alloc (cs := ints [0, 0, 0, 0, 0, 0]) rfl rfl (fun b5 => ?_))
  refine hwV4 ?_
  refine HL.one (H1.stAgg (cs := ints [0, 0, 0, 0, 0, 0]) (vs := ints [y0, y1, y2, y3, y4, y5]) rfl rfl rfl (ints_one _) rplA rfl ?_)
  refine hwV4 ?_
  have q0 := pickI21_lt y0 (n := 8) (by decide)
  have q1 := pickI21_lt (y0.tdiv 8) (n := 3) (by decide)
  have q2 := pickI21_lt y1 (n := 30) (by decide)
  have u0 := w0.tdiv (n := 8) (by decide)
  have u1 := w1.tdiv (n := 30) (by decide)
  obtain ⟨r0, hr0⟩ : ∃ r0 : Rc, r0 = ⟨1 + pickI21 y0 8, 0, 1 + pickI21 (y0.tdiv 8) 3, pickI21 y1 30, decide (pickI21 (y1.tdiv 30) 7 = 0), 0, 0, 0, 0, 0, 0, 0, false, 0, ByteArray.mk #[]⟩ := ⟨_, rfl⟩
  have hS0 : SomeI [] r0 := by
    subst hr0
    refine ⟨?_, ?_, ?_, rfl, (fun p hp => by cases hp), (fun i hi _ => ?_), ⟨Int.le_refl _, of_decide_eq_true rfl⟩, (fun h => by cases h)⟩
    · show 1 ≤ 1 + pickI21 y0 8 ∧ 1 + pickI21 y0 8 ≤ 8; omega
    · show 1 ≤ 1 + pickI21 (y0.tdiv 8) 3 ∧ 1 + pickI21 (y0.tdiv 8) 3 ≤ 3; omega
    · show 0 ≤ pickI21 y1 30 ∧ pickI21 y1 30 ≤ 29; omega
    · rcases ten hi with rfl | rfl | rfl | rfl | rfl | rfl | rfl | rfl | rfl | rfl <;> rfl
  refine HC.cut (α := Nat) (fun b6 => [(0, .slice (some ⟨b1, off, none⟩) rows.length c0), (3, .slice a l.length c), (4, zv (i : Int)), (5, .pointer (some ⟨b5, 0, none⟩)), (6, .pointer (some ⟨b6, 0, none⟩))])
    (fun b6 => [A.blk b6 (rcells r0) 36, A.blk b5 (ints [y0, y1, y2, y3, y4, y5]) 82, A.grow 36 15 a c l.length (rcl l)]) (fun _ => True) ?_ ?_
  · refine HC.anyC ([(⟨b5, 0, none⟩, zv y0), (⟨b5, 1, none⟩, zv y1)]) rfl ?_
    refine HB.pa 0 rfl ?_
    refine HB.ld 1 rfl rfl memD ?_
    refine HB.pa 4 rfl ?_
    refine HB.ld 5 rfl rfl memD ?_
    refine HB.pa (v := zv (y0.tdiv 8)) 6 rfl ?_ (POp.quoT rfl rfl w0.1 w0.2 (by decide))
    refine HB.pa 9 rfl ?_
    refine HB.ld 10 rfl rfl memD ?_
    refine HB.pa 12 rfl ?_
    refine HB.ld 13 rfl rfl memD ?_
    refine HB.pa (v := zv (y1.tdiv 30)) 14 rfl ?_ (POp.quoT rfl rfl w1.1 w1.2 (by decide))
    refine HB.all (by repeat (first | exact Keep.nil | refine Keep.blk (by (repeat (first | exact List.Mem.head _ | apply List.Mem.tail)); done) rfl ?_ | refine Keep.grow (by (repeat (first | exact List.Mem.head _ | apply List.Mem.tail)); done) (by assumption) ?_ | refine Keep.base (by assumption) ?_)) [2, 18] (by kernel_rfl) rfl ⟨⟨_, rfl, ?_⟩, ⟨_, rfl, ?_⟩, trivial⟩
    · refine HP.one ?_
      refine H1.call0 (vs := [zv y0, zv 8]) rfl rfl (fun w' _ => pick20_fn y0 8 w0.1 w0.2 (by decide) w') ?_
      apply HB.fold
      refine HB.pa 3 rfl ?_
      refine HB.all (by repeat (first | exact Keep.nil | refine Keep.blk (by (repeat (first | exact List.Mem.head _ | apply List.Mem.tail)); done) rfl ?_ | refine Keep.grow (by (repeat (first | exact List.Mem.head _ | apply List.Mem.tail)); done) (by assumption) ?_ | refine Keep.base (by assumption) ?_)) [7, 18] (by kernel_rfl) rfl ⟨⟨_, rfl, ?_⟩, ⟨_, rfl, ?_⟩, trivial⟩
      · refine HP.one ?_
        refine H1.call0 (vs := [zv (y0.tdiv 8), zv 3]) rfl rfl (fun w' _ => pick20_fn (y0.tdiv 8) 3 u0.1 u0.2 (by decide) w') ?_
        apply HB.fold
        refine HB.pa 8 rfl ?_
        refine HB.all (by repeat (first | exact Keep.nil | refine Keep.blk (by (repeat (first | exact List.Mem.head _ | apply List.Mem.tail)); done) rfl ?_ | refine Keep.grow (by (repeat (first | exact List.Mem.head _ | apply List.Mem.tail)); done) (by assumption) ?_ | refine Keep.base (by assumption) ?_)) [11, 18] (by kernel_rfl) rfl ⟨⟨_, rfl, ?_⟩, ⟨_, rfl, ?_⟩, trivial⟩
        · refine HP.one ?_
          refine H1.call0 (vs := [zv y1, zv 30]) rfl rfl (fun w' _ => pick20_fn y1 30 w1.1 w1.2 (by decide) w') ?_
          apply HB.fold
          refine HB.all (by repeat (first | exact Keep.nil | refine Keep.blk (by (repeat (first | exact List.Mem.head _ | apply List.Mem.tail)); done) rfl ?_ | refine Keep.grow (by (repeat (first | exact List.Mem.head _ | apply List.Mem.tail)); done) (by assumption) ?_ | refine Keep.base (by assumption) ?_)) [15, 18] (by kernel_rfl) rfl ⟨⟨_, rfl, ?_⟩, ⟨_, rfl, ?_⟩, trivial⟩
          · refine HP.one ?_
            refine H1.call0 (vs := [zv (y1.tdiv 30), zv 7]) rfl rfl (fun w' _ => pick20_fn (y1.tdiv 30) 7 u1.1 u1.2 (by decide) w') ?_
            apply HB.fold
            refine HB.pa 16 rfl ?_
            refine HB.pa (v := recV r0) 17 rfl ?_ (by rw [hr0]; exact POp.build (cs := rcells ⟨1 + pickI21 y0 8, 0, 1 + pickI21 (y0.tdiv 8) 3, pickI21 y1 30, decide (pickI21 (y1.tdiv 30) 7 = 0), 0, 0, 0, 0, 0, 0, 0, false, 0, ByteArray.mk #[]⟩) rfl rfl)
            refine HB.all (by repeat (first | exact Keep.nil | refine Keep.blk (by (repeat (first | exact List.Mem.head _ | apply List.Mem.tail)); done) rfl ?_ | refine Keep.grow (by (repeat (first | exact List.Mem.head _ | apply List.Mem.tail)); done) (by assumption) ?_ | refine Keep.base (by assumption) ?_)) [18] (by kernel_rfl) rfl ⟨⟨_, rfl, ?_⟩, trivial⟩
            refine HP.one ?_
            refine H1.alloc (cs := rcells rcZ) rfl rfl (fun b6 => ?_)
            apply HB.fold
            refine HB.all (by repeat (first | exact Keep.nil | refine Keep.blk (by (repeat (first | exact List.Mem.head _ | apply List.Mem.tail)); done) rfl ?_ | refine Keep.grow (by (repeat (first | exact List.Mem.head _ | apply List.Mem.tail)); done) (by assumption) ?_ | refine Keep.base (by assumption) ?_)) [19] (by kernel_rfl) rfl ⟨⟨_, rfl, ?_⟩, trivial⟩
            refine HP.one ?_
            refine H1.stAgg (cs := rcells rcZ) (vs := rcells r0) rfl rfl rfl (rcells_one _) rplA rfl ?_
            apply HB.fold
            refine HB.done (by repeat (first | exact Keep.nil | refine Keep.blk (by (repeat (first | exact List.Mem.head _ | apply List.Mem.tail)); done) rfl ?_ | refine Keep.grow (by (repeat (first | exact List.Mem.head _ | apply List.Mem.tail)); done) (by assumption) ?_ | refine Keep.base (by assumption) ?_)) (by kernel_rfl) ?_
            exact HX.cut b6 trivial esA (by repeat (first | exact Hs.nil _ | (refine Hs.cons pickA ?_)))
          · refine HP.one ?_
            refine H1.alloc (cs := rcells rcZ) rfl rfl (fun b6 => ?_)
            apply HB.fold
            refine HB.all (by repeat (first | exact Keep.nil | refine Keep.blk (by (repeat (first | exact List.Mem.head _ | apply List.Mem.tail)); done) rfl ?_ | refine Keep.grow (by (repeat (first | exact List.Mem.head _ | apply List.Mem.tail)); done) (by assumption) ?_ | refine Keep.base (by assumption) ?_)) [15] (by kernel_rfl) rfl ⟨⟨_, rfl, ?_⟩, trivial⟩
            refine HP.one ?_
            refine H1.call0 (vs := [zv (y1.tdiv 30), zv 7]) rfl rfl (fun w' _ => pick20_fn (y1.tdiv 30) 7 u1.1 u1.2 (by decide) w') ?_
            apply HB.fold
            refine HB.pa 16 rfl ?_
            refine HB.pa (v := recV r0) 17 rfl ?_ (by rw [hr0]; exact POp.build (cs := rcells ⟨1 + pickI21 y0 8, 0, 1 + pickI21 (y0.tdiv 8) 3, pickI21 y1 30, decide (pickI21 (y1.tdiv 30) 7 = 0), 0, 0, 0, 0, 0, 0, 0, false, 0, ByteArray.mk #[]⟩) rfl rfl)
            refine HB.all (by repeat (first | exact Keep.nil | refine Keep.blk (by (repeat (first | exact List.Mem.head _ | apply List.Mem.tail)); done) rfl ?_ | refine Keep.grow (by (repeat (first | exact List.Mem.head _ | apply List.Mem.tail)); done) (by assumption) ?_ | refine Keep.base (by assumption) ?_)) [19] (by kernel_rfl) rfl ⟨⟨_, rfl, ?_⟩, trivial⟩
            refine HP.one ?_
            refine H1.stAgg (cs := rcells rcZ) (vs := rcells r0) rfl rfl rfl (rcells_one _) rplA rfl ?_
            apply HB.fold
            refine HB.done (by repeat (first | exact Keep.nil | refine Keep.blk (by (repeat (first | exact List.Mem.head _ | apply List.Mem.tail)); done) rfl ?_ | refine Keep.grow (by (repeat (first | exact List.Mem.head _ | apply List.Mem.tail)); done) (by assumption) ?_ | refine Keep.base (by assumption) ?_)) (by kernel_rfl) ?_
            exact HX.cut b6 trivial esA (by repeat (first | exact Hs.nil _ | (refine Hs.cons pickA ?_)))
        · refine HP.one ?_
          refine H1.alloc (cs := rcells rcZ) rfl rfl (fun b6 => ?_)
          apply HB.fold
          refine HB.all (by repeat (first | exact Keep.nil | refine Keep.blk (by (repeat (first | exact List.Mem.head _ | apply List.Mem.tail)); done) rfl ?_ | refine Keep.grow (by (repeat (first | exact List.Mem.head _ | apply List.Mem.tail)); done) (by assumption) ?_ | refine Keep.base (by assumption) ?_)) [11] (by kernel_rfl) rfl ⟨⟨_, rfl, ?_⟩, trivial⟩
          refine HP.one ?_
          refine H1.call0 (vs := [zv y1, zv 30]) rfl rfl (fun w' _ => pick20_fn y1 30 w1.1 w1.2 (by decide) w') ?_
          apply HB.fold
          refine HB.all (by repeat (first | exact Keep.nil | refine Keep.blk (by (repeat (first | exact List.Mem.head _ | apply List.Mem.tail)); done) rfl ?_ | refine Keep.grow (by (repeat (first | exact List.Mem.head _ | apply List.Mem.tail)); done) (by assumption) ?_ | refine Keep.base (by assumption) ?_)) [15] (by kernel_rfl) rfl ⟨⟨_, rfl, ?_⟩, trivial⟩
          refine HP.one ?_
          refine H1.call0 (vs := [zv (y1.tdiv 30), zv 7]) rfl rfl (fun w' _ => pick20_fn (y1.tdiv 30) 7 u1.1 u1.2 (by decide) w') ?_
          apply HB.fold
          refine HB.pa 16 rfl ?_
          refine HB.pa (v := recV r0) 17 rfl ?_ (by rw [hr0]; exact POp.build (cs := rcells ⟨1 + pickI21 y0 8, 0, 1 + pickI21 (y0.tdiv 8) 3, pickI21 y1 30, decide (pickI21 (y1.tdiv 30) 7 = 0), 0, 0, 0, 0, 0, 0, 0, false, 0, ByteArray.mk #[]⟩) rfl rfl)
          refine HB.all (by repeat (first | exact Keep.nil | refine Keep.blk (by (repeat (first | exact List.Mem.head _ | apply List.Mem.tail)); done) rfl ?_ | refine Keep.grow (by (repeat (first | exact List.Mem.head _ | apply List.Mem.tail)); done) (by assumption) ?_ | refine Keep.base (by assumption) ?_)) [19] (by kernel_rfl) rfl ⟨⟨_, rfl, ?_⟩, trivial⟩
          refine HP.one ?_
          refine H1.stAgg (cs := rcells rcZ) (vs := rcells r0) rfl rfl rfl (rcells_one _) rplA rfl ?_
          apply HB.fold
          refine HB.done (by repeat (first | exact Keep.nil | refine Keep.blk (by (repeat (first | exact List.Mem.head _ | apply List.Mem.tail)); done) rfl ?_ | refine Keep.grow (by (repeat (first | exact List.Mem.head _ | apply List.Mem.tail)); done) (by assumption) ?_ | refine Keep.base (by assumption) ?_)) (by kernel_rfl) ?_
          exact HX.cut b6 trivial esA (by repeat (first | exact Hs.nil _ | (refine Hs.cons pickA ?_)))
      · refine HP.one ?_
        refine H1.alloc (cs := rcells rcZ) rfl rfl (fun b6 => ?_)
        apply HB.fold
        refine HB.all (by repeat (first | exact Keep.nil | refine Keep.blk (by (repeat (first | exact List.Mem.head _ | apply List.Mem.tail)); done) rfl ?_ | refine Keep.grow (by (repeat (first | exact List.Mem.head _ | apply List.Mem.tail)); done) (by assumption) ?_ | refine Keep.base (by assumption) ?_)) [7] (by kernel_rfl) rfl ⟨⟨_, rfl, ?_⟩, trivial⟩
        refine HP.one ?_
        refine H1.call0 (vs := [zv (y0.tdiv 8), zv 3]) rfl rfl (fun w' _ => pick20_fn (y0.tdiv 8) 3 u0.1 u0.2 (by decide) w') ?_
        apply HB.fold
        refine HB.pa 8 rfl ?_
        refine HB.all (by repeat (first | exact Keep.nil | refine Keep.blk (by (repeat (first | exact List.Mem.head _ | apply List.Mem.tail)); done) rfl ?_ | refine Keep.grow (by (repeat (first | exact List.Mem.head _ | apply List.Mem.tail)); done) (by assumption) ?_ | refine Keep.base (by assumption) ?_)) [11] (by kernel_rfl) rfl ⟨⟨_, rfl, ?_⟩, trivial⟩
        refine HP.one ?_
        refine H1.call0 (vs := [zv y1, zv 30]) rfl rfl (fun w' _ => pick20_fn y1 30 w1.1 w1.2 (by decide) w') ?_
        apply HB.fold
        refine HB.all (by repeat (first | exact Keep.nil | refine Keep.blk (by (repeat (first | exact List.Mem.head _ | apply List.Mem.tail)); done) rfl ?_ | refine Keep.grow (by (repeat (first | exact List.Mem.head _ | apply List.Mem.tail)); done) (by assumption) ?_ | refine Keep.base (by assumption) ?_)) [15] (by kernel_rfl) rfl ⟨⟨_, rfl, ?_⟩, trivial⟩
        refine HP.one ?_
        refine H1.call0 (vs := [zv (y1.tdiv 30), zv 7]) rfl rfl (fun w' _ => pick20_fn (y1.tdiv 30) 7 u1.1 u1.2 (by decide) w') ?_
        apply HB.fold
        refine HB.pa 16 rfl ?_
        refine HB.pa (v := recV r0) 17 rfl ?_ (by rw [hr0]; exact POp.build (cs := rcells ⟨1 + pickI21 y0 8, 0, 1 + pickI21 (y0.tdiv 8) 3, pickI21 y1 30, decide (pickI21 (y1.tdiv 30) 7 = 0), 0, 0, 0, 0, 0, 0, 0, false, 0, ByteArray.mk #[]⟩) rfl rfl)
        refine HB.all (by repeat (first | exact Keep.nil | refine Keep.blk (by (repeat (first | exact List.Mem.head _ | apply List.Mem.tail)); done) rfl ?_ | refine Keep.grow (by (repeat (first | exact List.Mem.head _ | apply List.Mem.tail)); done) (by assumption) ?_ | refine Keep.base (by assumption) ?_)) [19] (by kernel_rfl) rfl ⟨⟨_, rfl, ?_⟩, trivial⟩
        refine HP.one ?_
        refine H1.stAgg (cs := rcells rcZ) (vs := rcells r0) rfl rfl rfl (rcells_one _) rplA rfl ?_
        apply HB.fold
        refine HB.done (by repeat (first | exact Keep.nil | refine Keep.blk (by (repeat (first | exact List.Mem.head _ | apply List.Mem.tail)); done) rfl ?_ | refine Keep.grow (by (repeat (first | exact List.Mem.head _ | apply List.Mem.tail)); done) (by assumption) ?_ | refine Keep.base (by assumption) ?_)) (by kernel_rfl) ?_
        exact HX.cut b6 trivial esA (by repeat (first | exact Hs.nil _ | (refine Hs.cons pickA ?_)))
    · refine HP.one ?_
      refine H1.alloc (cs := rcells rcZ) rfl rfl (fun b6 => ?_)
      apply HB.fold
      refine HB.all (by repeat (first | exact Keep.nil | refine Keep.blk (by (repeat (first | exact List.Mem.head _ | apply List.Mem.tail)); done) rfl ?_ | refine Keep.grow (by (repeat (first | exact List.Mem.head _ | apply List.Mem.tail)); done) (by assumption) ?_ | refine Keep.base (by assumption) ?_)) [2] (by kernel_rfl) rfl ⟨⟨_, rfl, ?_⟩, trivial⟩
      refine HP.one ?_
      refine H1.call0 (vs := [zv y0, zv 8]) rfl rfl (fun w' _ => pick20_fn y0 8 w0.1 w0.2 (by decide) w') ?_
      apply HB.fold
      refine HB.pa 3 rfl ?_
      refine HB.all (by repeat (first | exact Keep.nil | refine Keep.blk (by (repeat (first | exact List.Mem.head _ | apply List.Mem.tail)); done) rfl ?_ | refine Keep.grow (by (repeat (first | exact List.Mem.head _ | apply List.Mem.tail)); done) (by assumption) ?_ | refine Keep.base (by assumption) ?_)) [7] (by kernel_rfl) rfl ⟨⟨_, rfl, ?_⟩, trivial⟩
      refine HP.one ?_
      refine H1.call0 (vs := [zv (y0.tdiv 8), zv 3]) rfl rfl (fun w' _ => pick20_fn (y0.tdiv 8) 3 u0.1 u0.2 (by decide) w') ?_
      apply HB.fold
      refine HB.pa 8 rfl ?_
      refine HB.all (by repeat (first | exact Keep.nil | refine Keep.blk (by (repeat (first | exact List.Mem.head _ | apply List.Mem.tail)); done) rfl ?_ | refine Keep.grow (by (repeat (first | exact List.Mem.head _ | apply List.Mem.tail)); done) (by assumption) ?_ | refine Keep.base (by assumption) ?_)) [11] (by kernel_rfl) rfl ⟨⟨_, rfl, ?_⟩, trivial⟩
      refine HP.one ?_
      refine H1.call0 (vs := [zv y1, zv 30]) rfl rfl (fun w' _ => pick20_fn y1 30 w1.1 w1.2 (by decide) w') ?_
      apply HB.fold
      refine HB.all (by repeat (first | exact Keep.nil | refine Keep.blk (by (repeat (first | exact List.Mem.head _ | apply List.Mem.tail)); done) rfl ?_ | refine Keep.grow (by (repeat (first | exact List.Mem.head _ | apply List.Mem.tail)); done) (by assumption) ?_ | refine Keep.base (by assumption) ?_)) [15] (by kernel_rfl) rfl ⟨⟨_, rfl, ?_⟩, trivial⟩
      refine HP.one ?_
      refine H1.call0 (vs := [zv (y1.tdiv 30), zv 7]) rfl rfl (fun w' _ => pick20_fn (y1.tdiv 30) 7 u1.1 u1.2 (by decide) w') ?_
      apply HB.fold
      refine HB.pa 16 rfl ?_
      refine HB.pa (v := recV r0) 17 rfl ?_ (by rw [hr0]; exact POp.build (cs := rcells ⟨1 + pickI21 y0 8, 0, 1 + pickI21 (y0.tdiv 8) 3, pickI21 y1 30, decide (pickI21 (y1.tdiv 30) 7 = 0), 0, 0, 0, 0, 0, 0, 0, false, 0, ByteArray.mk #[]⟩) rfl rfl)
      refine HB.all (by repeat (first | exact Keep.nil | refine Keep.blk (by (repeat (first | exact List.Mem.head _ | apply List.Mem.tail)); done) rfl ?_ | refine Keep.grow (by (repeat (first | exact List.Mem.head _ | apply List.Mem.tail)); done) (by assumption) ?_ | refine Keep.base (by assumption) ?_)) [19] (by kernel_rfl) rfl ⟨⟨_, rfl, ?_⟩, trivial⟩
      refine HP.one ?_
      refine H1.stAgg (cs := rcells rcZ) (vs := rcells r0) rfl rfl rfl (rcells_one _) rplA rfl ?_
      apply HB.fold
      refine HB.done (by repeat (first | exact Keep.nil | refine Keep.blk (by (repeat (first | exact List.Mem.head _ | apply List.Mem.tail)); done) rfl ?_ | refine Keep.grow (by (repeat (first | exact List.Mem.head _ | apply List.Mem.tail)); done) (by assumption) ?_ | refine Keep.base (by assumption) ?_)) (by kernel_rfl) ?_
      exact HX.cut b6 trivial esA (by repeat (first | exact Hs.nil _ | (refine Hs.cons pickA ?_)))
  rintro b6 -
  clear hr0 q0 q1 q2 u0 u1
  refine hwV4 ?_
  refine HL.one (H1.callz1 (α := Nat) (V := fun b => .slice (some ⟨b, 0, none⟩) (specF r0.kind).length (specF r0.kind).length) (An := fun b => A.blk b (ints (fldN r0.kind)) 3) (I := fun _ => True) (vs := [zv r0.kind]) rfl rfl (fun w' _ => Fields_fn r0.kind hS0.kind w') ?_)
  rintro bf -
  have hK := hS0.kind
  obtain ⟨K, hKe⟩ : ∃ K, K = r0.kind := ⟨_, rfl⟩
  rw [← hKe] at hK ⊢
  unfold fldN
  obtain ⟨L, hL⟩ : ∃ L, L = specF K := ⟨_, rfl⟩
  rw [← hL]
  have hnd : (L.map Prod.fst).Nodup := by rw [hL]; exact spec_nodup K
  have hL8 : L.length ≤ 8 := by rw [hL]; exact spec_len K
  refine hwV4 ?_
  refine HC.loop (α := Nat × Rc) (fun z => [(0, .slice (some ⟨b1, off, none⟩) rows.length c0), (3, .slice a l.length c), (4, zv (i : Int)), (5, .pointer (some ⟨b5, 0, none⟩)), (6, .pointer (some ⟨b6, 0, none⟩)), (7, .slice (some ⟨bf, 0, none⟩) L.length L.length), (8, zv (z.1 : Int))])
    (fun z => [A.blk b6 (rcells z.2) 36, A.blk bf (ints (L.map fun p => (p.1 : Int))) 3, A.blk b5 (ints [y0, y1, y2, y3, y4, y5]) 82, A.grow 36 15 a c l.length (rcl l)])
    (fun z => z.1 ≤ L.length ∧ z.2.kind = K ∧ SomeI (L.take z.1) z.2) (fun z => L.length - z.1) (0, r0) ⟨Nat.zero_le _, hKe.symm, by rw [List.take_zero]; exact hS0⟩ esA (by repeat (first | exact Hs.nil _ | (refine Hs.cons pickA ?_))) ?_
  clear hKe hS0 r0
  rintro ⟨k, r⟩ ⟨hk, hrk, hS⟩
  dsimp only at hk hrk hS ⊢
  by_cases hkl : k < L.length
  · obtain ⟨p, hp⟩ : ∃ p, L[k]? = some p := ⟨_, List.getElem?_eq_getElem hkl⟩
    have hpm : p ∈ specF K := hL ▸ List.mem_of_getElem? hp
    have htk : L.take (k + 1) = L.take k ++ [p] := by rw [List.take_add_one, hp]; rfl
    have hno := getter_no hnd hp
    have hone : p.1 = 1 → 2 ∉ (L.take k).map Prod.fst := fun e => by
      have := spec_one (k := K) (j := k) (p := p) (by rw [← hL]; exact hp) e
      rwa [← hL] at this
    have hp10 := (spec_lo hpm).2
    have hsn := spec_n hpm
    have hl10 : ∀ q ∈ L.take k, q.1 < 10 := fun q hq => (spec_lo (hL ▸ List.mem_of_mem_take hq)).2
    have hstep := fun (n : Int) a1 a2 a3 a4 => hS.step (p := p) hp10 hno (n := n) a1 a2 a3 a4 hl10
    rw [← htk] at hstep
    have hlim := fun w' => Limits_fn K hK p hpm w'
    have hget : (ints (L.map fun p => (p.1 : Int)))[k]? = some (zv (p.1 : Int)) := by
      unfold ints
      rw [List.map_map, List.getElem?_map, hp]; rfl
    have hlo := (spec_lo hpm).1
    have hhi := spec_hi hpm
    obtain ⟨q, lo, hi⟩ := p
    dsimp only at hp10 hsn hstep hlim hget hlo hhi hone
    have hst := hS.start
    have hkb : (k : Int) < 8 := by omega
    refine hwV4 ?_
    refine HC.cut (α := Unit) (fun _ => [(0, .slice (some ⟨b1, off, none⟩) rows.length c0), (3, .slice a l.length c), (4, zv (i : Int)), (5, .pointer (some ⟨b5, 0, none⟩)), (6, .pointer (some ⟨b6, 0, none⟩)), (7, .slice (some ⟨bf, 0, none⟩) L.length L.length), (8, zv (k : Int)), (9, zv lo)]) (fun _ => [A.blk b6 (rcells r) 36, A.blk bf (ints (L.map fun p => (p.1 : Int))) 3, A.blk b5 (ints [y0, y1, y2, y3, y4, y5]) 82, A.grow 36 15 a c l.length (rcl l)]) (fun _ => True) ?_ ?_
    · refine HC.any rfl ?_
      refine HA.pa 0 rfl ?_
      refine HA.pa 2 rfl ?_
      refine HA.pa 3 rfl ?_
      refine HA.pa 4 rfl ?_
      refine HA.all [1, 5] (by kernel_rfl) rfl ⟨⟨_, rfl, ?_⟩, ⟨_, rfl, ?_⟩, trivial⟩
      · refine HO.one ?_
        refine H1.ldb (v := zv K) (cs := rcells r) rfl memA (by rw [← hrk]; rfl) rfl ?_
        apply HA.fold
        refine HA.all [5] (by kernel_rfl) rfl ⟨⟨_, rfl, ?_⟩, trivial⟩
        refine HO.one ?_
        refine H1.ldb (v := zv (q : Int)) (cs := ints (L.map fun p => (p.1 : Int))) rfl memA hget rfl ?_
        apply HA.fold
        refine HA.all [6] (by kernel_rfl) rfl ⟨⟨_, rfl, ?_⟩, trivial⟩
        refine HO.one ?_
        refine H1.callx (vs := [zv K, zv (q : Int)]) rfl rfl (fun w' _ => hlim w') ?_
        apply HA.fold
        refine HA.pa 7 rfl ?_
        refine HA.pa 8 rfl ?_
        refine HA.pa 9 rfl ?_
        refine HA.pa 10 rfl ?_
        refine HA.pa 11 rfl ?_
        refine HA.done (by kernel_rfl) ?_
        exact HX.cut () trivial esA (by repeat (first | exact Hs.nil _ | (refine Hs.cons pickA ?_)))
      · refine HO.one ?_
        refine H1.ldb (v := zv (q : Int)) (cs := ints (L.map fun p => (p.1 : Int))) rfl memA hget rfl ?_
        apply HA.fold
        refine HA.all [1] (by kernel_rfl) rfl ⟨⟨_, rfl, ?_⟩, trivial⟩
        refine HO.one ?_
        refine H1.ldb (v := zv K) (cs := rcells r) rfl memA (by rw [← hrk]; rfl) rfl ?_
        apply HA.fold
        refine HA.all [6] (by kernel_rfl) rfl ⟨⟨_, rfl, ?_⟩, trivial⟩
        refine HO.one ?_
        refine H1.callx (vs := [zv K, zv (q : Int)]) rfl rfl (fun w' _ => hlim w') ?_
        apply HA.fold
        refine HA.pa 7 rfl ?_
        refine HA.pa 8 rfl ?_
        refine HA.pa 9 rfl ?_
        refine HA.pa 10 rfl ?_
        refine HA.pa 11 rfl ?_
        refine HA.done (by kernel_rfl) ?_
        exact HX.cut () trivial esA (by repeat (first | exact Hs.nil _ | (refine Hs.cons pickA ?_)))
    rintro - -
    refine hbV4 ?_
    refine HL.pa ?_ (POp.shrI (b := 2 * k) rfl rfl (by push_cast; rfl) (by omega))
    have v2 := w2.shr (2 * k)
    generalize y2 / 2 ^ (2 * k) = s2 at v2 ⊢
    refine hbV4 ?_
    refine HL.one (H1.call0 (vs := [zv s2, zv 4]) rfl rfl (fun w' _ => pick20_fn s2 4 v2.1 v2.2 (by decide) w') ?_)
    have qq := pickI21_lt s2 (n := 4) (by decide)
    generalize pickI21 s2 4 = g at qq ⊢
    refine hbV4 ?_
    refine HL.one (H1.ldb (v := zv (q : Int)) (cs := ints (L.map fun p => (p.1 : Int))) rfl memA hget rfl ?_)
    refine hbV4 ?_
    refine HC.cut (α := Int) (fun n => [(0, .slice (some ⟨b1, off, none⟩) rows.length c0), (3, .slice a l.length c), (4, zv (i : Int)), (5, .pointer (some ⟨b5, 0, none⟩)), (6, .pointer (some ⟨b6, 0, none⟩)), (7, .slice (some ⟨bf, 0, none⟩) L.length L.length), (8, zv (k : Int)), (11, zv n)]) (fun _ => [A.blk b6 (rcells r) 36, A.blk bf (ints (L.map fun p => (p.1 : Int))) 3, A.blk b5 (ints [y0, y1, y2, y3, y4, y5]) 82, A.grow 36 15 a c l.length (rcl l)]) (fun n => (lo ≤ n ∧ n ≤ hi) ∧ (q = 8 → n = 0 ∨ n = 1) ∧ (q = 1 → (0 ≤ n ∧ n ≤ 39) ∧ 2 ∉ (L.take k).map Prod.fst) ∧ (q = 2 → r.start ≤ n)) ?_ ?_
    · by_cases e0 : q = 0
      · have e0' : (q : Int) = 0 := by omega
        refine hwV4 ?_
        refine HL.one (H1.call0 (vs := [zv y3, zv 9]) rfl rfl (fun w' _ => pick20_fn y3 9 w3.1 w3.2 (by decide) w') ?_)
        have qn := pickI21_lt y3 (n := 9) (by decide)
        generalize pickI21 y3 9 = n0 at qn ⊢
        refine hwV4 ?_
        exact HX.cut (1 + n0) ⟨⟨by have := (hsn.1 e0).1; omega, by have := (hsn.1 e0).2; omega⟩, by omega, by omega, by omega⟩ esA (by repeat (first | exact Hs.nil _ | (refine Hs.cons pickA ?_)))
      have e0' : ¬ (q : Int) = 0 := by omega
      by_cases e1 : q = 1
      · have e1' : (q : Int) = 1 := by omega
        refine hwV4 ?_
        refine HL.one (H1.call0 (vs := [zv y4, zv 40]) rfl rfl (fun w' _ => pick20_fn y4 40 w4.1 w4.2 (by decide) w') ?_)
        have qn := pickI21_lt y4 (n := 40) (by decide)
        generalize pickI21 y4 40 = n0 at qn ⊢
        refine hwV4 ?_
        exact HX.cut n0 ⟨⟨by have := (hsn.2.1 e1).1; omega, by have := (hsn.2.1 e1).2; omega⟩, by omega, fun _ => ⟨by omega, hone e1⟩, by omega⟩ esA (by repeat (first | exact Hs.nil _ | (refine Hs.cons pickA ?_)))
      have e1' : ¬ (q : Int) = 1 := by omega
      by_cases e2 : q = 2
      · have e2' : (q : Int) = 2 := by omega
        have qn := pickI21_lt y5 (n := 30) (by decide)
        refine hwV4 ?_
        refine HC.anyC ([(⟨b6, 5, none⟩, zv r.start), (⟨b5, 5, none⟩, zv y5)]) rfl ?_
        refine HB.pa 0 rfl ?_
        refine HB.ld 1 rfl rfl memD ?_
        refine HB.pa 2 rfl ?_
        refine HB.ld 3 rfl rfl memD ?_
        refine HB.all (by repeat (first | exact Keep.nil | refine Keep.blk (by (repeat (first | exact List.Mem.head _ | apply List.Mem.tail)); done) rfl ?_ | refine Keep.grow (by (repeat (first | exact List.Mem.head _ | apply List.Mem.tail)); done) (by assumption) ?_ | refine Keep.base (by assumption) ?_)) [4] (by kernel_rfl) rfl ⟨⟨_, rfl, ?_⟩, trivial⟩
        refine HP.one ?_
        refine H1.call0 (vs := [zv y5, zv 30]) rfl rfl (fun w' _ => pick20_fn y5 30 w5.1 w5.2 (by decide) w') ?_
        apply HB.fold
        refine HB.pa 5 rfl ?_
        refine HB.pa 6 rfl ?_
        refine HB.done (by repeat (first | exact Keep.nil | refine Keep.blk (by (repeat (first | exact List.Mem.head _ | apply List.Mem.tail)); done) rfl ?_ | refine Keep.grow (by (repeat (first | exact List.Mem.head _ | apply List.Mem.tail)); done) (by assumption) ?_ | refine Keep.base (by assumption) ?_)) (by kernel_rfl) ?_
        refine hwV4 ?_
        exact HX.cut (r.start + pickI21 y5 30) ⟨⟨by have := (hsn.2.2.1 e2).1; omega, by have := (hsn.2.2.1 e2).2; omega⟩, by omega, by omega, by omega⟩ esA (by repeat (first | exact Hs.nil _ | (refine Hs.cons pickA ?_)))
      have e2' : ¬ (q : Int) = 2 := by omega
      by_cases e8 : q = 8
      · have e8' : (q : Int) = 8 := by omega
        have u5 := w5.tdiv (n := 30) (by decide)
        refine hwV4 ?_
        refine HL.pa ?_ (POp.quoT rfl rfl w5.1 w5.2 (by decide))
        refine hwV4 ?_
        refine HL.one (H1.call0 (vs := [zv (y5.tdiv 30), zv 2]) rfl rfl (fun w' _ => pick20_fn (y5.tdiv 30) 2 u5.1 u5.2 (by decide) w') ?_)
        have qn := pickI21_lt (y5.tdiv 30) (n := 2) (by decide)
        generalize pickI21 (y5.tdiv 30) 2 = n0 at qn ⊢
        refine hwV4 ?_
        exact HX.cut n0 ⟨⟨by have := (hsn.2.2.2.1 e8).1; omega, by have := (hsn.2.2.2.1 e8).2; omega⟩, by omega, by omega, by omega⟩ esA (by repeat (first | exact Hs.nil _ | (refine Hs.cons pickA ?_)))
      have e8' : ¬ (q : Int) = 8 := by omega
      refine hwV4 ?_
      exact HX.cut (lo + g) ⟨⟨by omega, by have := hsn.2.2.2.2 e8; omega⟩, by omega, by omega, by omega⟩ esA (by repeat (first | exact Hs.nil _ | (refine Hs.cons pickA ?_)))
    rintro n ⟨n1, n2, n3, n4⟩
    have hS' := hstep n n1 n2 n3 n4
    have hk' : (r.setF q n).kind = K := by rw [(setF_same r q n).1]; exact hrk
    refine hwV4 ?_
    refine HC.any rfl ?_
    refine HA.pa 1 rfl ?_
    refine HA.pa 2 rfl ?_
    refine HA.pa 3 rfl ?_
    refine HA.pa 5 rfl ?_
    refine HA.all [0, 4] (by kernel_rfl) rfl ⟨⟨_, rfl, ?_⟩, ⟨_, rfl, ?_⟩, trivial⟩
    · refine HO.one ?_
      refine H1.ldAgg (vs := rcells r) rfl memA rfl (fun i v hv => by simp only [Nat.zero_add]; exact hv) rfl ?_
      apply HA.fold
      refine HA.all [4] (by kernel_rfl) rfl ⟨⟨_, rfl, ?_⟩, trivial⟩
      refine HO.one ?_
      refine H1.ldb (v := zv (q : Int)) (cs := ints (L.map fun p => (p.1 : Int))) rfl memA hget rfl ?_
      apply HA.fold
      refine HA.all [6] (by kernel_rfl) rfl ⟨⟨_, rfl, ?_⟩, trivial⟩
      refine HO.one ?_
      refine H1.callx (vs := [recV r, zv (q : Int), zv n]) rfl rfl (fun w' _ => Set_fn r q hp10 n w') ?_
      apply HA.fold
      refine HA.all [7] (by kernel_rfl) rfl ⟨⟨_, rfl, ?_⟩, trivial⟩
      refine HO.one ?_
      refine H1.stAgg (cs := rcells r) (vs := rcells (r.setF q n)) rfl rfl rfl (rcells_one _) rplA rfl ?_
      apply HA.fold
      refine HA.done (by kernel_rfl) ?_
      refine hwV4 ?_
      exact HX.again (k + 1, r.setF q n) ⟨hkl, hk', hS'⟩ (by show L.length - (k + 1) < L.length - k; omega) esA (by repeat (first | exact Hs.nil _ | (refine Hs.cons pickA ?_)))
    · refine HO.one ?_
      refine H1.ldb (v := zv (q : Int)) (cs := ints (L.map fun p => (p.1 : Int))) rfl memA hget rfl ?_
      apply HA.fold
      refine HA.all [0] (by kernel_rfl) rfl ⟨⟨_, rfl, ?_⟩, trivial⟩
      refine HO.one ?_
      refine H1.ldAgg (vs := rcells r) rfl memA rfl (fun i v hv => by simp only [Nat.zero_add]; exact hv) rfl ?_
      apply HA.fold
      refine HA.all [6] (by kernel_rfl) rfl ⟨⟨_, rfl, ?_⟩, trivial⟩
      refine HO.one ?_
      refine H1.callx (vs := [recV r, zv (q : Int), zv n]) rfl rfl (fun w' _ => Set_fn r q hp10 n w') ?_
      apply HA.fold
      refine HA.all [7] (by kernel_rfl) rfl ⟨⟨_, rfl, ?_⟩, trivial⟩
      refine HO.one ?_
      refine H1.stAgg (cs := rcells r) (vs := rcells (r.setF q n)) rfl rfl rfl (rcells_one _) rplA rfl ?_
      apply HA.fold
      refine HA.done (by kernel_rfl) ?_
      refine hwV4 ?_
      exact HX.again (k + 1, r.setF q n) ⟨hkl, hk', hS'⟩ (by show L.length - (k + 1) < L.length - k; omega) esA (by repeat (first | exact Hs.nil _ | (refine Hs.cons pickA ?_)))
  obtain rfl : k = L.length := by omega
  rw [List.take_length] at hS
  have hS9 : SomeI (specF r.kind) r := by rw [hrk, ← hL]; exact hS
  clear hS hrk hk hkl hnd hL8 hL
  by_cases c2 : r.kind = 2
  · by_cases c3 : r.clause = r.party
    · refine hwV4 ?_
      refine HL.one (H1.st (b := b6) rfl rfl (by intro _ h; cases h) (by intro _ h; cases h) rplA (of_decide_eq_true rfl) ?_)
      refine hwV4 ?_
      refine HL.one (H1.ldAgg (vs := rcells (r.setF 9 0)) rfl memA rfl (fun i v hv => by simp only [Nat.zero_add]; exact hv) rfl ?_)
      refine hwV4 ?_
      refine HL.one (H1.lit (cs := rcells (r.setF 9 0)) rfl rfl rfl rfl rfl rfl (fun b8 => ?_))
      refine hwV4 ?_
      refine HL.one (H1.app (e := 36) (sz := 15) (m := 1) (n := l.length) (a := a) (c := c) (xs := rcl l) (news := rcells (r.setF 9 0)) rfl (by decide) rfl rfl (fun a' c' => by first | ((repeat (first | with_reducible exact Rpl.here | with_reducible apply Rpl.there)); done) | (repeat (first | exact Rpl.here | apply Rpl.there))) rfl (fun w hM j u hu => by rw [add_lit, Nat.zero_add]; exact (hM.blk memA).cell hu) (rcells_one _) (by omega) (by decide) rfl (fun a' c' _ => ?_))
      refine hwV4 ?_
      exact HX.again (i + 1, l ++ [(r.setF 9 0)], a', c') ⟨by show i + 1 ≤ rows.length; omega, by show i + 1 ≤ 30; omega, by show (l ++ [(r.setF 9 0)]).length = i + 1; rw [List.length_append, hll]; rfl, hsnoc (r.setF 9 0) (hS9.done2 c2)⟩ (by show 30 - (i + 1) < 30 - i; omega) (by show Env.sub _ [(0, .slice (some ⟨b1, off, none⟩) rows.length c0), (3, .slice a' (l ++ [(r.setF 9 0)]).length c'), (4, zv ((i + 1 : Nat) : Int))]; rw [List.length_append]; repeat (first | exact trivial | refine ⟨rfl, ?_⟩)) (by show Hs _ [A.grow 36 15 a' c' (l ++ [(r.setF 9 0)]).length (rcl (l ++ [(r.setF 9 0)]))]; rw [List.length_append, rcl_app, show rcl [(r.setF 9 0)] = rcells (r.setF 9 0) from List.append_nil _]; repeat (first | exact Hs.nil _ | (refine Hs.cons pickA ?_)))
    · refine hwV4 ?_
      refine HL.one (H1.ldAgg (vs := rcells r) rfl memA rfl (fun i v hv => by simp only [Nat.zero_add]; exact hv) rfl ?_)
      refine hwV4 ?_
      refine HL.one (H1.lit (cs := rcells r) rfl rfl rfl rfl rfl rfl (fun b8 => ?_))
      refine hwV4 ?_
      refine HL.one (H1.app (e := 36) (sz := 15) (m := 1) (n := l.length) (a := a) (c := c) (xs := rcl l) (news := rcells r) rfl (by decide) rfl rfl (fun a' c' => by first | ((repeat (first | with_reducible exact Rpl.here | with_reducible apply Rpl.there)); done) | (repeat (first | exact Rpl.here | apply Rpl.there))) rfl (fun w hM j u hu => by rw [add_lit, Nat.zero_add]; exact (hM.blk memA).cell hu) (rcells_one _) (by omega) (by decide) rfl (fun a' c' _ => ?_))
      refine hwV4 ?_
      exact HX.again (i + 1, l ++ [r], a', c') ⟨by show i + 1 ≤ rows.length; omega, by show i + 1 ≤ 30; omega, by show (l ++ [r]).length = i + 1; rw [List.length_append, hll]; rfl, hsnoc r (hS9.done fun _ => c3)⟩ (by show 30 - (i + 1) < 30 - i; omega) (by show Env.sub _ [(0, .slice (some ⟨b1, off, none⟩) rows.length c0), (3, .slice a' (l ++ [r]).length c'), (4, zv ((i + 1 : Nat) : Int))]; rw [List.length_append]; repeat (first | exact trivial | refine ⟨rfl, ?_⟩)) (by show Hs _ [A.grow 36 15 a' c' (l ++ [r]).length (rcl (l ++ [r]))]; rw [List.length_append, rcl_app, show rcl [r] = rcells r from List.append_nil _]; repeat (first | exact Hs.nil _ | (refine Hs.cons pickA ?_)))
  · refine hwV4 ?_
    refine HL.one (H1.ldAgg (vs := rcells r) rfl memA rfl (fun i v hv => by simp only [Nat.zero_add]; exact hv) rfl ?_)
    refine hwV4 ?_
    refine HL.one (H1.lit (cs := rcells r) rfl rfl rfl rfl rfl rfl (fun b8 => ?_))
    refine hwV4 ?_
    refine HL.one (H1.app (e := 36) (sz := 15) (m := 1) (n := l.length) (a := a) (c := c) (xs := rcl l) (news := rcells r) rfl (by decide) rfl rfl (fun a' c' => by first | ((repeat (first | with_reducible exact Rpl.here | with_reducible apply Rpl.there)); done) | (repeat (first | exact Rpl.here | apply Rpl.there))) rfl (fun w hM j u hu => by rw [add_lit, Nat.zero_add]; exact (hM.blk memA).cell hu) (rcells_one _) (by omega) (by decide) rfl (fun a' c' _ => ?_))
    refine hwV4 ?_
    exact HX.again (i + 1, l ++ [r], a', c') ⟨by show i + 1 ≤ rows.length; omega, by show i + 1 ≤ 30; omega, by show (l ++ [r]).length = i + 1; rw [List.length_append, hll]; rfl, hsnoc r (hS9.done fun h => absurd h c2)⟩ (by show 30 - (i + 1) < 30 - i; omega) (by show Env.sub _ [(0, .slice (some ⟨b1, off, none⟩) rows.length c0), (3, .slice a' (l ++ [r]).length c'), (4, zv ((i + 1 : Nat) : Int))]; rw [List.length_append]; repeat (first | exact trivial | refine ⟨rfl, ?_⟩)) (by show Hs _ [A.grow 36 15 a' c' (l ++ [r]).length (rcl (l ++ [r]))]; rw [List.length_append, rcl_app, show rcl [r] = rcells r from List.append_nil _]; repeat (first | exact Hs.nil _ | (refine Hs.cons pickA ?_)))
end Go.Sx
/- The top laws: what their walks need beside the functions. -/
namespace Go.Sx
open Go Go.Proofs Go.RowKit
theorem RcOk.of_validT {r : Rc} (h : ValidR r) : RcOk r := by
  have hg : ∀ i, i < 10 → i64W (r.get i) := fun i hi => by
    by_cases hm : i ∈ (specF r.kind).map Prod.fst
    · obtain ⟨p, hp, rfl⟩ := List.mem_map.1 hm
      have h1 := h.lim p hp
      have h2 := spec_hi hp
      have h3 := (spec_lo hp).1
      unfold i64W; omega
    · rw [h.zero i hi hm]; unfold i64W; omega
  have h1 := h.kind
  have h2 := h.ver
  have h3 := h.day
  have h4 := h.text
  exact ⟨by unfold i64W; omega, hg 0 (by decide), by unfold i64W; omega, by unfold i64W; omega, hg 1 (by decide), hg 2 (by decide), hg 3 (by decide), hg 4 (by decide), hg 5 (by decide), hg 6 (by decide), hg 7 (by decide), hg 9 (by decide), by simp only [maxLen]; omega⟩
theorem of_lenT {l : List Rc} {day k : Int} {L : List Rc} (h : IsOf l day k L) : L.length ≤ l.length :=
  nodup_len (h.asc.imp fun h e => by subst e; omega) fun r hr => ((h.mem r).1 hr).1.1.mem
theorem rowSlot_one {q : Nat → Slot} : ∀ v ∈ row 8 fun i => slot (q i), v.oneCell' = true := by
  intro v hv
  unfold row at hv
  obtain ⟨i, -, rfl⟩ := List.mem_map.1 hv
  rfl
/- the two layers -/
section
variable {P : Program} {r : Option Nat} {N : Nat} {ds : List Deferred} {Q : Post} {E : Env} {w0 : World} {H : List Atom} {c : Code} {e : Exit}
theorem HC.ofW (h : ∀ w, Mm w0 H w → WC P r N ds c Q E w) : HC P r N ds c Q E w0 H := h
theorem WC.ofH {w : World} (h : HC P r N ds c Q E w []) : WC P r N ds c Q E w := h w (Mm.refl w)
theorem HX.rebase {w1 : World} {H1 : List Atom} (hx : ∀ w, Mm w0 H w → Mm w1 H1 w) (h : HX N ds e Q E w1 H1) : HX N ds e Q E w0 H := fun w hM => h w (hx w hM)
end
attribute [local irreducible] WC WL WX POp Then Again Fn NX W1 WA WO QL RP RA Yld LoopAt HC HL HX HN H1 HA HO HQ HB HP A.blk A.grow A.rd A.obj A.mp AgainH CutH
theorem tpick_fn (c n : Int) (h1 : -9223372036854775808 ≤ c) (h2 : c ≤ 9223372036854775807) (hn : 0 < n) (w : World) : Fn Tryz.prog 8 #[.int .i64 c, .int .i64 n] w fun v w' => v = .int .i64 (pickI21 c n) ∧ w = w' := by
  refine enter (l := [_, _]) rfl Tryz.ntmps8 rfl ?_
  by_cases h : c < 0
  · repeat' (first | apply WL.fold | apply WA.fold | apply WL.nil | apply WX.n_then | apply WC.seq | apply WC.region | refine WL.pa ?_ | refine WL.ga rfl ?_ | refine WL.na rfl ?_ | refine WL.nu rfl rfl ?_ | apply WC.block | apply WC.skip | apply WC.exit | apply WC.ret | apply WX.e_block | refine WX.e_other rfl ?_ | apply WX.e_then | apply WX.e_again | apply WX.n_block | apply WX.r_then | apply WX.r_block | apply WX.r_again | refine WC.cond_yes rfl ?_ | refine WC.cond_no rfl ?_ | refine WC.cond rfl (fun hc => ?_) (fun hc => ?_) | refine WC.cond_b rfl (fun hc => ?_) (fun hc => ?_))
    exact WX.ret1 rfl rfl ⟨by rw [pickI21, if_pos h], rfl⟩
  · repeat' (first | apply WL.fold | apply WA.fold | apply WL.nil | apply WX.n_then | apply WC.seq | apply WC.region | refine WL.pa ?_ | refine WL.ga rfl ?_ | refine WL.na rfl ?_ | refine WL.nu rfl rfl ?_ | apply WC.block | apply WC.skip | apply WC.exit | apply WC.ret | apply WX.e_block | refine WX.e_other rfl ?_ | apply WX.e_then | apply WX.e_again | apply WX.n_block | apply WX.r_then | apply WX.r_block | apply WX.r_again | refine WC.cond_yes rfl ?_ | refine WC.cond_no rfl ?_ | refine WC.cond rfl (fun hc => ?_) (fun hc => ?_) | refine WC.cond_b rfl (fun hc => ?_) (fun hc => ?_))
    exact WX.ret1 rfl rfl ⟨by rw [pickI21, if_neg h], rfl⟩
end Go.Sx
/- Plain, chapter 2: the root of a list: by a stack of complete parts, and by halves. -/
namespace Go.Sx
open Go Go.RowKit
theorem snocI {α : Type} {p : List α → Prop} (h0 : p []) (h1 : ∀ l x, p l → p (l ++ [x])) (l : List α) : p l := by
  have : ∀ m : List α, p m.reverse := fun m => by
    induction m with
    | nil => exact h0
    | cons x m ih => rw [List.reverse_cons]; exact h1 _ _ ih
  simpa using this l.reverse
def nodeS (a b : ByteArray) : ByteArray := markS 1 [a, b]
def leafS (s : ByteArray) : ByteArray := markS 0 [s]
theorem nodeS_size (a b : ByteArray) : (nodeS a b).size = 32 := markS_size _ _
theorem leafS_size (s : ByteArray) : (leafS s).size = 32 := markS_size _ _
/-- Equal parts become one. -/
def mergeR : List (Nat × ByteArray) → List (Nat × ByteArray)
  | [] => []
  | [x] => [x]
  | x :: y :: r => if y.1 = x.1 then mergeR ((2 * x.1, nodeS y.2 x.2) :: r) else x :: y :: r
termination_by l => l.length
def stkR (l : List ByteArray) : List (Nat × ByteArray) := l.foldl (fun st s => mergeR ((1, leafS s) :: st)) []
def topR (out : ByteArray) (r : List (Nat × ByteArray)) : ByteArray := r.foldl (fun out y => nodeS y.2 out) out
def topS : List (Nat × ByteArray) → ByteArray
  | [] => sumS ⟨#[]⟩
  | x :: r => topR x.2 r
def rootS (l : List ByteArray) : ByteArray := topS (stkR l)
theorem stkR_snoc (l : List ByteArray) (s : ByteArray) : stkR (l ++ [s]) = mergeR ((1, leafS s) :: stkR l) := by unfold stkR; rw [List.foldl_append]; rfl
def sumR (l : List (Nat × ByteArray)) : Nat := (l.map Prod.fst).sum
theorem sumR_merge (l : List (Nat × ByteArray)) : sumR (mergeR l) = sumR l := by
  fun_induction mergeR l with
  | case1 => rfl
  | case2 => rfl
  | case3 x y r h ih =>
    rw [ih]
    simp only [sumR, List.map_cons, List.sum_cons, h]
    omega
  | case4 => rfl
theorem sumR_stk (l : List ByteArray) : sumR (stkR l) = l.length := by
  refine snocI (p := fun l => sumR (stkR l) = l.length) rfl (fun l s ih => ?_) l
  · rw [stkR_snoc, sumR_merge, List.length_append]
    show 1 + sumR (stkR l) = _
    rw [ih]
    show _ = l.length + 1
    omega
def leftN (n : Nat) : Nat := 2 ^ Nat.log2 (n - 1)
theorem leftN_lt {n : Nat} (h : 2 ≤ n) : leftN n < n := by
  have := Nat.log2_self_le (n := n - 1) (by omega)
  unfold leftN; omega
theorem leftN_pos (n : Nat) : 0 < leftN n := Nat.two_pow_pos _
theorem leftN_eq {n j : Nat} (h1 : 2 ^ j < n) (h2 : n ≤ 2 * 2 ^ j) : leftN n = 2 ^ j := by
  have h3 := Nat.two_pow_pos j
  have h4 : Nat.log2 (n - 1) = j := (Nat.log2_eq_iff (by omega)).2 ⟨by omega, by rw [Nat.pow_succ]; omega⟩
  unfold leftN
  rw [h4]
def mroot (l : List ByteArray) : ByteArray :=
  if _h : 2 ≤ l.length then nodeS (mroot (l.take (leftN l.length))) (mroot (l.drop (leftN l.length))) else match l with
    | [] => sumS ⟨#[]⟩
    | x :: _ => leafS x
termination_by l.length
decreasing_by
  · rw [List.length_take]; have := leftN_lt _h; omega
  · rw [List.length_drop]; have := leftN_pos l.length; omega
theorem mroot_step {l : List ByteArray} (h : 2 ≤ l.length) : mroot l = nodeS (mroot (l.take (leftN l.length))) (mroot (l.drop (leftN l.length))) := by rw [mroot, dif_pos h]
theorem mroot_app {a b : List ByteArray} {j : Nat} (ha : a.length = 2 ^ j) (h1 : 0 < b.length) (h2 : b.length ≤ 2 ^ j) : mroot (a ++ b) = nodeS (mroot a) (mroot b) := by
  have hp := Nat.two_pow_pos j
  have hl : leftN (a ++ b).length = a.length := by rw [List.length_append, ha]; exact leftN_eq (by omega) (by omega)
  rw [mroot_step (by rw [List.length_append]; omega), hl, List.take_left, List.drop_left]
/-- Parts of a list, the last one first. -/
inductive Parts : List (Nat × ByteArray) → List ByteArray → Prop
  | nil : Parts [] []
  | cons {st : List (Nat × ByteArray)} {l c : List ByteArray} {j : Nat} : Parts st l → c.length = 2 ^ j → (∀ x, st.head? = some x → 2 ^ j < x.1) → Parts ((2 ^ j, mroot c) :: st) (l ++ c)
theorem parts_head {st : List (Nat × ByteArray)} {l : List ByteArray} (h : Parts st l) {x : Nat × ByteArray} (hx : st.head? = some x) : ∃ m, x.1 = 2 ^ m := by
  cases h with
  | nil => cases hx
  | cons => cases hx; exact ⟨_, rfl⟩
theorem pow_two_lt {i j : Nat} (h : 2 ^ i < 2 ^ j) : 2 * 2 ^ i ≤ 2 ^ j := by
  have h1 : i < j := (Nat.pow_lt_pow_iff_right (by decide)).1 h
  have := Nat.pow_le_pow_right (n := 2) (by decide) (show i + 1 ≤ j from h1)
  rw [Nat.pow_succ] at this; omega
end Go.Sx
