/- Chapter 17: computed: a range over the iterator. -/
import Derived.Test.YtfjkdciblblalaaGreatDoorC3
namespace Go.Sx
open Go Go.Proofs
attribute [local irreducible] WC WL WX POp Then Again Fn NX W1 WA WO QL RP RA Yld LoopAt
theorem computed_fn (vf vn : Value) (frs : List ByteArray) (nums : List Nat) (wt : Nat → Nat) (m : Nat) (hne : nums ≠ []) (hn : ∀ i ∈ nums, i < frs.length) (hn9 : ∀ i ∈ nums, i < 9) (hm : ∀ i ∈ nums, (fr frs i).size = m) (hm4 : m ≤ 4096)
    (hl : nums.length ≤ 100) (hW : ∀ i, wt i < 256) (w : World) (hr : Red w) (hRf : Rd w vf (strs frs)) (hRn : Rd w vn (nums.map iv)) :
    Fn Tryz.prog 28 #[vf, vn, .agg (row 9 fun j => iv (wt j)).toArray] w fun v w' => v = .string (cmpStr frs nums wt m) ∧ Ext w w' := by
  have hcf := hRf; have hcn := hRn
  obtain ⟨b0, off, c, rfl, hc, hb0, -⟩ := hRn.at (by simpa using hne)
  have hp0 := len_pos hne
  have hi0 := hn _ (nu_mem hp0)
  have hfne : strs frs ≠ [] := by
    intro e
    have h1 : (strs frs).length = 0 := by rw [e]; rfl
    simp only [strs, List.length_map] at h1
    omega
  obtain ⟨b1, off1, c1, rfl, hc1, hb1, -⟩ := hRf.at hfne
  have hlf : (strs frs).length = frs.length := by simp [strs]
  simp only [List.length_map, hlf] at hc hc1 hRf hRn hcf hcn ⊢
  have hm0 := hm _ (nu_mem hp0)
  have hnum : ∀ k, k < nums.length → (nums.map iv)[k]? = some (iv (nu nums k)) := fun k hk => by simp [nu_get hk]
  refine enterM (l := [_, _, _]) rfl Tryz.ntmps28 rfl ?_
  repeat' (first | apply WL.fold | apply WA.fold | apply WL.nil | apply WX.n_then | apply WC.seq | apply WC.region | refine WL.pa ?_ | refine WL.ga rfl ?_ | refine WL.na rfl ?_ | refine WL.nu rfl rfl ?_ | apply WC.block | apply WC.skip | apply WC.exit | apply WC.ret | apply WX.e_block | refine WX.e_other rfl ?_ | apply WX.e_then | apply WX.e_again | apply WX.n_block | apply WX.r_then | apply WX.r_block | apply WX.r_again | refine WC.cond_yes rfl ?_ | refine WC.cond_no rfl ?_ | refine WC.cond rfl (fun hc => ?_) (fun hc => ?_) | refine WC.cond_b rfl (fun hc => ?_) (fun hc => ?_))
  refine WL.one (W1.box' rfl rfl rfl ?_)
  intro c1' w1 e1 s1 x1 k1
  repeat' (first | apply WL.fold | apply WA.fold | apply WL.nil | apply WX.n_then | apply WC.seq | apply WC.region | refine WL.pa ?_ | refine WL.ga rfl ?_ | refine WL.na rfl ?_ | refine WL.nu rfl rfl ?_ | apply WC.block | apply WC.skip | apply WC.exit | apply WC.ret | apply WX.e_block | refine WX.e_other rfl ?_ | apply WX.e_then | apply WX.e_again | apply WX.n_block | apply WX.r_then | apply WX.r_block | apply WX.r_again | refine WC.cond_yes rfl ?_ | refine WC.cond_no rfl ?_ | refine WC.cond rfl (fun hc => ?_) (fun hc => ?_) | refine WC.cond_b rfl (fun hc => ?_) (fun hc => ?_))
  refine WL.one (W1.boxAgg' rfl rfl ?_)
  intro c2 w2 e2 s2 x2 k2
  repeat' (first | apply WL.fold | apply WA.fold | apply WL.nil | apply WX.n_then | apply WC.seq | apply WC.region | refine WL.pa ?_ | refine WL.ga rfl ?_ | refine WL.na rfl ?_ | refine WL.nu rfl rfl ?_ | apply WC.block | apply WC.skip | apply WC.exit | apply WC.ret | apply WX.e_block | refine WX.e_other rfl ?_ | apply WX.e_then | apply WX.e_again | apply WX.n_block | apply WX.r_then | apply WX.r_block | apply WX.r_again | refine WC.cond_yes rfl ?_ | refine WC.cond_no rfl ?_ | refine WC.cond rfl (fun hc => ?_) (fun hc => ?_) | refine WC.cond_b rfl (fun hc => ?_) (fun hc => ?_))
  have x02 := x1.trans x2
  refine WL.load rfl ((k1.ext x2).cell rfl) rfl ?_
  repeat' (first | apply WL.fold | apply WA.fold | apply WL.nil | apply WX.n_then | apply WC.seq | apply WC.region | refine WL.pa ?_ | refine WL.ga rfl ?_ | refine WL.na rfl ?_ | refine WL.nu rfl rfl ?_ | apply WC.block | apply WC.skip | apply WC.exit | apply WC.ret | apply WX.e_block | refine WX.e_other rfl ?_ | apply WX.e_then | apply WX.e_again | apply WX.n_block | apply WX.r_then | apply WX.r_block | apply WX.r_again | refine WC.cond_yes rfl ?_ | refine WC.cond_no rfl ?_ | refine WC.cond rfl (fun hc => ?_) (fun hc => ?_) | refine WC.cond_b rfl (fun hc => ?_) (fun hc => ?_))
  refine WL.load rfl ((hRn.ext x02).cell (hnum 0 hp0)) rfl ?_
  repeat' (first | apply WL.fold | apply WA.fold | apply WL.nil | apply WX.n_then | apply WC.seq | apply WC.region | refine WL.pa ?_ | refine WL.ga rfl ?_ | refine WL.na rfl ?_ | refine WL.nu rfl rfl ?_ | apply WC.block | apply WC.skip | apply WC.exit | apply WC.ret | apply WX.e_block | refine WX.e_other rfl ?_ | apply WX.e_then | apply WX.e_again | apply WX.n_block | apply WX.r_then | apply WX.r_block | apply WX.r_again | refine WC.cond_yes rfl ?_ | refine WC.cond_no rfl ?_ | refine WC.cond rfl (fun hc => ?_) (fun hc => ?_) | refine WC.cond_b rfl (fun hc => ?_) (fun hc => ?_))
  refine WL.load rfl ((hRf.ext x02).cell (strs_get hi0)) rfl ?_
  repeat' (first | apply WL.fold | apply WA.fold | apply WL.nil | apply WX.n_then | apply WC.seq | apply WC.region | refine WL.pa ?_ | refine WL.ga rfl ?_ | refine WL.na rfl ?_ | refine WL.nu rfl rfl ?_ | apply WC.block | apply WC.skip | apply WC.exit | apply WC.ret | apply WX.e_block | refine WX.e_other rfl ?_ | apply WX.e_then | apply WX.e_again | apply WX.n_block | apply WX.r_then | apply WX.r_block | apply WX.r_again | refine WC.cond_yes rfl ?_ | refine WC.cond_no rfl ?_ | refine WC.cond rfl (fun hc => ?_) (fun hc => ?_) | refine WC.cond_b rfl (fun hc => ?_) (fun hc => ?_))
  rw [hm0]
  refine WL.one (W1.make' rfl rfl rfl rfl rfl (Nat.le_refl _) (by omega) (by omega) rfl ?_)
  intro bo w3 e3 s3 x3 k3
  repeat' (first | apply WL.fold | apply WA.fold | apply WL.nil | apply WX.n_then | apply WC.seq | apply WC.region | refine WL.pa ?_ | refine WL.ga rfl ?_ | refine WL.na rfl ?_ | refine WL.nu rfl rfl ?_ | apply WC.block | apply WC.skip | apply WC.exit | apply WC.ret | apply WX.e_block | refine WX.e_other rfl ?_ | apply WX.e_then | apply WX.e_again | apply WX.n_block | apply WX.r_then | apply WX.r_block | apply WX.r_again | refine WC.cond_yes rfl ?_ | refine WC.cond_no rfl ?_ | refine WC.cond rfl (fun hc => ?_) (fun hc => ?_) | refine WC.cond_b rfl (fun hc => ?_) (fun hc => ?_))
  refine WL.one (W1.alloc' (cs := [.slice none 0 0]) rfl rfl ?_)
  intro bv w4 e4 s4 x4 k4
  repeat' (first | apply WL.fold | apply WA.fold | apply WL.nil | apply WX.n_then | apply WC.seq | apply WC.region | refine WL.pa ?_ | refine WL.ga rfl ?_ | refine WL.na rfl ?_ | refine WL.nu rfl rfl ?_ | apply WC.block | apply WC.skip | apply WC.exit | apply WC.ret | apply WX.e_block | refine WX.e_other rfl ?_ | apply WX.e_then | apply WX.e_again | apply WX.n_block | apply WX.r_then | apply WX.r_block | apply WX.r_again | refine WC.cond_yes rfl ?_ | refine WC.cond_no rfl ?_ | refine WC.cond rfl (fun hc => ?_) (fun hc => ?_) | refine WC.cond_b rfl (fun hc => ?_) (fun hc => ?_))
  refine WL.one (W1.store' rfl rfl (by intro _ h; cases h) (by intro _ h; cases h) k4 (by decide) fun w5 u5 k5 => ?_)
  simp only [List.set_cons_zero] at k5
  have x05 : Ext w w5 := u5.ext ((x02.trans x3).trans x4) (by omega)
  have x25 : Ext w2 w5 := u5.ext (x3.trans x4) (by omega)
  have k35 : Blk w5 bo _ _ := (k3.ext x4).keep1 u5 (by omega)
  repeat' (first | apply WL.fold | apply WA.fold | apply WL.nil | apply WX.n_then | apply WC.seq | apply WC.region | refine WL.pa ?_ | refine WL.ga rfl ?_ | refine WL.na rfl ?_ | refine WL.nu rfl rfl ?_ | apply WC.block | apply WC.skip | apply WC.exit | apply WC.ret | apply WX.e_block | refine WX.e_other rfl ?_ | apply WX.e_then | apply WX.e_again | apply WX.n_block | apply WX.r_then | apply WX.r_block | apply WX.r_again | refine WC.cond_yes rfl ?_ | refine WC.cond_no rfl ?_ | refine WC.cond rfl (fun hc => ?_) (fun hc => ?_) | refine WC.cond_b rfl (fun hc => ?_) (fun hc => ?_))
  refine WL.load rfl ((k1.ext (x2.trans x25)).cell rfl) rfl ?_
  repeat' (first | apply WL.fold | apply WA.fold | apply WL.nil | apply WX.n_then | apply WC.seq | apply WC.region | refine WL.pa ?_ | refine WL.ga rfl ?_ | refine WL.na rfl ?_ | refine WL.nu rfl rfl ?_ | apply WC.block | apply WC.skip | apply WC.exit | apply WC.ret | apply WX.e_block | refine WX.e_other rfl ?_ | apply WX.e_then | apply WX.e_again | apply WX.n_block | apply WX.r_then | apply WX.r_block | apply WX.r_again | refine WC.cond_yes rfl ?_ | refine WC.cond_no rfl ?_ | refine WC.cond rfl (fun hc => ?_) (fun hc => ?_) | refine WC.cond_b rfl (fun hc => ?_) (fun hc => ?_))
  refine WL.call rfl rfl (columns_fn _ _ rfl rfl _) ?_
  rintro _ w6 ⟨c3, c4, rfl, x6, hc3, hc4, k6, k7⟩
  repeat' (first | apply WL.fold | apply WA.fold | apply WL.nil | apply WX.n_then | apply WC.seq | apply WC.region | refine WL.pa ?_ | refine WL.ga rfl ?_ | refine WL.na rfl ?_ | refine WL.nu rfl rfl ?_ | apply WC.block | apply WC.skip | apply WC.exit | apply WC.ret | apply WX.e_block | refine WX.e_other rfl ?_ | apply WX.e_then | apply WX.e_again | apply WX.n_block | apply WX.r_then | apply WX.r_block | apply WX.r_again | refine WC.cond_yes rfl ?_ | refine WC.cond_no rfl ?_ | refine WC.cond rfl (fun hc => ?_) (fun hc => ?_) | refine WC.cond_b rfl (fun hc => ?_) (fun hc => ?_))
  refine WC.sub [(4, .pointer (some ⟨c1', 0, none⟩)), (5, .pointer (some ⟨c2, 0, none⟩)), (7, .pointer (some ⟨bv, 0, none⟩)), (23, .func (.func 102) #[] #[.pointer (some ⟨c3, 0, none⟩), .pointer (some ⟨c4, 0, none⟩)])] ?_ ⟨rfl, rfl, rfl, rfl, trivial⟩
  refine WC.rangeFunc' (lb := [_, _]) rfl ?_
  intro w7 D l L hL hD hl' s7 x7 hL7 hD7
  have x57 := x6.trans x7
  have x07 := x05.trans x57
  have hlt1 := k1.lt
  have hlt5 := k5.lt
  have sz5 : w5.heap.size = bv + 1 := by rw [u5.size]; exact s4
  have sz6 := x6.size
  have vlt := k6.lt; have vlt7 := k7.lt
  refine (columns1_fn l c3 c4 (.slice (some ⟨b1, off1, none⟩) frs.length c1) (.slice (some ⟨b0, off, none⟩) nums.length c) frs nums m hne hn hm hm4 hl
    (fun j V => L .ready none V ∧ V.heap[D]? = some (.deferred (some [])) ∧ Ext w V ∧ Blk V c1' [.slice (some ⟨b0, off, none⟩) nums.length c] 23 ∧ Blk V c2 (row 9 fun j => iv (wt j)) 68 ∧
      Blk V bv [.slice (some ⟨bo, 0, none⟩) m m] 116 ∧ Blk V bo (row m fun q => .int .u8 (if q < j then ((cmpS frs nums wt q : Nat) : Int) else 0)) 5 ∧ Blk V c3 [.slice (some ⟨b1, off1, none⟩) frs.length c1] 28 ∧ Blk V c4 [.slice (some ⟨b0, off, none⟩) nums.length c] 23)
    ?hII ?hEE ?hYY w7 ?hZZ).mono ?_
  case hII => exact fun j V h => ⟨h.2.2.2.2.2.2.2.1, h.2.2.2.2.2.2.2.2, hRf.ext h.2.2.1, hRn.ext h.2.2.1⟩
  case hEE =>
    rintro j V V' ⟨h1, h2, h3, h4, h5, h6, h7, h8, h9⟩ hx
    refine ⟨(hL _ _ _).2 (((hL _ _ _).1 h1).ext hx), (hx.block D (Array.getElem?_eq_some_iff.1 h2).1).trans h2, h3.trans hx, h4.ext hx, h5.ext hx, h6.ext hx, h7.ext hx, h8.ext hx, h9.ext hx⟩
  case hZZ =>
    refine ⟨hL7, hD7, x07, k1.ext (x2.trans (x25.trans x57)), k2.ext (x25.trans x57), k5.ext x57, ?_, k6.ext x7, k7.ext x7⟩
    exact (congrArg (fun l => Blk w7 bo l _) ((row_rep _ _).trans (row_congr fun q _ => by simp))).mp (k35.ext x57)
  case hYY =>
    rintro j V vb hj ⟨h1, h2, h3, h4, h5, h6, h7, h8, h9⟩ hvb
    obtain ⟨bb, offb, cb, rfl, hcb, hbb, -⟩ := hvb.at (by simpa using hne)
    simp only [List.length_map] at hcb hvb ⊢
    refine Yld.of ((hL _ _ _).1 h1) rfl rfl ?_
    repeat' (first | apply WL.fold | apply WA.fold | apply WL.nil | apply WX.n_then | apply WC.seq | apply WC.region | refine WL.pa ?_ | refine WL.ga rfl ?_ | refine WL.na rfl ?_ | refine WL.nu rfl rfl ?_ | apply WC.block | apply WC.skip | apply WC.exit | apply WC.ret | apply WX.e_block | refine WX.e_other rfl ?_ | apply WX.e_then | apply WX.e_again | apply WX.n_block | apply WX.r_then | apply WX.r_block | apply WX.r_again | refine WC.cond_yes rfl ?_ | refine WC.cond_no rfl ?_ | refine WC.cond rfl (fun hc => ?_) (fun hc => ?_) | refine WC.cond_b rfl (fun hc => ?_) (fun hc => ?_))
    refine WX.ra ((hL _ _ _).1 h1) (fun V1 u1 hL1 => ?_)
    have g3 : Ext w V1 := u1.ext h3 (by omega)
    have g4 := h4.loop1 ((hL _ _ _).1 h1) u1
    have g5 := h5.loop1 ((hL _ _ _).1 h1) u1
    have g6 := h6.loop1 ((hL _ _ _).1 h1) u1
    have g7 := h7.loop1 ((hL _ _ _).1 h1) u1
    have g8 := h8.loop1 ((hL _ _ _).1 h1) u1
    have g9 := h9.loop1 ((hL _ _ _).1 h1) u1
    have gvb := hvb.loop1 ((hL _ _ _).1 h1) u1
    have g2 : V1.heap[D]? = some (.deferred (some [])) := (u1.block D (by omega)).trans h2
    repeat' (first | apply WL.fold | apply WA.fold | apply WL.nil | apply WX.n_then | apply WC.seq | apply WC.region | refine WL.pa ?_ | refine WL.ga rfl ?_ | refine WL.na rfl ?_ | refine WL.nu rfl rfl ?_ | apply WC.block | apply WC.skip | apply WC.exit | apply WC.ret | apply WX.e_block | refine WX.e_other rfl ?_ | apply WX.e_then | apply WX.e_again | apply WX.n_block | apply WX.r_then | apply WX.r_block | apply WX.r_again | refine WC.cond_yes rfl ?_ | refine WC.cond_no rfl ?_ | refine WC.cond rfl (fun hc => ?_) (fun hc => ?_) | refine WC.cond_b rfl (fun hc => ?_) (fun hc => ?_))
    refine WL.load rfl (g4.cell rfl) rfl ?_
    repeat' (first | apply WL.fold | apply WA.fold | apply WL.nil | apply WX.n_then | apply WC.seq | apply WC.region | refine WL.pa ?_ | refine WL.ga rfl ?_ | refine WL.na rfl ?_ | refine WL.nu rfl rfl ?_ | apply WC.block | apply WC.skip | apply WC.exit | apply WC.ret | apply WX.e_block | refine WX.e_other rfl ?_ | apply WX.e_then | apply WX.e_again | apply WX.n_block | apply WX.r_then | apply WX.r_block | apply WX.r_again | refine WC.cond_yes rfl ?_ | refine WC.cond_no rfl ?_ | refine WC.cond rfl (fun hc => ?_) (fun hc => ?_) | refine WC.cond_b rfl (fun hc => ?_) (fun hc => ?_))
    refine WC.loop (α := Nat) (fun k => [(4, .pointer (some ⟨c1', 0, none⟩)), (5, .pointer (some ⟨c2, 0, none⟩)), (7, .pointer (some ⟨bv, 0, none⟩)), (8, iv j), (9, .slice (some ⟨bb, offb, none⟩) nums.length cb),
        (10, iv ((nums.take k).foldl (cmpF frs wt j) 0)), (26, .slice (some ⟨b0, off, none⟩) nums.length c), (27, iv nums.length), (28, iv k)])
      (fun k V2 => k ≤ nums.length ∧ Ext V1 V2) (fun k => nums.length - k) 0 ⟨rfl, rfl, rfl, rfl, rfl, rfl, rfl, rfl, rfl, trivial⟩ ⟨by omega, Ext.refl _⟩ ?_
    rintro k V2 ⟨hk, hx2⟩
    have hrV : Red V2 := hr.ext (g3.trans hx2)
    have hacc := cmpFold_lt frs wt j (nums.take k) 0 (by decide)
    by_cases hklt : k < nums.length
    · have hik := hn _ (nu_mem hklt)
      have hi9 := hn9 _ (nu_mem hklt)
      have hstep : (nums.take (k + 1)).foldl (cmpF frs wt j) 0 = cmpF frs wt j ((nums.take k).foldl (cmpF frs wt j) 0) (nu nums k) := by
        rw [take_succ_foldl _ _ _ _ hklt]; simp [nu, hklt]
      generalize hA : (nums.take k).foldl (cmpF frs wt j) 0 = A at *
      have hsb := sb_lt (fr frs (nu nums k)) j
      have hcb : V2.cell? ⟨bb, offb + k, none⟩ = some (iv (sb (fr frs (nu nums k)) j)) := by
        refine cell_ext hx2 (gvb.cell ?_)
        simp [nu_get hklt]
      repeat' (first | apply WL.fold | apply WA.fold | apply WL.nil | apply WX.n_then | apply WC.seq | apply WC.region | refine WL.pa ?_ | refine WL.ga rfl ?_ | refine WL.na rfl ?_ | refine WL.nu rfl rfl ?_ | apply WC.block | apply WC.skip | apply WC.exit | apply WC.ret | apply WX.e_block | refine WX.e_other rfl ?_ | apply WX.e_then | apply WX.e_again | apply WX.n_block | apply WX.r_then | apply WX.r_block | apply WX.r_again | refine WC.cond_yes rfl ?_ | refine WC.cond_no rfl ?_ | refine WC.cond rfl (fun hc => ?_) (fun hc => ?_) | refine WC.cond_b rfl (fun hc => ?_) (fun hc => ?_))
      refine WL.load rfl ((hRn.ext (g3.trans hx2)).cell (hnum k hklt)) rfl ?_
      repeat' (first | apply WL.fold | apply WA.fold | apply WL.nil | apply WX.n_then | apply WC.seq | apply WC.region | refine WL.pa ?_ | refine WL.ga rfl ?_ | refine WL.na rfl ?_ | refine WL.nu rfl rfl ?_ | apply WC.block | apply WC.skip | apply WC.exit | apply WC.ret | apply WX.e_block | refine WX.e_other rfl ?_ | apply WX.e_then | apply WX.e_again | apply WX.n_block | apply WX.r_then | apply WX.r_block | apply WX.r_again | refine WC.cond_yes rfl ?_ | refine WC.cond_no rfl ?_ | refine WC.cond rfl (fun hc => ?_) (fun hc => ?_) | refine WC.cond_b rfl (fun hc => ?_) (fun hc => ?_))
      apply WC.quiet (by kernel_rfl)
      refine QL.pa ?_
      refine QL.pa ?_
      refine QL.pa ?_
      refine QL.load rfl ((g5.ext hx2).cell (row_get _ hi9)) rfl ?_
      refine QL.pa ?_
      refine QL.pa ?_
      refine QL.pa ?_
      refine QL.load rfl hcb rfl ?_
      refine QL.call rfl rfl (fun w' hw' => (mul_yes _ _ (hW _) hsb w' (hrV.ext hw')).mono fun u w'' h => ⟨h.1, h.2 ▸ Ext.refl _⟩) ?_
      have hm8 : mulN (wt (nu nums k)) (sb (fr frs (nu nums k)) j) < 256 := mulN_lt
      refine QL.pa ?_
      refine QL.pa ?_
      refine QL.nil (fun V3 hx3 => ?_)
      repeat' (first | apply WL.fold | apply WA.fold | apply WL.nil | apply WX.n_then | apply WC.seq | apply WC.region | refine WL.pa ?_ | refine WL.ga rfl ?_ | refine WL.na rfl ?_ | refine WL.nu rfl rfl ?_ | apply WC.block | apply WC.skip | apply WC.exit | apply WC.ret | apply WX.e_block | refine WX.e_other rfl ?_ | apply WX.e_then | apply WX.e_again | apply WX.n_block | apply WX.r_then | apply WX.r_block | apply WX.r_again | refine WC.cond_yes rfl ?_ | refine WC.cond_no rfl ?_ | refine WC.cond rfl (fun hc => ?_) (fun hc => ?_) | refine WC.cond_b rfl (fun hc => ?_) (fun hc => ?_))
      refine WX.again (k + 1) ⟨by omega, hx2.trans hx3⟩ (by omega) ⟨rfl, rfl, rfl, rfl, rfl, ?_, rfl, rfl, rfl, trivial⟩
      rw [hstep]; rfl
    · obtain rfl : k = nums.length := by omega
      have hS : (nums.take nums.length).foldl (cmpF frs wt j) 0 = cmpS frs nums wt j := by rw [List.take_length]; rfl
      rw [hS] at hacc ⊢
      repeat' (first | apply WL.fold | apply WA.fold | apply WL.nil | apply WX.n_then | apply WC.seq | apply WC.region | refine WL.pa ?_ | refine WL.ga rfl ?_ | refine WL.na rfl ?_ | refine WL.nu rfl rfl ?_ | apply WC.block | apply WC.skip | apply WC.exit | apply WC.ret | apply WX.e_block | refine WX.e_other rfl ?_ | apply WX.e_then | apply WX.e_again | apply WX.n_block | apply WX.r_then | apply WX.r_block | apply WX.r_again | refine WC.cond_yes rfl ?_ | refine WC.cond_no rfl ?_ | refine WC.cond rfl (fun hc => ?_) (fun hc => ?_) | refine WC.cond_b rfl (fun hc => ?_) (fun hc => ?_))
      refine WL.load rfl ((g6.ext hx2).cell rfl) rfl ?_
      repeat' (first | apply WL.fold | apply WA.fold | apply WL.nil | apply WX.n_then | apply WC.seq | apply WC.region | refine WL.pa ?_ | refine WL.ga rfl ?_ | refine WL.na rfl ?_ | refine WL.nu rfl rfl ?_ | apply WC.block | apply WC.skip | apply WC.exit | apply WC.ret | apply WX.e_block | refine WX.e_other rfl ?_ | apply WX.e_then | apply WX.e_again | apply WX.n_block | apply WX.r_then | apply WX.r_block | apply WX.r_again | refine WC.cond_yes rfl ?_ | refine WC.cond_no rfl ?_ | refine WC.cond rfl (fun hc => ?_) (fun hc => ?_) | refine WC.cond_b rfl (fun hc => ?_) (fun hc => ?_))
      refine WL.one (W1.store' rfl rfl (by intro _ h; cases h) (by intro _ h; cases h) (g7.ext hx2) (by rw [row_len]; omega) fun V3 u3 hB => ?_)
      repeat' (first | apply WL.fold | apply WA.fold | apply WL.nil | apply WX.n_then | apply WC.seq | apply WC.region | refine WL.pa ?_ | refine WL.ga rfl ?_ | refine WL.na rfl ?_ | refine WL.nu rfl rfl ?_ | apply WC.block | apply WC.skip | apply WC.exit | apply WC.ret | apply WX.e_block | refine WX.e_other rfl ?_ | apply WX.e_then | apply WX.e_again | apply WX.n_block | apply WX.r_then | apply WX.r_block | apply WX.r_again | refine WC.cond_yes rfl ?_ | refine WC.cond_no rfl ?_ | refine WC.cond rfl (fun hc => ?_) (fun hc => ?_) | refine WC.cond_b rfl (fun hc => ?_) (fun hc => ?_))
      have hlbo : l ≠ bo := by omega
      have hDbo : D ≠ bo := by omega
      have hDl : D ≠ l := by omega
      have hL2 := hL1.ext hx2
      have hL3 := hL2.keep (u3.block l hlbo)
      refine WX.rp_n hL3 (fun V4 u4 hL4 => ?_)
      have g24 : V4.heap[D]? = some (.deferred (some [])) :=
        (u4.block D hDl).trans ((u3.block D hDbo).trans ((hx2.block D (Array.getElem?_eq_some_iff.1 g2).1).trans g2))
      refine ⟨rfl, (hL _ _ _).2 hL4, g24, u4.ext (u3.ext (g3.trans hx2) (by omega)) (by omega), ((g4.ext hx2).keep1 u3 (by omega)).loop1 hL3 u4, ((g5.ext hx2).keep1 u3 (by omega)).loop1 hL3 u4,
        ((g6.ext hx2).keep1 u3 (by omega)).loop1 hL3 u4, ?_, ((g8.ext hx2).keep1 u3 (by omega)).loop1 hL3 u4, ((g9.ext hx2).keep1 u3 (by omega)).loop1 hL3 u4⟩
      rw [row_set] at hB
      refine ((congrArg (fun l => Blk V3 bo l _) (row_congr fun q hq => ?_)).mp hB).loop1 hL3 u4
      by_cases e : q = j
      · subst e; simp
      · have : (q < j + 1) = (q < j) := by simp only [eq_iff_iff]; omega
        simp only [e, if_false, this]
  · rintro v8 w8 ⟨h1, h2, h3, h4, h5, h6, h7, h8, h9⟩
    refine .inl ⟨h1, fun w9 u9 => ?_⟩
    have h1' := (hL _ _ _).1 h1
    have f6 := h6.loop1 h1' u9
    have f7 := h7.loop1 h1' u9
    have f2 : w9.heap[D]? = some (.deferred (some [])) := (u9.block D (by omega)).trans h2
    have f3 : Ext w w9 := u9.ext h3 (by omega)
    repeat' (first | apply WL.fold | apply WA.fold | apply WL.nil | apply WX.n_then | apply WC.seq | apply WC.region | refine WL.pa ?_ | refine WL.ga rfl ?_ | refine WL.na rfl ?_ | refine WL.nu rfl rfl ?_ | apply WC.block | apply WC.skip | apply WC.exit | apply WC.ret | apply WX.e_block | refine WX.e_other rfl ?_ | apply WX.e_then | apply WX.e_again | apply WX.n_block | apply WX.r_then | apply WX.r_block | apply WX.r_again | refine WC.cond_yes rfl ?_ | refine WC.cond_no rfl ?_ | refine WC.cond rfl (fun hc => ?_) (fun hc => ?_) | refine WC.cond_b rfl (fun hc => ?_) (fun hc => ?_))
    refine WL.load rfl (f6.cell rfl) rfl ?_
    repeat' (first | apply WL.fold | apply WA.fold | apply WL.nil | apply WX.n_then | apply WC.seq | apply WC.region | refine WL.pa ?_ | refine WL.ga rfl ?_ | refine WL.na rfl ?_ | refine WL.nu rfl rfl ?_ | apply WC.block | apply WC.skip | apply WC.exit | apply WC.ret | apply WX.e_block | refine WX.e_other rfl ?_ | apply WX.e_then | apply WX.e_again | apply WX.n_block | apply WX.r_then | apply WX.r_block | apply WX.r_again | refine WC.cond_yes rfl ?_ | refine WC.cond_no rfl ?_ | refine WC.cond rfl (fun hc => ?_) (fun hc => ?_) | refine WC.cond_b rfl (fun hc => ?_) (fun hc => ?_))
    refine WL.one (W1.bytes_string (l := (List.range m).map fun q => UInt8.ofNat (cmpS frs nums wt q)) rfl (by simp) (fun q hq => ?_) rfl ?_)
    · have hq' : q < m := by simpa using hq
      have := cmpS_lt frs nums wt q
      rw [add_lit]
      refine f7.cell ?_
      rw [Nat.zero_add, row_get _ hq', if_pos hq']
      simp
      omega
    repeat' (first | apply WL.fold | apply WA.fold | apply WL.nil | apply WX.n_then | apply WC.seq | apply WC.region | refine WL.pa ?_ | refine WL.ga rfl ?_ | refine WL.na rfl ?_ | refine WL.nu rfl rfl ?_ | apply WC.block | apply WC.skip | apply WC.exit | apply WC.ret | apply WX.e_block | refine WX.e_other rfl ?_ | apply WX.e_then | apply WX.e_again | apply WX.n_block | apply WX.r_then | apply WX.r_block | apply WX.r_again | refine WC.cond_yes rfl ?_ | refine WC.cond_no rfl ?_ | refine WC.cond rfl (fun hc => ?_) (fun hc => ?_) | refine WC.cond_b rfl (fun hc => ?_) (fun hc => ?_))
    refine WX.retM1 rfl rfl f2 fun w10 u10 => ⟨rfl, u10.ext f3 (by omega)⟩
end Go.Sx

