/- Chapter 17: columns, and the iterator that it returns. -/
import Derived.Test.YtfjkdciblblalaaGreatDoorC2
import Derived.Test.YtfjkdciblblalaaGreatDoorGF
namespace Go.Sx
open Go Go.Proofs
attribute [local irreducible] WC WL WX POp Then Again Fn NX W1 WA WO QL RP RA Yld LoopAt
theorem columns_fn (vf vn : Value) (hf : vf.cells = #[vf]) (hn : vn.cells = #[vn]) (w : World) :
    Fn Tryz.prog 70 #[vf, vn] w fun v w' => ∃ b1 b2, v = .func (.func 102) #[] #[.pointer (some ⟨b1, 0, none⟩), .pointer (some ⟨b2, 0, none⟩)] ∧ Ext w w' ∧ w.heap.size ≤ b1 ∧ w.heap.size ≤ b2 ∧
      Blk w' b1 [vf] 28 ∧ Blk w' b2 [vn] 23 := by
  refine enter (l := [_, _]) rfl Tryz.ntmps70 rfl ?_
  repeat' (first | apply WL.fold | apply WA.fold | apply WL.nil | apply WX.n_then | apply WC.seq | apply WC.region | refine WL.pa ?_ | refine WL.ga rfl ?_ | refine WL.na rfl ?_ | refine WL.nu rfl rfl ?_ | apply WC.block | apply WC.skip | apply WC.exit | apply WC.ret | apply WX.e_block | refine WX.e_other rfl ?_ | apply WX.e_then | apply WX.e_again | apply WX.n_block | apply WX.r_then | apply WX.r_block | apply WX.r_again | refine WC.cond_yes rfl ?_ | refine WC.cond_no rfl ?_ | refine WC.cond rfl (fun hc => ?_) (fun hc => ?_) | refine WC.cond_b rfl (fun hc => ?_) (fun hc => ?_))
  refine WL.one (W1.box' rfl hf rfl ?_)
  intro b1 w1 e1 s1 x1 k1
  repeat' (first | apply WL.fold | apply WA.fold | apply WL.nil | apply WX.n_then | apply WC.seq | apply WC.region | refine WL.pa ?_ | refine WL.ga rfl ?_ | refine WL.na rfl ?_ | refine WL.nu rfl rfl ?_ | apply WC.block | apply WC.skip | apply WC.exit | apply WC.ret | apply WX.e_block | refine WX.e_other rfl ?_ | apply WX.e_then | apply WX.e_again | apply WX.n_block | apply WX.r_then | apply WX.r_block | apply WX.r_again | refine WC.cond_yes rfl ?_ | refine WC.cond_no rfl ?_ | refine WC.cond rfl (fun hc => ?_) (fun hc => ?_) | refine WC.cond_b rfl (fun hc => ?_) (fun hc => ?_))
  refine WL.one (W1.box' rfl hn rfl ?_)
  intro b2 w2 e2 s2 x2 k2
  repeat' (first | apply WL.fold | apply WA.fold | apply WL.nil | apply WX.n_then | apply WC.seq | apply WC.region | refine WL.pa ?_ | refine WL.ga rfl ?_ | refine WL.na rfl ?_ | refine WL.nu rfl rfl ?_ | apply WC.block | apply WC.skip | apply WC.exit | apply WC.ret | apply WX.e_block | refine WX.e_other rfl ?_ | apply WX.e_then | apply WX.e_again | apply WX.n_block | apply WX.r_then | apply WX.r_block | apply WX.r_again | refine WC.cond_yes rfl ?_ | refine WC.cond_no rfl ?_ | refine WC.cond rfl (fun hc => ?_) (fun hc => ?_) | refine WC.cond_b rfl (fun hc => ?_) (fun hc => ?_))
  exact WX.ret1 rfl rfl ⟨b1, b2, rfl, x1.trans x2, by omega, by omega, k1.ext x2, k2⟩

theorem columns1_fn (l bf bn : Nat) (vf vn : Value) (frs : List ByteArray) (nums : List Nat) (m : Nat) (hne : nums ≠ []) (hn : ∀ i ∈ nums, i < frs.length) (hm : ∀ i ∈ nums, (fr frs i).size = m) (hm4 : m ≤ 4096) (hl : nums.length ≤ 100)
    (Inv : Nat → World → Prop)
    (hI : ∀ j W, Inv j W → Blk W bf [vf] 28 ∧ Blk W bn [vn] 23 ∧ Rd W vf (strs frs) ∧ Rd W vn (nums.map iv))
    (hE : ∀ j W W', Inv j W → Ext W W' → Inv j W')
    (hY : ∀ j W vb, j < m → Inv j W → Rd W vb (nums.map fun i => iv (sb (fr frs i) j)) → Yld Tryz.prog l [iv j, vb] W fun b W' => b = true ∧ Inv (j + 1) W')
    (w : World) (h0 : Inv 0 w) : Fn Tryz.prog 102 #[.func (.yield l) #[] #[], .pointer (some ⟨bf, 0, none⟩), .pointer (some ⟨bn, 0, none⟩)] w fun _ w' => Inv m w' := by
  obtain ⟨hBf, hBn, hRf, hRn⟩ := hI 0 w h0
  obtain ⟨b0, off, c, rfl, hc, hb0, -⟩ := hRn.at (by simpa using hne)
  have hp0 := len_pos hne
  have hi0 := hn _ (nu_mem hp0)
  have hfne : strs frs ≠ [] := by
    intro e
    have h1 : (strs frs).length = 0 := by rw [e]; rfl
    simp only [strs, List.length_map] at h1
    omega
  obtain ⟨b1, off1, c1, rfl, hc1, hb1, -⟩ := hRf.at hfne
  have hlf : (strs frs).length = frs.length := by simp [strs]
  simp only [List.length_map, hlf] at hc hc1 hI hBf hBn hRf hRn ⊢
  have hm0 := hm _ (nu_mem hp0)
  have hnum : ∀ k, k < nums.length → (nums.map iv)[k]? = some (iv (nu nums k)) := fun k hk => by simp [nu_get hk]
  refine enter (l := [_, _, _]) rfl Tryz.ntmps102 rfl ?_
  apply WC.seq
  apply WC.quiet (by kernel_rfl)
  refine QL.load rfl (hBf.cell rfl) rfl ?_
  refine QL.load rfl (hBn.cell rfl) rfl ?_
  refine QL.pa ?_
  refine QL.load rfl (hRn.cell (hnum 0 hp0)) rfl ?_
  refine QL.pa ?_
  refine QL.load rfl (hRf.cell (strs_get hi0)) rfl ?_
  refine QL.pa ?_
  refine QL.pa ?_
  refine QL.nil (fun w1 x1 => ?_)
  repeat' (first | apply WL.fold | apply WA.fold | apply WL.nil | apply WX.n_then | apply WC.seq | apply WC.region | refine WL.pa ?_ | refine WL.ga rfl ?_ | refine WL.na rfl ?_ | refine WL.nu rfl rfl ?_ | apply WC.block | apply WC.skip | apply WC.exit | apply WC.ret | apply WX.e_block | refine WX.e_other rfl ?_ | apply WX.e_then | apply WX.e_again | apply WX.n_block | apply WX.r_then | apply WX.r_block | apply WX.r_again | refine WC.cond_yes rfl ?_ | refine WC.cond_no rfl ?_ | refine WC.cond rfl (fun hc => ?_) (fun hc => ?_) | refine WC.cond_b rfl (fun hc => ?_) (fun hc => ?_))
  have h1 := hE 0 w w1 h0 x1
  rw [hm0]
  refine WC.loop (α := Nat) (fun j => [(0, .func (.yield l) #[] #[]), (1, .pointer (some ⟨bf, 0, none⟩)), (2, .pointer (some ⟨bn, 0, none⟩)), (14, iv m), (15, iv j)])
    (fun j w' => j ≤ m ∧ Inv j w') (fun j => m - j) 0 ⟨rfl, rfl, rfl, rfl, rfl, trivial⟩ ⟨by omega, h1⟩ ?_
  rintro j w' ⟨hj, hInv⟩
  by_cases hlt : j < m
  · obtain ⟨gBf, gBn, gRf, gRn⟩ := hI j w' hInv
    repeat' (first | apply WL.fold | apply WA.fold | apply WL.nil | apply WX.n_then | apply WC.seq | apply WC.region | refine WL.pa ?_ | refine WL.ga rfl ?_ | refine WL.na rfl ?_ | refine WL.nu rfl rfl ?_ | apply WC.block | apply WC.skip | apply WC.exit | apply WC.ret | apply WX.e_block | refine WX.e_other rfl ?_ | apply WX.e_then | apply WX.e_again | apply WX.n_block | apply WX.r_then | apply WX.r_block | apply WX.r_again | refine WC.cond_yes rfl ?_ | refine WC.cond_no rfl ?_ | refine WC.cond rfl (fun hc => ?_) (fun hc => ?_) | refine WC.cond_b rfl (fun hc => ?_) (fun hc => ?_))
    refine WL.load rfl (gBn.cell rfl) rfl ?_
    repeat' (first | apply WL.fold | apply WA.fold | apply WL.nil | apply WX.n_then | apply WC.seq | apply WC.region | refine WL.pa ?_ | refine WL.ga rfl ?_ | refine WL.na rfl ?_ | refine WL.nu rfl rfl ?_ | apply WC.block | apply WC.skip | apply WC.exit | apply WC.ret | apply WX.e_block | refine WX.e_other rfl ?_ | apply WX.e_then | apply WX.e_again | apply WX.n_block | apply WX.r_then | apply WX.r_block | apply WX.r_again | refine WC.cond_yes rfl ?_ | refine WC.cond_no rfl ?_ | refine WC.cond rfl (fun hc => ?_) (fun hc => ?_) | refine WC.cond_b rfl (fun hc => ?_) (fun hc => ?_))
    refine WL.one (W1.make' rfl rfl rfl rfl rfl (Nat.le_refl _) (by omega) (by omega) rfl ?_)
    intro b5 w5 e5 s5 x5 k5
    repeat' (first | apply WL.fold | apply WA.fold | apply WL.nil | apply WX.n_then | apply WC.seq | apply WC.region | refine WL.pa ?_ | refine WL.ga rfl ?_ | refine WL.na rfl ?_ | refine WL.nu rfl rfl ?_ | apply WC.block | apply WC.skip | apply WC.exit | apply WC.ret | apply WX.e_block | refine WX.e_other rfl ?_ | apply WX.e_then | apply WX.e_again | apply WX.n_block | apply WX.r_then | apply WX.r_block | apply WX.r_again | refine WC.cond_yes rfl ?_ | refine WC.cond_no rfl ?_ | refine WC.cond rfl (fun hc => ?_) (fun hc => ?_) | refine WC.cond_b rfl (fun hc => ?_) (fun hc => ?_))
    refine WL.load rfl ((gBn.ext x5).cell rfl) rfl ?_
    repeat' (first | apply WL.fold | apply WA.fold | apply WL.nil | apply WX.n_then | apply WC.seq | apply WC.region | refine WL.pa ?_ | refine WL.ga rfl ?_ | refine WL.na rfl ?_ | refine WL.nu rfl rfl ?_ | apply WC.block | apply WC.skip | apply WC.exit | apply WC.ret | apply WX.e_block | refine WX.e_other rfl ?_ | apply WX.e_then | apply WX.e_again | apply WX.n_block | apply WX.r_then | apply WX.r_block | apply WX.r_again | refine WC.cond_yes rfl ?_ | refine WC.cond_no rfl ?_ | refine WC.cond rfl (fun hc => ?_) (fun hc => ?_) | refine WC.cond_b rfl (fun hc => ?_) (fun hc => ?_))
    refine WC.loop (α := Nat) (fun k => [(0, .func (.yield l) #[] #[]), (1, .pointer (some ⟨bf, 0, none⟩)), (2, .pointer (some ⟨bn, 0, none⟩)), (4, iv j), (5, .slice (some ⟨b5, 0, none⟩) nums.length nums.length), (14, iv m), (15, iv j),
        (21, .slice (some ⟨b0, off, none⟩) nums.length c), (22, iv nums.length), (23, iv k)])
      (fun k w2 => k ≤ nums.length ∧ Ext w' w2 ∧ Blk w2 b5 (row nums.length fun q => if q < k then iv (sb (fr frs (nu nums q)) j) else iv 0) 3) (fun k => nums.length - k) 0
      ⟨rfl, rfl, rfl, rfl, rfl, rfl, rfl, rfl, rfl, rfl, trivial⟩ ⟨by omega, x5, (congrArg (fun l => Blk w5 b5 l _) ((row_rep _ _).trans (row_congr fun q _ => by simp))).mp k5⟩ ?_
    rintro k w2 ⟨hk, hx2, hB5⟩
    by_cases hklt : k < nums.length
    · have hik := hn _ (nu_mem hklt)
      have hmk := hm _ (nu_mem hklt)
      have hsb := sb_lt (fr frs (nu nums k)) j
      repeat' (first | apply WL.fold | apply WA.fold | apply WL.nil | apply WX.n_then | apply WC.seq | apply WC.region | refine WL.pa ?_ | refine WL.ga rfl ?_ | refine WL.na rfl ?_ | refine WL.nu rfl rfl ?_ | apply WC.block | apply WC.skip | apply WC.exit | apply WC.ret | apply WX.e_block | refine WX.e_other rfl ?_ | apply WX.e_then | apply WX.e_again | apply WX.n_block | apply WX.r_then | apply WX.r_block | apply WX.r_again | refine WC.cond_yes rfl ?_ | refine WC.cond_no rfl ?_ | refine WC.cond rfl (fun hc => ?_) (fun hc => ?_) | refine WC.cond_b rfl (fun hc => ?_) (fun hc => ?_))
      refine WL.load rfl ((gRn.ext hx2).cell (hnum k hklt)) rfl ?_
      repeat' (first | apply WL.fold | apply WA.fold | apply WL.nil | apply WX.n_then | apply WC.seq | apply WC.region | refine WL.pa ?_ | refine WL.ga rfl ?_ | refine WL.na rfl ?_ | refine WL.nu rfl rfl ?_ | apply WC.block | apply WC.skip | apply WC.exit | apply WC.ret | apply WX.e_block | refine WX.e_other rfl ?_ | apply WX.e_then | apply WX.e_again | apply WX.n_block | apply WX.r_then | apply WX.r_block | apply WX.r_again | refine WC.cond_yes rfl ?_ | refine WC.cond_no rfl ?_ | refine WC.cond rfl (fun hc => ?_) (fun hc => ?_) | refine WC.cond_b rfl (fun hc => ?_) (fun hc => ?_))
      refine WL.load rfl ((gBf.ext hx2).cell rfl) rfl ?_
      repeat' (first | apply WL.fold | apply WA.fold | apply WL.nil | apply WX.n_then | apply WC.seq | apply WC.region | refine WL.pa ?_ | refine WL.ga rfl ?_ | refine WL.na rfl ?_ | refine WL.nu rfl rfl ?_ | apply WC.block | apply WC.skip | apply WC.exit | apply WC.ret | apply WX.e_block | refine WX.e_other rfl ?_ | apply WX.e_then | apply WX.e_again | apply WX.n_block | apply WX.r_then | apply WX.r_block | apply WX.r_again | refine WC.cond_yes rfl ?_ | refine WC.cond_no rfl ?_ | refine WC.cond rfl (fun hc => ?_) (fun hc => ?_) | refine WC.cond_b rfl (fun hc => ?_) (fun hc => ?_))
      refine WL.load rfl ((gRf.ext hx2).cell (strs_get hik)) rfl ?_
      repeat' (first | apply WL.fold | apply WA.fold | apply WL.nil | apply WX.n_then | apply WC.seq | apply WC.region | refine WL.pa ?_ | refine WL.ga rfl ?_ | refine WL.na rfl ?_ | refine WL.nu rfl rfl ?_ | apply WC.block | apply WC.skip | apply WC.exit | apply WC.ret | apply WX.e_block | refine WX.e_other rfl ?_ | apply WX.e_then | apply WX.e_again | apply WX.n_block | apply WX.r_then | apply WX.r_block | apply WX.r_again | refine WC.cond_yes rfl ?_ | refine WC.cond_no rfl ?_ | refine WC.cond rfl (fun hc => ?_) (fun hc => ?_) | refine WC.cond_b rfl (fun hc => ?_) (fun hc => ?_))
      refine WL.one (W1.store' rfl rfl (by intro _ h; cases h) (by intro _ h; cases h) hB5 (by rw [row_len]; omega) fun w6 u6 hB6 => ?_)
      repeat' (first | apply WL.fold | apply WA.fold | apply WL.nil | apply WX.n_then | apply WC.seq | apply WC.region | refine WL.pa ?_ | refine WL.ga rfl ?_ | refine WL.na rfl ?_ | refine WL.nu rfl rfl ?_ | apply WC.block | apply WC.skip | apply WC.exit | apply WC.ret | apply WX.e_block | refine WX.e_other rfl ?_ | apply WX.e_then | apply WX.e_again | apply WX.n_block | apply WX.r_then | apply WX.r_block | apply WX.r_again | refine WC.cond_yes rfl ?_ | refine WC.cond_no rfl ?_ | refine WC.cond rfl (fun hc => ?_) (fun hc => ?_) | refine WC.cond_b rfl (fun hc => ?_) (fun hc => ?_))
      refine WX.again (k + 1) ⟨by omega, u6.ext hx2 (by omega), ?_⟩ (by omega) ⟨rfl, rfl, rfl, rfl, rfl, rfl, rfl, rfl, rfl, rfl, trivial⟩
      rw [row_set] at hB6
      refine (congrArg (fun l => Blk w6 b5 l _) (row_congr fun q hq => ?_)).mp hB6
      by_cases e : q = k
      · subst e; simp
      · have : (q < k + 1) = (q < k) := by simp only [eq_iff_iff]; omega
        simp only [e, if_false, this]
    · obtain rfl : k = nums.length := by omega
      repeat' (first | apply WL.fold | apply WA.fold | apply WL.nil | apply WX.n_then | apply WC.seq | apply WC.region | refine WL.pa ?_ | refine WL.ga rfl ?_ | refine WL.na rfl ?_ | refine WL.nu rfl rfl ?_ | apply WC.block | apply WC.skip | apply WC.exit | apply WC.ret | apply WX.e_block | refine WX.e_other rfl ?_ | apply WX.e_then | apply WX.e_again | apply WX.n_block | apply WX.r_then | apply WX.r_block | apply WX.r_again | refine WC.cond_yes rfl ?_ | refine WC.cond_no rfl ?_ | refine WC.cond rfl (fun hc => ?_) (fun hc => ?_) | refine WC.cond_b rfl (fun hc => ?_) (fun hc => ?_))
      refine WL.one (W1.yield rfl rfl rfl (hY j w2 _ hlt (hE j _ _ hInv hx2) ?_) ?_)
      · have := Rd.of_blk hB5 (l := nums.length) (c := nums.length) (by rw [row_len]; exact Nat.le_refl _) (Nat.le_refl _)
        rw [List.take_of_length_le (by rw [row_len]; exact Nat.le_refl _)] at this
        refine (congrArg (Rd w2 _) ?_).mp this
        apply List.ext_getElem
        · simp [row]
        · intro q h1 h2
          have hq : q < nums.length := by simpa [row] using h1
          simp [row, hq, nu]
      · rintro _ w6 ⟨rfl, hI6⟩
        repeat' (first | apply WL.fold | apply WA.fold | apply WL.nil | apply WX.n_then | apply WC.seq | apply WC.region | refine WL.pa ?_ | refine WL.ga rfl ?_ | refine WL.na rfl ?_ | refine WL.nu rfl rfl ?_ | apply WC.block | apply WC.skip | apply WC.exit | apply WC.ret | apply WX.e_block | refine WX.e_other rfl ?_ | apply WX.e_then | apply WX.e_again | apply WX.n_block | apply WX.r_then | apply WX.r_block | apply WX.r_again | refine WC.cond_yes rfl ?_ | refine WC.cond_no rfl ?_ | refine WC.cond rfl (fun hc => ?_) (fun hc => ?_) | refine WC.cond_b rfl (fun hc => ?_) (fun hc => ?_))
        exact WX.again (j + 1) ⟨by omega, hI6⟩ (by omega) ⟨rfl, rfl, rfl, rfl, rfl, trivial⟩
  · obtain rfl : j = m := by omega
    repeat' (first | apply WL.fold | apply WA.fold | apply WL.nil | apply WX.n_then | apply WC.seq | apply WC.region | refine WL.pa ?_ | refine WL.ga rfl ?_ | refine WL.na rfl ?_ | refine WL.nu rfl rfl ?_ | apply WC.block | apply WC.skip | apply WC.exit | apply WC.ret | apply WX.e_block | refine WX.e_other rfl ?_ | apply WX.e_then | apply WX.e_again | apply WX.n_block | apply WX.r_then | apply WX.r_block | apply WX.r_again | refine WC.cond_yes rfl ?_ | refine WC.cond_no rfl ?_ | refine WC.cond rfl (fun hc => ?_) (fun hc => ?_) | refine WC.cond_b rfl (fun hc => ?_) (fun hc => ?_))
    exact WX.end0 rfl hInv
end Go.Sx

