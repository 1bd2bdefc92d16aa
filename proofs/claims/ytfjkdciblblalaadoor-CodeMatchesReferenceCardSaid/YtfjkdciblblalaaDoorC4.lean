/- Chapter 17: the closure that weights returns. -/
import Derived.Test.YtfjkdciblblalaaDoorC1
import Derived.Test.YtfjkdciblblalaaDoorGF
namespace Go.Sx
open Go Go.Proofs
attribute [local irreducible] WC WL WX POp Then Again Fn NX W1 WA WO QL RP RA Yld LoopAt
def outK (nums : List Nat) (x k j : Nat) : Nat := if j ∈ nums.take k then wgt nums x j else 0
def outKJ (nums : List Nat) (x k j i q : Nat) : Nat := if q = i then (nums.take j).foldl (outS i x) (bel nums i) else outK nums x k q

theorem weightsAt_fn (x : Nat) (hx9 : x < 9) (vn : Value) (nums : List Nat) (hne : nums ≠ []) (hn : ∀ i ∈ nums, i < 9) (w : World) (hr : Red w) (hl : nums.length ≤ 100) (hv : Rd w vn (nums.map iv)) (b1 b2 : Nat)
    (hK1 : Blk w b1 [vn] 38) (hK2 : Blk w b2 (row 9 fun j => iv (belA nums j)) 48) :
    Fn Tryd.prog 36 #[iv x, .pointer (some ⟨b1, 0, none⟩), .pointer (some ⟨b2, 0, none⟩)] w fun v w' => v = .agg (row 9 fun j => iv (wgtA nums x j)).toArray ∧ Ext w w' := by
  obtain ⟨b0, off, c, rfl, hc, hb0, hcell⟩ := hv.at (by simpa using hne)
  simp only [List.length_map] at hc hK1 ⊢
  have hlt1 := hK1.lt
  have hlt2 := hK2.lt
  refine enter (l := [_, _, _]) rfl Tryd.ntmps36 rfl ?_
  repeat' (first | apply WL.fold | apply WA.fold | apply WL.nil | apply WX.n_then | apply WC.seq | apply WC.region | refine WL.pa ?_ | refine WL.ga rfl ?_ | refine WL.na rfl ?_ | refine WL.nu rfl rfl ?_ | apply WC.block | apply WC.skip | apply WC.exit | apply WC.ret | apply WX.e_block | refine WX.e_other rfl ?_ | apply WX.e_then | apply WX.e_again | apply WX.n_block | apply WX.r_then | apply WX.r_block | apply WX.r_again | refine WC.cond_yes rfl ?_ | refine WC.cond_no rfl ?_ | refine WC.cond rfl (fun hc => ?_) (fun hc => ?_) | refine WC.cond_b rfl (fun hc => ?_) (fun hc => ?_))
  refine WL.one (W1.alloc' (cs := row 9 fun _ => iv 0) rfl rfl ?_)
  intro b3 w1 e1 s1 x1 k1
  repeat' (first | apply WL.fold | apply WA.fold | apply WL.nil | apply WX.n_then | apply WC.seq | apply WC.region | refine WL.pa ?_ | refine WL.ga rfl ?_ | refine WL.na rfl ?_ | refine WL.nu rfl rfl ?_ | apply WC.block | apply WC.skip | apply WC.exit | apply WC.ret | apply WX.e_block | refine WX.e_other rfl ?_ | apply WX.e_then | apply WX.e_again | apply WX.n_block | apply WX.r_then | apply WX.r_block | apply WX.r_again | refine WC.cond_yes rfl ?_ | refine WC.cond_no rfl ?_ | refine WC.cond rfl (fun hc => ?_) (fun hc => ?_) | refine WC.cond_b rfl (fun hc => ?_) (fun hc => ?_))
  refine WL.load rfl ((hK1.ext x1).cell rfl) rfl ?_
  repeat' (first | apply WL.fold | apply WA.fold | apply WL.nil | apply WX.n_then | apply WC.seq | apply WC.region | refine WL.pa ?_ | refine WL.ga rfl ?_ | refine WL.na rfl ?_ | refine WL.nu rfl rfl ?_ | apply WC.block | apply WC.skip | apply WC.exit | apply WC.ret | apply WX.e_block | refine WX.e_other rfl ?_ | apply WX.e_then | apply WX.e_again | apply WX.n_block | apply WX.r_then | apply WX.r_block | apply WX.r_again | refine WC.cond_yes rfl ?_ | refine WC.cond_no rfl ?_ | refine WC.cond rfl (fun hc => ?_) (fun hc => ?_) | refine WC.cond_b rfl (fun hc => ?_) (fun hc => ?_))
  refine WC.loop (α := Nat) (fun k => [(0, iv x), (1, .pointer (some ⟨b1, 0, none⟩)), (2, .pointer (some ⟨b2, 0, none⟩)), (4, .pointer (some ⟨b3, 0, none⟩)), (9, .slice (some ⟨b0, off, none⟩) nums.length c), (10, iv nums.length), (11, iv k)])
    (fun k w' => k ≤ nums.length ∧ Ext w w' ∧ Blk w' b3 (row 9 fun j => iv (outK nums x k j)) 48) (fun k => nums.length - k) 0
    ⟨rfl, rfl, rfl, rfl, rfl, rfl, rfl, trivial⟩ ⟨by omega, x1, by simpa [outK] using k1⟩ ?_
  rintro k w' ⟨hk, hx, hB3⟩
  by_cases hlt : k < nums.length
  · have hi : nums[k] < 9 := hn _ (by simp)
    have hmem : nums[k] ∈ nums := by simp
    have hck : w'.cell? ⟨b0, off + k, none⟩ = some (iv nums[k]) := cell_ext hx (hcell k _ (by simp [hlt]))
    generalize hik : nums[k] = i at *
    have hbi : (row 9 fun j => iv (belA nums j))[i]? = some (iv (bel nums i)) := by rw [row_get _ hi]; simp [belA, hmem]
    repeat' (first | apply WL.fold | apply WA.fold | apply WL.nil | apply WX.n_then | apply WC.seq | apply WC.region | refine WL.pa ?_ | refine WL.ga rfl ?_ | refine WL.na rfl ?_ | refine WL.nu rfl rfl ?_ | apply WC.block | apply WC.skip | apply WC.exit | apply WC.ret | apply WX.e_block | refine WX.e_other rfl ?_ | apply WX.e_then | apply WX.e_again | apply WX.n_block | apply WX.r_then | apply WX.r_block | apply WX.r_again | refine WC.cond_yes rfl ?_ | refine WC.cond_no rfl ?_ | refine WC.cond rfl (fun hc => ?_) (fun hc => ?_) | refine WC.cond_b rfl (fun hc => ?_) (fun hc => ?_))
    refine WL.load rfl hck rfl ?_
    repeat' (first | apply WL.fold | apply WA.fold | apply WL.nil | apply WX.n_then | apply WC.seq | apply WC.region | refine WL.pa ?_ | refine WL.ga rfl ?_ | refine WL.na rfl ?_ | refine WL.nu rfl rfl ?_ | apply WC.block | apply WC.skip | apply WC.exit | apply WC.ret | apply WX.e_block | refine WX.e_other rfl ?_ | apply WX.e_then | apply WX.e_again | apply WX.n_block | apply WX.r_then | apply WX.r_block | apply WX.r_again | refine WC.cond_yes rfl ?_ | refine WC.cond_no rfl ?_ | refine WC.cond rfl (fun hc => ?_) (fun hc => ?_) | refine WC.cond_b rfl (fun hc => ?_) (fun hc => ?_))
    refine WL.load rfl ((hK2.ext hx).cell hbi) rfl ?_
    repeat' (first | apply WL.fold | apply WA.fold | apply WL.nil | apply WX.n_then | apply WC.seq | apply WC.region | refine WL.pa ?_ | refine WL.ga rfl ?_ | refine WL.na rfl ?_ | refine WL.nu rfl rfl ?_ | apply WC.block | apply WC.skip | apply WC.exit | apply WC.ret | apply WX.e_block | refine WX.e_other rfl ?_ | apply WX.e_then | apply WX.e_again | apply WX.n_block | apply WX.r_then | apply WX.r_block | apply WX.r_again | refine WC.cond_yes rfl ?_ | refine WC.cond_no rfl ?_ | refine WC.cond rfl (fun hc => ?_) (fun hc => ?_) | refine WC.cond_b rfl (fun hc => ?_) (fun hc => ?_))
    refine WL.one (W1.store' rfl rfl (by intro _ h; cases h) (by intro _ h; cases h) hB3 (by rw [row_len]; omega) ?_)
    intro w3 u3 hB
    rw [row_set] at hB
    have x3 : Ext w w3 := u3.ext hx (by omega)
    repeat' (first | apply WL.fold | apply WA.fold | apply WL.nil | apply WX.n_then | apply WC.seq | apply WC.region | refine WL.pa ?_ | refine WL.ga rfl ?_ | refine WL.na rfl ?_ | refine WL.nu rfl rfl ?_ | apply WC.block | apply WC.skip | apply WC.exit | apply WC.ret | apply WX.e_block | refine WX.e_other rfl ?_ | apply WX.e_then | apply WX.e_again | apply WX.n_block | apply WX.r_then | apply WX.r_block | apply WX.r_again | refine WC.cond_yes rfl ?_ | refine WC.cond_no rfl ?_ | refine WC.cond rfl (fun hc => ?_) (fun hc => ?_) | refine WC.cond_b rfl (fun hc => ?_) (fun hc => ?_))
    refine WL.load rfl ((hK1.ext x3).cell rfl) rfl ?_
    repeat' (first | apply WL.fold | apply WA.fold | apply WL.nil | apply WX.n_then | apply WC.seq | apply WC.region | refine WL.pa ?_ | refine WL.ga rfl ?_ | refine WL.na rfl ?_ | refine WL.nu rfl rfl ?_ | apply WC.block | apply WC.skip | apply WC.exit | apply WC.ret | apply WX.e_block | refine WX.e_other rfl ?_ | apply WX.e_then | apply WX.e_again | apply WX.n_block | apply WX.r_then | apply WX.r_block | apply WX.r_again | refine WC.cond_yes rfl ?_ | refine WC.cond_no rfl ?_ | refine WC.cond rfl (fun hc => ?_) (fun hc => ?_) | refine WC.cond_b rfl (fun hc => ?_) (fun hc => ?_))
    refine WC.loop (α := Nat) (fun j => [(0, iv x), (1, .pointer (some ⟨b1, 0, none⟩)), (2, .pointer (some ⟨b2, 0, none⟩)), (4, .pointer (some ⟨b3, 0, none⟩)), (6, iv i), (9, .slice (some ⟨b0, off, none⟩) nums.length c), (10, iv nums.length), (11, iv k),
        (20, .slice (some ⟨b0, off, none⟩) nums.length c), (21, iv nums.length), (22, iv j)])
      (fun j w' => j ≤ nums.length ∧ Ext w w' ∧ Blk w' b3 (row 9 fun q => iv (outKJ nums x k j i q)) 48) (fun j => nums.length - j) 0
      ⟨rfl, rfl, rfl, rfl, rfl, rfl, rfl, rfl, rfl, rfl, rfl, trivial⟩ ⟨by omega, x3, ?_⟩ ?_
    · refine (congrArg (fun l => Blk w3 b3 l _) (row_congr fun q hq => ?_)).mp hB
      unfold outKJ
      by_cases e : q = i <;> simp [e]
    clear hB x3 u3 w3 hx hB3 hck
    rintro j w' ⟨hj, hx, hB3⟩
    by_cases hjlt : j < nums.length
    · have hh : nums[j] < 9 := hn _ (by simp)
      have hcj : w'.cell? ⟨b0, off + j, none⟩ = some (iv nums[j]) := cell_ext hx (hcell j _ (by simp [hjlt]))
      have hstep : (nums.take (j + 1)).foldl (outS i x) (bel nums i) = outS i x ((nums.take j).foldl (outS i x) (bel nums i)) nums[j] := take_succ_foldl _ _ _ _ hjlt
      generalize hhj : nums[j] = h at *
      have hacc := outF_lt i x (nums.take j) _ (bel_lt nums i)
      have hix : x ^^^ h < 256 := Nat.xor_lt_two_pow (n := 8) (by omega) (by omega)
      have hgi : (row 9 fun q => iv (outKJ nums x k j i q))[i]? = some (iv ((nums.take j).foldl (outS i x) (bel nums i))) := by rw [row_get _ hi]; simp [outKJ]
      repeat' (first | apply WL.fold | apply WA.fold | apply WL.nil | apply WX.n_then | apply WC.seq | apply WC.region | refine WL.pa ?_ | refine WL.ga rfl ?_ | refine WL.na rfl ?_ | refine WL.nu rfl rfl ?_ | apply WC.block | apply WC.skip | apply WC.exit | apply WC.ret | apply WX.e_block | refine WX.e_other rfl ?_ | apply WX.e_then | apply WX.e_again | apply WX.n_block | apply WX.r_then | apply WX.r_block | apply WX.r_again | refine WC.cond_yes rfl ?_ | refine WC.cond_no rfl ?_ | refine WC.cond rfl (fun hc => ?_) (fun hc => ?_) | refine WC.cond_b rfl (fun hc => ?_) (fun hc => ?_))
      refine WL.load rfl hcj rfl ?_
      repeat' (first | apply WL.fold | apply WA.fold | apply WL.nil | apply WX.n_then | apply WC.seq | apply WC.region | refine WL.pa ?_ | refine WL.ga rfl ?_ | refine WL.na rfl ?_ | refine WL.nu rfl rfl ?_ | apply WC.block | apply WC.skip | apply WC.exit | apply WC.ret | apply WX.e_block | refine WX.e_other rfl ?_ | apply WX.e_then | apply WX.e_again | apply WX.n_block | apply WX.r_then | apply WX.r_block | apply WX.r_again | refine WC.cond_yes rfl ?_ | refine WC.cond_no rfl ?_ | refine WC.cond rfl (fun hc => ?_) (fun hc => ?_) | refine WC.cond_b rfl (fun hc => ?_) (fun hc => ?_))
      · refine WL.load rfl (hB3.cell hgi) rfl ?_
        repeat' (first | apply WL.fold | apply WA.fold | apply WL.nil | apply WX.n_then | apply WC.seq | apply WC.region | refine WL.pa ?_ | refine WL.ga rfl ?_ | refine WL.na rfl ?_ | refine WL.nu rfl rfl ?_ | apply WC.block | apply WC.skip | apply WC.exit | apply WC.ret | apply WX.e_block | refine WX.e_other rfl ?_ | apply WX.e_then | apply WX.e_again | apply WX.n_block | apply WX.r_then | apply WX.r_block | apply WX.r_again | refine WC.cond_yes rfl ?_ | refine WC.cond_no rfl ?_ | refine WC.cond rfl (fun hc => ?_) (fun hc => ?_) | refine WC.cond_b rfl (fun hc => ?_) (fun hc => ?_))
        refine WL.call rfl rfl (mul_yes _ _ hacc hix _ (hr.ext hx)) ?_
        rintro _ _ ⟨rfl, rfl⟩
        repeat' (first | apply WL.fold | apply WA.fold | apply WL.nil | apply WX.n_then | apply WC.seq | apply WC.region | refine WL.pa ?_ | refine WL.ga rfl ?_ | refine WL.na rfl ?_ | refine WL.nu rfl rfl ?_ | apply WC.block | apply WC.skip | apply WC.exit | apply WC.ret | apply WX.e_block | refine WX.e_other rfl ?_ | apply WX.e_then | apply WX.e_again | apply WX.n_block | apply WX.r_then | apply WX.r_block | apply WX.r_again | refine WC.cond_yes rfl ?_ | refine WC.cond_no rfl ?_ | refine WC.cond rfl (fun hc => ?_) (fun hc => ?_) | refine WC.cond_b rfl (fun hc => ?_) (fun hc => ?_))
        refine WL.one (W1.store' rfl rfl (by intro _ h; cases h) (by intro _ h; cases h) hB3 (by rw [row_len]; omega) fun w5 u5 hB5 => ?_)
        repeat' (first | apply WL.fold | apply WA.fold | apply WL.nil | apply WX.n_then | apply WC.seq | apply WC.region | refine WL.pa ?_ | refine WL.ga rfl ?_ | refine WL.na rfl ?_ | refine WL.nu rfl rfl ?_ | apply WC.block | apply WC.skip | apply WC.exit | apply WC.ret | apply WX.e_block | refine WX.e_other rfl ?_ | apply WX.e_then | apply WX.e_again | apply WX.n_block | apply WX.r_then | apply WX.r_block | apply WX.r_again | refine WC.cond_yes rfl ?_ | refine WC.cond_no rfl ?_ | refine WC.cond rfl (fun hc => ?_) (fun hc => ?_) | refine WC.cond_b rfl (fun hc => ?_) (fun hc => ?_))
        refine WX.again (j + 1) ⟨by omega, u5.ext hx (by omega), ?_⟩ (by omega) ⟨rfl, rfl, rfl, rfl, rfl, rfl, rfl, rfl, rfl, rfl, rfl, trivial⟩
        rw [row_set] at hB5
        refine (congrArg (fun l => Blk w5 b3 l _) (row_congr fun q hq => ?_)).mp hB5
        unfold outKJ
        have hne' : ¬ h = i := by omega
        by_cases e : q = i
        · simp only [e, if_true, hstep, outS, if_neg hne']
        · simp only [e, if_false]
      · have e : h = i := by omega
        refine WX.again (j + 1) ⟨by omega, hx, ?_⟩ (by omega) ⟨rfl, rfl, rfl, rfl, rfl, rfl, rfl, rfl, rfl, rfl, rfl, trivial⟩
        refine (congrArg (fun l => Blk w' b3 l _) (row_congr fun q hq => ?_)).mp hB3
        unfold outKJ
        rw [hstep, outS, if_pos e]
    · obtain rfl : j = nums.length := by omega
      repeat' (first | apply WL.fold | apply WA.fold | apply WL.nil | apply WX.n_then | apply WC.seq | apply WC.region | refine WL.pa ?_ | refine WL.ga rfl ?_ | refine WL.na rfl ?_ | refine WL.nu rfl rfl ?_ | apply WC.block | apply WC.skip | apply WC.exit | apply WC.ret | apply WX.e_block | refine WX.e_other rfl ?_ | apply WX.e_then | apply WX.e_again | apply WX.n_block | apply WX.r_then | apply WX.r_block | apply WX.r_again | refine WC.cond_yes rfl ?_ | refine WC.cond_no rfl ?_ | refine WC.cond rfl (fun hc => ?_) (fun hc => ?_) | refine WC.cond_b rfl (fun hc => ?_) (fun hc => ?_))
      refine WX.again (k + 1) ⟨by omega, hx, ?_⟩ (by omega) ⟨rfl, rfl, rfl, rfl, rfl, rfl, rfl, trivial⟩
      refine (congrArg (fun l => Blk w' b3 l _) (row_congr fun q hq => ?_)).mp hB3
      unfold outKJ outK
      rw [List.take_length, List.take_succ_eq_append_getElem hlt, hik]
      by_cases e : q = i
      · subst e; simp [wgt]
      · simp [e]
  · obtain rfl : k = nums.length := by omega
    repeat' (first | apply WL.fold | apply WA.fold | apply WL.nil | apply WX.n_then | apply WC.seq | apply WC.region | refine WL.pa ?_ | refine WL.ga rfl ?_ | refine WL.na rfl ?_ | refine WL.nu rfl rfl ?_ | apply WC.block | apply WC.skip | apply WC.exit | apply WC.ret | apply WX.e_block | refine WX.e_other rfl ?_ | apply WX.e_then | apply WX.e_again | apply WX.n_block | apply WX.r_then | apply WX.r_block | apply WX.r_again | refine WC.cond_yes rfl ?_ | refine WC.cond_no rfl ?_ | refine WC.cond rfl (fun hc => ?_) (fun hc => ?_) | refine WC.cond_b rfl (fun hc => ?_) (fun hc => ?_))
    refine WL.one (W1.loadAgg rfl (row_len 9 _) (fun i v hv => by rw [Nat.zero_add]; exact hB3.cell hv) rfl ?_)
    repeat' (first | apply WL.fold | apply WA.fold | apply WL.nil | apply WX.n_then | apply WC.seq | apply WC.region | refine WL.pa ?_ | refine WL.ga rfl ?_ | refine WL.na rfl ?_ | refine WL.nu rfl rfl ?_ | apply WC.block | apply WC.skip | apply WC.exit | apply WC.ret | apply WX.e_block | refine WX.e_other rfl ?_ | apply WX.e_then | apply WX.e_again | apply WX.n_block | apply WX.r_then | apply WX.r_block | apply WX.r_again | refine WC.cond_yes rfl ?_ | refine WC.cond_no rfl ?_ | refine WC.cond rfl (fun hc => ?_) (fun hc => ?_) | refine WC.cond_b rfl (fun hc => ?_) (fun hc => ?_))
    refine WL.one (W1.storeAgg' rfl rfl (row_len 9 _) (by intro v hv; simp only [row, List.mem_map] at hv; obtain ⟨q, -, rfl⟩ := hv; rfl) hB3 (by simp only [row_len]) fun w5 u5 hB5 => ?_)
    repeat' (first | apply WL.fold | apply WA.fold | apply WL.nil | apply WX.n_then | apply WC.seq | apply WC.region | refine WL.pa ?_ | refine WL.ga rfl ?_ | refine WL.na rfl ?_ | refine WL.nu rfl rfl ?_ | apply WC.block | apply WC.skip | apply WC.exit | apply WC.ret | apply WX.e_block | refine WX.e_other rfl ?_ | apply WX.e_then | apply WX.e_again | apply WX.n_block | apply WX.r_then | apply WX.r_block | apply WX.r_again | refine WC.cond_yes rfl ?_ | refine WC.cond_no rfl ?_ | refine WC.cond rfl (fun hc => ?_) (fun hc => ?_) | refine WC.cond_b rfl (fun hc => ?_) (fun hc => ?_))
    refine WX.retCell rfl rfl hB5 (row_len 9 _) ⟨?_, u5.ext hx (by omega)⟩
    have : (row 9 fun j => iv (outK nums x nums.length j)) = row 9 fun j => iv (wgtA nums x j) := row_congr fun q hq => by simp [outK, wgtA]
    rw [this]
end Go.Sx
/- Chapter 17: columns, and the iterator that it returns. -/
namespace Go.Sx
open Go Go.Proofs
attribute [local irreducible] WC WL WX POp Then Again Fn NX W1 WA WO QL RP RA Yld LoopAt
theorem columns_fn (vf vn : Value) (hf : vf.cells = #[vf]) (hn : vn.cells = #[vn]) (w : World) :
    Fn Tryd.prog 37 #[vf, vn] w fun v w' => ∃ b1 b2, v = .func (.func 52) #[] #[.pointer (some ⟨b1, 0, none⟩), .pointer (some ⟨b2, 0, none⟩)] ∧ Ext w w' ∧ w.heap.size ≤ b1 ∧ w.heap.size ≤ b2 ∧
      Blk w' b1 [vf] 24 ∧ Blk w' b2 [vn] 38 := by
  refine enter (l := [_, _]) rfl Tryd.ntmps37 rfl ?_
  repeat' (first | apply WL.fold | apply WA.fold | apply WL.nil | apply WX.n_then | apply WC.seq | apply WC.region | refine WL.pa ?_ | refine WL.ga rfl ?_ | refine WL.na rfl ?_ | refine WL.nu rfl rfl ?_ | apply WC.block | apply WC.skip | apply WC.exit | apply WC.ret | apply WX.e_block | refine WX.e_other rfl ?_ | apply WX.e_then | apply WX.e_again | apply WX.n_block | apply WX.r_then | apply WX.r_block | apply WX.r_again | refine WC.cond_yes rfl ?_ | refine WC.cond_no rfl ?_ | refine WC.cond rfl (fun hc => ?_) (fun hc => ?_) | refine WC.cond_b rfl (fun hc => ?_) (fun hc => ?_))
  refine WL.one (W1.box' rfl hf rfl ?_)
  intro b1 w1 e1 s1 x1 k1
  repeat' (first | apply WL.fold | apply WA.fold | apply WL.nil | apply WX.n_then | apply WC.seq | apply WC.region | refine WL.pa ?_ | refine WL.ga rfl ?_ | refine WL.na rfl ?_ | refine WL.nu rfl rfl ?_ | apply WC.block | apply WC.skip | apply WC.exit | apply WC.ret | apply WX.e_block | refine WX.e_other rfl ?_ | apply WX.e_then | apply WX.e_again | apply WX.n_block | apply WX.r_then | apply WX.r_block | apply WX.r_again | refine WC.cond_yes rfl ?_ | refine WC.cond_no rfl ?_ | refine WC.cond rfl (fun hc => ?_) (fun hc => ?_) | refine WC.cond_b rfl (fun hc => ?_) (fun hc => ?_))
  refine WL.one (W1.box' rfl hn rfl ?_)
  intro b2 w2 e2 s2 x2 k2
  repeat' (first | apply WL.fold | apply WA.fold | apply WL.nil | apply WX.n_then | apply WC.seq | apply WC.region | refine WL.pa ?_ | refine WL.ga rfl ?_ | refine WL.na rfl ?_ | refine WL.nu rfl rfl ?_ | apply WC.block | apply WC.skip | apply WC.exit | apply WC.ret | apply WX.e_block | refine WX.e_other rfl ?_ | apply WX.e_then | apply WX.e_again | apply WX.n_block | apply WX.r_then | apply WX.r_block | apply WX.r_again | refine WC.cond_yes rfl ?_ | refine WC.cond_no rfl ?_ | refine WC.cond rfl (fun hc => ?_) (fun hc => ?_) | refine WC.cond_b rfl (fun hc => ?_) (fun hc => ?_))
  exact WX.ret1 rfl rfl ⟨b1, b2, rfl, x1.trans x2, by omega, by omega, k1.ext x2, k2⟩

theorem columns1_fn (l bf bn : Nat) (vf vn : Value) (frs : List ByteArray) (nums : List Nat) (m : Nat) (hne : nums ≠ []) (hn : ∀ i ∈ nums, i < frs.length) (hm : ∀ i ∈ nums, (fr frs i).size = m) (hm4 : m ≤ 4096) (hl : nums.length ≤ 100)
    (Inv : Nat → World → Prop)
    (hI : ∀ j W, Inv j W → Blk W bf [vf] 24 ∧ Blk W bn [vn] 38 ∧ Rd W vf (strs frs) ∧ Rd W vn (nums.map iv))
    (hE : ∀ j W W', Inv j W → Ext W W' → Inv j W')
    (hY : ∀ j W vb, j < m → Inv j W → Rd W vb (nums.map fun i => iv (sb (fr frs i) j)) → Yld Tryd.prog l [iv j, vb] W fun b W' => b = true ∧ Inv (j + 1) W')
    (w : World) (h0 : Inv 0 w) : Fn Tryd.prog 52 #[.func (.yield l) #[] #[], .pointer (some ⟨bf, 0, none⟩), .pointer (some ⟨bn, 0, none⟩)] w fun _ w' => Inv m w' := by
  obtain ⟨hBf, hBn, hRf, hRn⟩ := hI 0 w h0
  obtain ⟨b0, off, c, rfl, hc, hb0, -⟩ := hRn.at (by simpa using hne)
  have hp0 := len_pos hne
  have hi0 := hn _ (nu_mem hp0)
  have hfne : strs frs ≠ [] := by
    intro e
    have h1 : (strs frs).length = 0 := by rw [e]; rfl
    simp only [strs, List.length_map] at h1
    omega
  obtain ⟨b1, off1, c1, rfl, hc1, hb1, -⟩ := hRf.at hfne
  have hlf : (strs frs).length = frs.length := by simp [strs]
  simp only [List.length_map, hlf] at hc hc1 hI hBf hBn hRf hRn ⊢
  have hm0 := hm _ (nu_mem hp0)
  have hnum : ∀ k, k < nums.length → (nums.map iv)[k]? = some (iv (nu nums k)) := fun k hk => by simp [nu_get hk]
  refine enter (l := [_, _, _]) rfl Tryd.ntmps52 rfl ?_
  apply WC.seq
  apply WC.quiet (by kernel_rfl)
  refine QL.load rfl (hBf.cell rfl) rfl ?_
  refine QL.load rfl (hBn.cell rfl) rfl ?_
  refine QL.pa ?_
  refine QL.load rfl (hRn.cell (hnum 0 hp0)) rfl ?_
  refine QL.pa ?_
  refine QL.load rfl (hRf.cell (strs_get hi0)) rfl ?_
  refine QL.pa ?_
  refine QL.pa ?_
  refine QL.nil (fun w1 x1 => ?_)
  repeat' (first | apply WL.fold | apply WA.fold | apply WL.nil | apply WX.n_then | apply WC.seq | apply WC.region | refine WL.pa ?_ | refine WL.ga rfl ?_ | refine WL.na rfl ?_ | refine WL.nu rfl rfl ?_ | apply WC.block | apply WC.skip | apply WC.exit | apply WC.ret | apply WX.e_block | refine WX.e_other rfl ?_ | apply WX.e_then | apply WX.e_again | apply WX.n_block | apply WX.r_then | apply WX.r_block | apply WX.r_again | refine WC.cond_yes rfl ?_ | refine WC.cond_no rfl ?_ | refine WC.cond rfl (fun hc => ?_) (fun hc => ?_) | refine WC.cond_b rfl (fun hc => ?_) (fun hc => ?_))
  have h1 := hE 0 w w1 h0 x1
  rw [hm0]
  refine WC.loop (α := Nat) (fun j => [(0, .func (.yield l) #[] #[]), (1, .pointer (some ⟨bf, 0, none⟩)), (2, .pointer (some ⟨bn, 0, none⟩)), (14, iv m), (15, iv j)])
    (fun j w' => j ≤ m ∧ Inv j w') (fun j => m - j) 0 ⟨rfl, rfl, rfl, rfl, rfl, trivial⟩ ⟨by omega, h1⟩ ?_
  rintro j w' ⟨hj, hInv⟩
  by_cases hlt : j < m
  · obtain ⟨gBf, gBn, gRf, gRn⟩ := hI j w' hInv
    repeat' (first | apply WL.fold | apply WA.fold | apply WL.nil | apply WX.n_then | apply WC.seq | apply WC.region | refine WL.pa ?_ | refine WL.ga rfl ?_ | refine WL.na rfl ?_ | refine WL.nu rfl rfl ?_ | apply WC.block | apply WC.skip | apply WC.exit | apply WC.ret | apply WX.e_block | refine WX.e_other rfl ?_ | apply WX.e_then | apply WX.e_again | apply WX.n_block | apply WX.r_then | apply WX.r_block | apply WX.r_again | refine WC.cond_yes rfl ?_ | refine WC.cond_no rfl ?_ | refine WC.cond rfl (fun hc => ?_) (fun hc => ?_) | refine WC.cond_b rfl (fun hc => ?_) (fun hc => ?_))
    refine WL.load rfl (gBn.cell rfl) rfl ?_
    repeat' (first | apply WL.fold | apply WA.fold | apply WL.nil | apply WX.n_then | apply WC.seq | apply WC.region | refine WL.pa ?_ | refine WL.ga rfl ?_ | refine WL.na rfl ?_ | refine WL.nu rfl rfl ?_ | apply WC.block | apply WC.skip | apply WC.exit | apply WC.ret | apply WX.e_block | refine WX.e_other rfl ?_ | apply WX.e_then | apply WX.e_again | apply WX.n_block | apply WX.r_then | apply WX.r_block | apply WX.r_again | refine WC.cond_yes rfl ?_ | refine WC.cond_no rfl ?_ | refine WC.cond rfl (fun hc => ?_) (fun hc => ?_) | refine WC.cond_b rfl (fun hc => ?_) (fun hc => ?_))
    refine WL.one (W1.make' rfl rfl rfl rfl rfl (Nat.le_refl _) (by omega) (by omega) rfl ?_)
    intro b5 w5 e5 s5 x5 k5
    repeat' (first | apply WL.fold | apply WA.fold | apply WL.nil | apply WX.n_then | apply WC.seq | apply WC.region | refine WL.pa ?_ | refine WL.ga rfl ?_ | refine WL.na rfl ?_ | refine WL.nu rfl rfl ?_ | apply WC.block | apply WC.skip | apply WC.exit | apply WC.ret | apply WX.e_block | refine WX.e_other rfl ?_ | apply WX.e_then | apply WX.e_again | apply WX.n_block | apply WX.r_then | apply WX.r_block | apply WX.r_again | refine WC.cond_yes rfl ?_ | refine WC.cond_no rfl ?_ | refine WC.cond rfl (fun hc => ?_) (fun hc => ?_) | refine WC.cond_b rfl (fun hc => ?_) (fun hc => ?_))
    refine WL.load rfl ((gBn.ext x5).cell rfl) rfl ?_
    repeat' (first | apply WL.fold | apply WA.fold | apply WL.nil | apply WX.n_then | apply WC.seq | apply WC.region | refine WL.pa ?_ | refine WL.ga rfl ?_ | refine WL.na rfl ?_ | refine WL.nu rfl rfl ?_ | apply WC.block | apply WC.skip | apply WC.exit | apply WC.ret | apply WX.e_block | refine WX.e_other rfl ?_ | apply WX.e_then | apply WX.e_again | apply WX.n_block | apply WX.r_then | apply WX.r_block | apply WX.r_again | refine WC.cond_yes rfl ?_ | refine WC.cond_no rfl ?_ | refine WC.cond rfl (fun hc => ?_) (fun hc => ?_) | refine WC.cond_b rfl (fun hc => ?_) (fun hc => ?_))
    refine WC.loop (α := Nat) (fun k => [(0, .func (.yield l) #[] #[]), (1, .pointer (some ⟨bf, 0, none⟩)), (2, .pointer (some ⟨bn, 0, none⟩)), (4, iv j), (5, .slice (some ⟨b5, 0, none⟩) nums.length nums.length), (14, iv m), (15, iv j),
        (21, .slice (some ⟨b0, off, none⟩) nums.length c), (22, iv nums.length), (23, iv k)])
      (fun k w2 => k ≤ nums.length ∧ Ext w' w2 ∧ Blk w2 b5 (row nums.length fun q => if q < k then iv (sb (fr frs (nu nums q)) j) else iv 0) 3) (fun k => nums.length - k) 0
      ⟨rfl, rfl, rfl, rfl, rfl, rfl, rfl, rfl, rfl, rfl, trivial⟩ ⟨by omega, x5, (congrArg (fun l => Blk w5 b5 l _) ((row_rep _ _).trans (row_congr fun q _ => by simp))).mp k5⟩ ?_
    rintro k w2 ⟨hk, hx2, hB5⟩
    by_cases hklt : k < nums.length
    · have hik := hn _ (nu_mem hklt)
      have hmk := hm _ (nu_mem hklt)
      have hsb := sb_lt (fr frs (nu nums k)) j
      repeat' (first | apply WL.fold | apply WA.fold | apply WL.nil | apply WX.n_then | apply WC.seq | apply WC.region | refine WL.pa ?_ | refine WL.ga rfl ?_ | refine WL.na rfl ?_ | refine WL.nu rfl rfl ?_ | apply WC.block | apply WC.skip | apply WC.exit | apply WC.ret | apply WX.e_block | refine WX.e_other rfl ?_ | apply WX.e_then | apply WX.e_again | apply WX.n_block | apply WX.r_then | apply WX.r_block | apply WX.r_again | refine WC.cond_yes rfl ?_ | refine WC.cond_no rfl ?_ | refine WC.cond rfl (fun hc => ?_) (fun hc => ?_) | refine WC.cond_b rfl (fun hc => ?_) (fun hc => ?_))
      refine WL.load rfl ((gRn.ext hx2).cell (hnum k hklt)) rfl ?_
      repeat' (first | apply WL.fold | apply WA.fold | apply WL.nil | apply WX.n_then | apply WC.seq | apply WC.region | refine WL.pa ?_ | refine WL.ga rfl ?_ | refine WL.na rfl ?_ | refine WL.nu rfl rfl ?_ | apply WC.block | apply WC.skip | apply WC.exit | apply WC.ret | apply WX.e_block | refine WX.e_other rfl ?_ | apply WX.e_then | apply WX.e_again | apply WX.n_block | apply WX.r_then | apply WX.r_block | apply WX.r_again | refine WC.cond_yes rfl ?_ | refine WC.cond_no rfl ?_ | refine WC.cond rfl (fun hc => ?_) (fun hc => ?_) | refine WC.cond_b rfl (fun hc => ?_) (fun hc => ?_))
      refine WL.load rfl ((gBf.ext hx2).cell rfl) rfl ?_
      repeat' (first | apply WL.fold | apply WA.fold | apply WL.nil | apply WX.n_then | apply WC.seq | apply WC.region | refine WL.pa ?_ | refine WL.ga rfl ?_ | refine WL.na rfl ?_ | refine WL.nu rfl rfl ?_ | apply WC.block | apply WC.skip | apply WC.exit | apply WC.ret | apply WX.e_block | refine WX.e_other rfl ?_ | apply WX.e_then | apply WX.e_again | apply WX.n_block | apply WX.r_then | apply WX.r_block | apply WX.r_again | refine WC.cond_yes rfl ?_ | refine WC.cond_no rfl ?_ | refine WC.cond rfl (fun hc => ?_) (fun hc => ?_) | refine WC.cond_b rfl (fun hc => ?_) (fun hc => ?_))
      refine WL.load rfl ((gRf.ext hx2).cell (strs_get hik)) rfl ?_
      repeat' (first | apply WL.fold | apply WA.fold | apply WL.nil | apply WX.n_then | apply WC.seq | apply WC.region | refine WL.pa ?_ | refine WL.ga rfl ?_ | refine WL.na rfl ?_ | refine WL.nu rfl rfl ?_ | apply WC.block | apply WC.skip | apply WC.exit | apply WC.ret | apply WX.e_block | refine WX.e_other rfl ?_ | apply WX.e_then | apply WX.e_again | apply WX.n_block | apply WX.r_then | apply WX.r_block | apply WX.r_again | refine WC.cond_yes rfl ?_ | refine WC.cond_no rfl ?_ | refine WC.cond rfl (fun hc => ?_) (fun hc => ?_) | refine WC.cond_b rfl (fun hc => ?_) (fun hc => ?_))
      refine WL.one (W1.store' rfl rfl (by intro _ h; cases h) (by intro _ h; cases h) hB5 (by rw [row_len]; omega) fun w6 u6 hB6 => ?_)
      repeat' (first | apply WL.fold | apply WA.fold | apply WL.nil | apply WX.n_then | apply WC.seq | apply WC.region | refine WL.pa ?_ | refine WL.ga rfl ?_ | refine WL.na rfl ?_ | refine WL.nu rfl rfl ?_ | apply WC.block | apply WC.skip | apply WC.exit | apply WC.ret | apply WX.e_block | refine WX.e_other rfl ?_ | apply WX.e_then | apply WX.e_again | apply WX.n_block | apply WX.r_then | apply WX.r_block | apply WX.r_again | refine WC.cond_yes rfl ?_ | refine WC.cond_no rfl ?_ | refine WC.cond rfl (fun hc => ?_) (fun hc => ?_) | refine WC.cond_b rfl (fun hc => ?_) (fun hc => ?_))
      refine WX.again (k + 1) ⟨by omega, u6.ext hx2 (by omega), ?_⟩ (by omega) ⟨rfl, rfl, rfl, rfl, rfl, rfl, rfl, rfl, rfl, rfl, trivial⟩
      rw [row_set] at hB6
      refine (congrArg (fun l => Blk w6 b5 l _) (row_congr fun q hq => ?_)).mp hB6
      by_cases e : q = k
      · subst e; simp
      · have : (q < k + 1) = (q < k) := by simp only [eq_iff_iff]; omega
        simp only [e, if_false, this]
    · obtain rfl : k = nums.length := by omega
      repeat' (first | apply WL.fold | apply WA.fold | apply WL.nil | apply WX.n_then | apply WC.seq | apply WC.region | refine WL.pa ?_ | refine WL.ga rfl ?_ | refine WL.na rfl ?_ | refine WL.nu rfl rfl ?_ | apply WC.block | apply WC.skip | apply WC.exit | apply WC.ret | apply WX.e_block | refine WX.e_other rfl ?_ | apply WX.e_then | apply WX.e_again | apply WX.n_block | apply WX.r_then | apply WX.r_block | apply WX.r_again | refine WC.cond_yes rfl ?_ | refine WC.cond_no rfl ?_ | refine WC.cond rfl (fun hc => ?_) (fun hc => ?_) | refine WC.cond_b rfl (fun hc => ?_) (fun hc => ?_))
      refine WL.one (W1.yield rfl rfl rfl (hY j w2 _ hlt (hE j _ _ hInv hx2) ?_) ?_)
      · have := Rd.of_blk hB5 (l := nums.length) (c := nums.length) (by rw [row_len]; exact Nat.le_refl _) (Nat.le_refl _)
        rw [List.take_of_length_le (by rw [row_len]; exact Nat.le_refl _)] at this
        refine (congrArg (Rd w2 _) ?_).mp this
        apply List.ext_getElem
        · simp [row]
        · intro q h1 h2
          have hq : q < nums.length := by simpa [row] using h1
          simp [row, hq, nu]
      · rintro _ w6 ⟨rfl, hI6⟩
        repeat' (first | apply WL.fold | apply WA.fold | apply WL.nil | apply WX.n_then | apply WC.seq | apply WC.region | refine WL.pa ?_ | refine WL.ga rfl ?_ | refine WL.na rfl ?_ | refine WL.nu rfl rfl ?_ | apply WC.block | apply WC.skip | apply WC.exit | apply WC.ret | apply WX.e_block | refine WX.e_other rfl ?_ | apply WX.e_then | apply WX.e_again | apply WX.n_block | apply WX.r_then | apply WX.r_block | apply WX.r_again | refine WC.cond_yes rfl ?_ | refine WC.cond_no rfl ?_ | refine WC.cond rfl (fun hc => ?_) (fun hc => ?_) | refine WC.cond_b rfl (fun hc => ?_) (fun hc => ?_))
        exact WX.again (j + 1) ⟨by omega, hI6⟩ (by omega) ⟨rfl, rfl, rfl, rfl, rfl, trivial⟩
  · obtain rfl : j = m := by omega
    repeat' (first | apply WL.fold | apply WA.fold | apply WL.nil | apply WX.n_then | apply WC.seq | apply WC.region | refine WL.pa ?_ | refine WL.ga rfl ?_ | refine WL.na rfl ?_ | refine WL.nu rfl rfl ?_ | apply WC.block | apply WC.skip | apply WC.exit | apply WC.ret | apply WX.e_block | refine WX.e_other rfl ?_ | apply WX.e_then | apply WX.e_again | apply WX.n_block | apply WX.r_then | apply WX.r_block | apply WX.r_again | refine WC.cond_yes rfl ?_ | refine WC.cond_no rfl ?_ | refine WC.cond rfl (fun hc => ?_) (fun hc => ?_) | refine WC.cond_b rfl (fun hc => ?_) (fun hc => ?_))
    exact WX.end0 rfl hInv
end Go.Sx
/- Chapter 17: computed: a range over the iterator. -/
namespace Go.Sx
open Go Go.Proofs
attribute [local irreducible] WC WL WX POp Then Again Fn NX W1 WA WO QL RP RA Yld LoopAt
theorem computed_fn (vf vn : Value) (frs : List ByteArray) (nums : List Nat) (wt : Nat → Nat) (m : Nat) (hne : nums ≠ []) (hn : ∀ i ∈ nums, i < frs.length) (hn9 : ∀ i ∈ nums, i < 9) (hm : ∀ i ∈ nums, (fr frs i).size = m) (hm4 : m ≤ 4096)
    (hl : nums.length ≤ 100) (hW : ∀ i, wt i < 256) (w : World) (hr : Red w) (hRf : Rd w vf (strs frs)) (hRn : Rd w vn (nums.map iv)) :
    Fn Tryd.prog 19 #[vf, vn, .agg (row 9 fun j => iv (wt j)).toArray] w fun v w' => v = .string (cmpStr frs nums wt m) ∧ Ext w w' := by
  have hcf := hRf; have hcn := hRn
  obtain ⟨b0, off, c, rfl, hc, hb0, -⟩ := hRn.at (by simpa using hne)
  have hp0 := len_pos hne
  have hi0 := hn _ (nu_mem hp0)
  have hfne : strs frs ≠ [] := by
    intro e
    have h1 : (strs frs).length = 0 := by rw [e]; rfl
    simp only [strs, List.length_map] at h1
    omega
  obtain ⟨b1, off1, c1, rfl, hc1, hb1, -⟩ := hRf.at hfne
  have hlf : (strs frs).length = frs.length := by simp [strs]
  simp only [List.length_map, hlf] at hc hc1 hRf hRn hcf hcn ⊢
  have hm0 := hm _ (nu_mem hp0)
  have hnum : ∀ k, k < nums.length → (nums.map iv)[k]? = some (iv (nu nums k)) := fun k hk => by simp [nu_get hk]
  refine enterM (l := [_, _, _]) rfl Tryd.ntmps19 rfl ?_
  repeat' (first | apply WL.fold | apply WA.fold | apply WL.nil | apply WX.n_then | apply WC.seq | apply WC.region | refine WL.pa ?_ | refine WL.ga rfl ?_ | refine WL.na rfl ?_ | refine WL.nu rfl rfl ?_ | apply WC.block | apply WC.skip | apply WC.exit | apply WC.ret | apply WX.e_block | refine WX.e_other rfl ?_ | apply WX.e_then | apply WX.e_again | apply WX.n_block | apply WX.r_then | apply WX.r_block | apply WX.r_again | refine WC.cond_yes rfl ?_ | refine WC.cond_no rfl ?_ | refine WC.cond rfl (fun hc => ?_) (fun hc => ?_) | refine WC.cond_b rfl (fun hc => ?_) (fun hc => ?_))
  refine WL.one (W1.box' rfl rfl rfl ?_)
  intro c1' w1 e1 s1 x1 k1
  repeat' (first | apply WL.fold | apply WA.fold | apply WL.nil | apply WX.n_then | apply WC.seq | apply WC.region | refine WL.pa ?_ | refine WL.ga rfl ?_ | refine WL.na rfl ?_ | refine WL.nu rfl rfl ?_ | apply WC.block | apply WC.skip | apply WC.exit | apply WC.ret | apply WX.e_block | refine WX.e_other rfl ?_ | apply WX.e_then | apply WX.e_again | apply WX.n_block | apply WX.r_then | apply WX.r_block | apply WX.r_again | refine WC.cond_yes rfl ?_ | refine WC.cond_no rfl ?_ | refine WC.cond rfl (fun hc => ?_) (fun hc => ?_) | refine WC.cond_b rfl (fun hc => ?_) (fun hc => ?_))
  refine WL.one (W1.boxAgg' rfl rfl ?_)
  intro c2 w2 e2 s2 x2 k2
  repeat' (first | apply WL.fold | apply WA.fold | apply WL.nil | apply WX.n_then | apply WC.seq | apply WC.region | refine WL.pa ?_ | refine WL.ga rfl ?_ | refine WL.na rfl ?_ | refine WL.nu rfl rfl ?_ | apply WC.block | apply WC.skip | apply WC.exit | apply WC.ret | apply WX.e_block | refine WX.e_other rfl ?_ | apply WX.e_then | apply WX.e_again | apply WX.n_block | apply WX.r_then | apply WX.r_block | apply WX.r_again | refine WC.cond_yes rfl ?_ | refine WC.cond_no rfl ?_ | refine WC.cond rfl (fun hc => ?_) (fun hc => ?_) | refine WC.cond_b rfl (fun hc => ?_) (fun hc => ?_))
  have x02 := x1.trans x2
  refine WL.load rfl ((k1.ext x2).cell rfl) rfl ?_
  repeat' (first | apply WL.fold | apply WA.fold | apply WL.nil | apply WX.n_then | apply WC.seq | apply WC.region | refine WL.pa ?_ | refine WL.ga rfl ?_ | refine WL.na rfl ?_ | refine WL.nu rfl rfl ?_ | apply WC.block | apply WC.skip | apply WC.exit | apply WC.ret | apply WX.e_block | refine WX.e_other rfl ?_ | apply WX.e_then | apply WX.e_again | apply WX.n_block | apply WX.r_then | apply WX.r_block | apply WX.r_again | refine WC.cond_yes rfl ?_ | refine WC.cond_no rfl ?_ | refine WC.cond rfl (fun hc => ?_) (fun hc => ?_) | refine WC.cond_b rfl (fun hc => ?_) (fun hc => ?_))
  refine WL.load rfl ((hRn.ext x02).cell (hnum 0 hp0)) rfl ?_
  repeat' (first | apply WL.fold | apply WA.fold | apply WL.nil | apply WX.n_then | apply WC.seq | apply WC.region | refine WL.pa ?_ | refine WL.ga rfl ?_ | refine WL.na rfl ?_ | refine WL.nu rfl rfl ?_ | apply WC.block | apply WC.skip | apply WC.exit | apply WC.ret | apply WX.e_block | refine WX.e_other rfl ?_ | apply WX.e_then | apply WX.e_again | apply WX.n_block | apply WX.r_then | apply WX.r_block | apply WX.r_again | refine WC.cond_yes rfl ?_ | refine WC.cond_no rfl ?_ | refine WC.cond rfl (fun hc => ?_) (fun hc => ?_) | refine WC.cond_b rfl (fun hc => ?_) (fun hc => ?_))
  refine WL.load rfl ((hRf.ext x02).cell (strs_get hi0)) rfl ?_
  repeat' (first | apply WL.fold | apply WA.fold | apply WL.nil | apply WX.n_then | apply WC.seq | apply WC.region | refine WL.pa ?_ | refine WL.ga rfl ?_ | refine WL.na rfl ?_ | refine WL.nu rfl rfl ?_ | apply WC.block | apply WC.skip | apply WC.exit | apply WC.ret | apply WX.e_block | refine WX.e_other rfl ?_ | apply WX.e_then | apply WX.e_again | apply WX.n_block | apply WX.r_then | apply WX.r_block | apply WX.r_again | refine WC.cond_yes rfl ?_ | refine WC.cond_no rfl ?_ | refine WC.cond rfl (fun hc => ?_) (fun hc => ?_) | refine WC.cond_b rfl (fun hc => ?_) (fun hc => ?_))
  rw [hm0]
  refine WL.one (W1.make' rfl rfl rfl rfl rfl (Nat.le_refl _) (by omega) (by omega) rfl ?_)
  intro bo w3 e3 s3 x3 k3
  repeat' (first | apply WL.fold | apply WA.fold | apply WL.nil | apply WX.n_then | apply WC.seq | apply WC.region | refine WL.pa ?_ | refine WL.ga rfl ?_ | refine WL.na rfl ?_ | refine WL.nu rfl rfl ?_ | apply WC.block | apply WC.skip | apply WC.exit | apply WC.ret | apply WX.e_block | refine WX.e_other rfl ?_ | apply WX.e_then | apply WX.e_again | apply WX.n_block | apply WX.r_then | apply WX.r_block | apply WX.r_again | refine WC.cond_yes rfl ?_ | refine WC.cond_no rfl ?_ | refine WC.cond rfl (fun hc => ?_) (fun hc => ?_) | refine WC.cond_b rfl (fun hc => ?_) (fun hc => ?_))
  refine WL.one (W1.alloc' (cs := [.slice none 0 0]) rfl rfl ?_)
  intro bv w4 e4 s4 x4 k4
  repeat' (first | apply WL.fold | apply WA.fold | apply WL.nil | apply WX.n_then | apply WC.seq | apply WC.region | refine WL.pa ?_ | refine WL.ga rfl ?_ | refine WL.na rfl ?_ | refine WL.nu rfl rfl ?_ | apply WC.block | apply WC.skip | apply WC.exit | apply WC.ret | apply WX.e_block | refine WX.e_other rfl ?_ | apply WX.e_then | apply WX.e_again | apply WX.n_block | apply WX.r_then | apply WX.r_block | apply WX.r_again | refine WC.cond_yes rfl ?_ | refine WC.cond_no rfl ?_ | refine WC.cond rfl (fun hc => ?_) (fun hc => ?_) | refine WC.cond_b rfl (fun hc => ?_) (fun hc => ?_))
  refine WL.one (W1.store' rfl rfl (by intro _ h; cases h) (by intro _ h; cases h) k4 (by decide) fun w5 u5 k5 => ?_)
  simp only [List.set_cons_zero] at k5
  have x05 : Ext w w5 := u5.ext ((x02.trans x3).trans x4) (by omega)
  have x25 : Ext w2 w5 := u5.ext (x3.trans x4) (by omega)
  have k35 : Blk w5 bo _ _ := (k3.ext x4).keep1 u5 (by omega)
  repeat' (first | apply WL.fold | apply WA.fold | apply WL.nil | apply WX.n_then | apply WC.seq | apply WC.region | refine WL.pa ?_ | refine WL.ga rfl ?_ | refine WL.na rfl ?_ | refine WL.nu rfl rfl ?_ | apply WC.block | apply WC.skip | apply WC.exit | apply WC.ret | apply WX.e_block | refine WX.e_other rfl ?_ | apply WX.e_then | apply WX.e_again | apply WX.n_block | apply WX.r_then | apply WX.r_block | apply WX.r_again | refine WC.cond_yes rfl ?_ | refine WC.cond_no rfl ?_ | refine WC.cond rfl (fun hc => ?_) (fun hc => ?_) | refine WC.cond_b rfl (fun hc => ?_) (fun hc => ?_))
  refine WL.load rfl ((k1.ext (x2.trans x25)).cell rfl) rfl ?_
  repeat' (first | apply WL.fold | apply WA.fold | apply WL.nil | apply WX.n_then | apply WC.seq | apply WC.region | refine WL.pa ?_ | refine WL.ga rfl ?_ | refine WL.na rfl ?_ | refine WL.nu rfl rfl ?_ | apply WC.block | apply WC.skip | apply WC.exit | apply WC.ret | apply WX.e_block | refine WX.e_other rfl ?_ | apply WX.e_then | apply WX.e_again | apply WX.n_block | apply WX.r_then | apply WX.r_block | apply WX.r_again | refine WC.cond_yes rfl ?_ | refine WC.cond_no rfl ?_ | refine WC.cond rfl (fun hc => ?_) (fun hc => ?_) | refine WC.cond_b rfl (fun hc => ?_) (fun hc => ?_))
  refine WL.call rfl rfl (columns_fn _ _ rfl rfl _) ?_
  rintro _ w6 ⟨c3, c4, rfl, x6, hc3, hc4, k6, k7⟩
  repeat' (first | apply WL.fold | apply WA.fold | apply WL.nil | apply WX.n_then | apply WC.seq | apply WC.region | refine WL.pa ?_ | refine WL.ga rfl ?_ | refine WL.na rfl ?_ | refine WL.nu rfl rfl ?_ | apply WC.block | apply WC.skip | apply WC.exit | apply WC.ret | apply WX.e_block | refine WX.e_other rfl ?_ | apply WX.e_then | apply WX.e_again | apply WX.n_block | apply WX.r_then | apply WX.r_block | apply WX.r_again | refine WC.cond_yes rfl ?_ | refine WC.cond_no rfl ?_ | refine WC.cond rfl (fun hc => ?_) (fun hc => ?_) | refine WC.cond_b rfl (fun hc => ?_) (fun hc => ?_))
  refine WC.sub [(4, .pointer (some ⟨c1', 0, none⟩)), (5, .pointer (some ⟨c2, 0, none⟩)), (7, .pointer (some ⟨bv, 0, none⟩)), (23, .func (.func 52) #[] #[.pointer (some ⟨c3, 0, none⟩), .pointer (some ⟨c4, 0, none⟩)])] ?_ ⟨rfl, rfl, rfl, rfl, trivial⟩
  refine WC.rangeFunc' (lb := [_, _]) rfl ?_
  intro w7 D l L hL hD hl' s7 x7 hL7 hD7
  have x57 := x6.trans x7
  have x07 := x05.trans x57
  have hlt1 := k1.lt
  have hlt5 := k5.lt
  have sz5 : w5.heap.size = bv + 1 := by rw [u5.size]; exact s4
  have sz6 := x6.size
  have vlt := k6.lt; have vlt7 := k7.lt
  refine (columns1_fn l c3 c4 (.slice (some ⟨b1, off1, none⟩) frs.length c1) (.slice (some ⟨b0, off, none⟩) nums.length c) frs nums m hne hn hm hm4 hl
    (fun j V => L .ready none V ∧ V.heap[D]? = some (.deferred (some [])) ∧ Ext w V ∧ Blk V c1' [.slice (some ⟨b0, off, none⟩) nums.length c] 38 ∧ Blk V c2 (row 9 fun j => iv (wt j)) 48 ∧
      Blk V bv [.slice (some ⟨bo, 0, none⟩) m m] 36 ∧ Blk V bo (row m fun q => .int .u8 (if q < j then ((cmpS frs nums wt q : Nat) : Int) else 0)) 5 ∧ Blk V c3 [.slice (some ⟨b1, off1, none⟩) frs.length c1] 24 ∧ Blk V c4 [.slice (some ⟨b0, off, none⟩) nums.length c] 38)
    ?hII ?hEE ?hYY w7 ?hZZ).mono ?_
  case hII => exact fun j V h => ⟨h.2.2.2.2.2.2.2.1, h.2.2.2.2.2.2.2.2, hRf.ext h.2.2.1, hRn.ext h.2.2.1⟩
  case hEE =>
    rintro j V V' ⟨h1, h2, h3, h4, h5, h6, h7, h8, h9⟩ hx
    refine ⟨(hL _ _ _).2 (((hL _ _ _).1 h1).ext hx), (hx.block D (Array.getElem?_eq_some_iff.1 h2).1).trans h2, h3.trans hx, h4.ext hx, h5.ext hx, h6.ext hx, h7.ext hx, h8.ext hx, h9.ext hx⟩
  case hZZ =>
    refine ⟨hL7, hD7, x07, k1.ext (x2.trans (x25.trans x57)), k2.ext (x25.trans x57), k5.ext x57, ?_, k6.ext x7, k7.ext x7⟩
    exact (congrArg (fun l => Blk w7 bo l _) ((row_rep _ _).trans (row_congr fun q _ => by simp))).mp (k35.ext x57)
  case hYY =>
    rintro j V vb hj ⟨h1, h2, h3, h4, h5, h6, h7, h8, h9⟩ hvb
    obtain ⟨bb, offb, cb, rfl, hcb, hbb, -⟩ := hvb.at (by simpa using hne)
    simp only [List.length_map] at hcb hvb ⊢
    refine Yld.of ((hL _ _ _).1 h1) rfl rfl ?_
    repeat' (first | apply WL.fold | apply WA.fold | apply WL.nil | apply WX.n_then | apply WC.seq | apply WC.region | refine WL.pa ?_ | refine WL.ga rfl ?_ | refine WL.na rfl ?_ | refine WL.nu rfl rfl ?_ | apply WC.block | apply WC.skip | apply WC.exit | apply WC.ret | apply WX.e_block | refine WX.e_other rfl ?_ | apply WX.e_then | apply WX.e_again | apply WX.n_block | apply WX.r_then | apply WX.r_block | apply WX.r_again | refine WC.cond_yes rfl ?_ | refine WC.cond_no rfl ?_ | refine WC.cond rfl (fun hc => ?_) (fun hc => ?_) | refine WC.cond_b rfl (fun hc => ?_) (fun hc => ?_))
    refine WX.ra ((hL _ _ _).1 h1) (fun V1 u1 hL1 => ?_)
    have g3 : Ext w V1 := u1.ext h3 (by omega)
    have g4 := h4.loop1 ((hL _ _ _).1 h1) u1
    have g5 := h5.loop1 ((hL _ _ _).1 h1) u1
    have g6 := h6.loop1 ((hL _ _ _).1 h1) u1
    have g7 := h7.loop1 ((hL _ _ _).1 h1) u1
    have g8 := h8.loop1 ((hL _ _ _).1 h1) u1
    have g9 := h9.loop1 ((hL _ _ _).1 h1) u1
    have gvb := hvb.loop1 ((hL _ _ _).1 h1) u1
    have g2 : V1.heap[D]? = some (.deferred (some [])) := (u1.block D (by omega)).trans h2
    repeat' (first | apply WL.fold | apply WA.fold | apply WL.nil | apply WX.n_then | apply WC.seq | apply WC.region | refine WL.pa ?_ | refine WL.ga rfl ?_ | refine WL.na rfl ?_ | refine WL.nu rfl rfl ?_ | apply WC.block | apply WC.skip | apply WC.exit | apply WC.ret | apply WX.e_block | refine WX.e_other rfl ?_ | apply WX.e_then | apply WX.e_again | apply WX.n_block | apply WX.r_then | apply WX.r_block | apply WX.r_again | refine WC.cond_yes rfl ?_ | refine WC.cond_no rfl ?_ | refine WC.cond rfl (fun hc => ?_) (fun hc => ?_) | refine WC.cond_b rfl (fun hc => ?_) (fun hc => ?_))
    refine WL.load rfl (g4.cell rfl) rfl ?_
    repeat' (first | apply WL.fold | apply WA.fold | apply WL.nil | apply WX.n_then | apply WC.seq | apply WC.region | refine WL.pa ?_ | refine WL.ga rfl ?_ | refine WL.na rfl ?_ | refine WL.nu rfl rfl ?_ | apply WC.block | apply WC.skip | apply WC.exit | apply WC.ret | apply WX.e_block | refine WX.e_other rfl ?_ | apply WX.e_then | apply WX.e_again | apply WX.n_block | apply WX.r_then | apply WX.r_block | apply WX.r_again | refine WC.cond_yes rfl ?_ | refine WC.cond_no rfl ?_ | refine WC.cond rfl (fun hc => ?_) (fun hc => ?_) | refine WC.cond_b rfl (fun hc => ?_) (fun hc => ?_))
    refine WC.loop (α := Nat) (fun k => [(4, .pointer (some ⟨c1', 0, none⟩)), (5, .pointer (some ⟨c2, 0, none⟩)), (7, .pointer (some ⟨bv, 0, none⟩)), (8, iv j), (9, .slice (some ⟨bb, offb, none⟩) nums.length cb),
        (10, iv ((nums.take k).foldl (cmpF frs wt j) 0)), (26, .slice (some ⟨b0, off, none⟩) nums.length c), (27, iv nums.length), (28, iv k)])
      (fun k V2 => k ≤ nums.length ∧ Ext V1 V2) (fun k => nums.length - k) 0 ⟨rfl, rfl, rfl, rfl, rfl, rfl, rfl, rfl, rfl, trivial⟩ ⟨by omega, Ext.refl _⟩ ?_
    rintro k V2 ⟨hk, hx2⟩
    have hrV : Red V2 := hr.ext (g3.trans hx2)
    have hacc := cmpFold_lt frs wt j (nums.take k) 0 (by decide)
    by_cases hklt : k < nums.length
    · have hik := hn _ (nu_mem hklt)
      have hi9 := hn9 _ (nu_mem hklt)
      have hstep : (nums.take (k + 1)).foldl (cmpF frs wt j) 0 = cmpF frs wt j ((nums.take k).foldl (cmpF frs wt j) 0) (nu nums k) := by
        rw [take_succ_foldl _ _ _ _ hklt]; simp [nu, hklt]
      generalize hA : (nums.take k).foldl (cmpF frs wt j) 0 = A at *
      have hsb := sb_lt (fr frs (nu nums k)) j
      have hcb : V2.cell? ⟨bb, offb + k, none⟩ = some (iv (sb (fr frs (nu nums k)) j)) := by
        refine cell_ext hx2 (gvb.cell ?_)
        simp [nu_get hklt]
      repeat' (first | apply WL.fold | apply WA.fold | apply WL.nil | apply WX.n_then | apply WC.seq | apply WC.region | refine WL.pa ?_ | refine WL.ga rfl ?_ | refine WL.na rfl ?_ | refine WL.nu rfl rfl ?_ | apply WC.block | apply WC.skip | apply WC.exit | apply WC.ret | apply WX.e_block | refine WX.e_other rfl ?_ | apply WX.e_then | apply WX.e_again | apply WX.n_block | apply WX.r_then | apply WX.r_block | apply WX.r_again | refine WC.cond_yes rfl ?_ | refine WC.cond_no rfl ?_ | refine WC.cond rfl (fun hc => ?_) (fun hc => ?_) | refine WC.cond_b rfl (fun hc => ?_) (fun hc => ?_))
      refine WL.load rfl ((hRn.ext (g3.trans hx2)).cell (hnum k hklt)) rfl ?_
      repeat' (first | apply WL.fold | apply WA.fold | apply WL.nil | apply WX.n_then | apply WC.seq | apply WC.region | refine WL.pa ?_ | refine WL.ga rfl ?_ | refine WL.na rfl ?_ | refine WL.nu rfl rfl ?_ | apply WC.block | apply WC.skip | apply WC.exit | apply WC.ret | apply WX.e_block | refine WX.e_other rfl ?_ | apply WX.e_then | apply WX.e_again | apply WX.n_block | apply WX.r_then | apply WX.r_block | apply WX.r_again | refine WC.cond_yes rfl ?_ | refine WC.cond_no rfl ?_ | refine WC.cond rfl (fun hc => ?_) (fun hc => ?_) | refine WC.cond_b rfl (fun hc => ?_) (fun hc => ?_))
      apply WC.quiet (by kernel_rfl)
      refine QL.pa ?_
      refine QL.pa ?_
      refine QL.pa ?_
      refine QL.load rfl ((g5.ext hx2).cell (row_get _ hi9)) rfl ?_
      refine QL.pa ?_
      refine QL.pa ?_
      refine QL.pa ?_
      refine QL.load rfl hcb rfl ?_
      refine QL.call rfl rfl (fun w' hw' => (mul_yes _ _ (hW _) hsb w' (hrV.ext hw')).mono fun u w'' h => ⟨h.1, h.2 ▸ Ext.refl _⟩) ?_
      have hm8 : mulN (wt (nu nums k)) (sb (fr frs (nu nums k)) j) < 256 := mulN_lt
      refine QL.pa ?_
      refine QL.pa ?_
      refine QL.nil (fun V3 hx3 => ?_)
      repeat' (first | apply WL.fold | apply WA.fold | apply WL.nil | apply WX.n_then | apply WC.seq | apply WC.region | refine WL.pa ?_ | refine WL.ga rfl ?_ | refine WL.na rfl ?_ | refine WL.nu rfl rfl ?_ | apply WC.block | apply WC.skip | apply WC.exit | apply WC.ret | apply WX.e_block | refine WX.e_other rfl ?_ | apply WX.e_then | apply WX.e_again | apply WX.n_block | apply WX.r_then | apply WX.r_block | apply WX.r_again | refine WC.cond_yes rfl ?_ | refine WC.cond_no rfl ?_ | refine WC.cond rfl (fun hc => ?_) (fun hc => ?_) | refine WC.cond_b rfl (fun hc => ?_) (fun hc => ?_))
      refine WX.again (k + 1) ⟨by omega, hx2.trans hx3⟩ (by omega) ⟨rfl, rfl, rfl, rfl, rfl, ?_, rfl, rfl, rfl, trivial⟩
      rw [hstep]; rfl
    · obtain rfl : k = nums.length := by omega
      have hS : (nums.take nums.length).foldl (cmpF frs wt j) 0 = cmpS frs nums wt j := by rw [List.take_length]; rfl
      rw [hS] at hacc ⊢
      repeat' (first | apply WL.fold | apply WA.fold | apply WL.nil | apply WX.n_then | apply WC.seq | apply WC.region | refine WL.pa ?_ | refine WL.ga rfl ?_ | refine WL.na rfl ?_ | refine WL.nu rfl rfl ?_ | apply WC.block | apply WC.skip | apply WC.exit | apply WC.ret | apply WX.e_block | refine WX.e_other rfl ?_ | apply WX.e_then | apply WX.e_again | apply WX.n_block | apply WX.r_then | apply WX.r_block | apply WX.r_again | refine WC.cond_yes rfl ?_ | refine WC.cond_no rfl ?_ | refine WC.cond rfl (fun hc => ?_) (fun hc => ?_) | refine WC.cond_b rfl (fun hc => ?_) (fun hc => ?_))
      refine WL.load rfl ((g6.ext hx2).cell rfl) rfl ?_
      repeat' (first | apply WL.fold | apply WA.fold | apply WL.nil | apply WX.n_then | apply WC.seq | apply WC.region | refine WL.pa ?_ | refine WL.ga rfl ?_ | refine WL.na rfl ?_ | refine WL.nu rfl rfl ?_ | apply WC.block | apply WC.skip | apply WC.exit | apply WC.ret | apply WX.e_block | refine WX.e_other rfl ?_ | apply WX.e_then | apply WX.e_again | apply WX.n_block | apply WX.r_then | apply WX.r_block | apply WX.r_again | refine WC.cond_yes rfl ?_ | refine WC.cond_no rfl ?_ | refine WC.cond rfl (fun hc => ?_) (fun hc => ?_) | refine WC.cond_b rfl (fun hc => ?_) (fun hc => ?_))
      refine WL.one (W1.store' rfl rfl (by intro _ h; cases h) (by intro _ h; cases h) (g7.ext hx2) (by rw [row_len]; omega) fun V3 u3 hB => ?_)
      repeat' (first | apply WL.fold | apply WA.fold | apply WL.nil | apply WX.n_then | apply WC.seq | apply WC.region | refine WL.pa ?_ | refine WL.ga rfl ?_ | refine WL.na rfl ?_ | refine WL.nu rfl rfl ?_ | apply WC.block | apply WC.skip | apply WC.exit | apply WC.ret | apply WX.e_block | refine WX.e_other rfl ?_ | apply WX.e_then | apply WX.e_again | apply WX.n_block | apply WX.r_then | apply WX.r_block | apply WX.r_again | refine WC.cond_yes rfl ?_ | refine WC.cond_no rfl ?_ | refine WC.cond rfl (fun hc => ?_) (fun hc => ?_) | refine WC.cond_b rfl (fun hc => ?_) (fun hc => ?_))
      have hlbo : l ≠ bo := by omega
      have hDbo : D ≠ bo := by omega
      have hDl : D ≠ l := by omega
      have hL2 := hL1.ext hx2
      have hL3 := hL2.keep (u3.block l hlbo)
      refine WX.rp_n hL3 (fun V4 u4 hL4 => ?_)
      have g24 : V4.heap[D]? = some (.deferred (some [])) :=
        (u4.block D hDl).trans ((u3.block D hDbo).trans ((hx2.block D (Array.getElem?_eq_some_iff.1 g2).1).trans g2))
      refine ⟨rfl, (hL _ _ _).2 hL4, g24, u4.ext (u3.ext (g3.trans hx2) (by omega)) (by omega), ((g4.ext hx2).keep1 u3 (by omega)).loop1 hL3 u4, ((g5.ext hx2).keep1 u3 (by omega)).loop1 hL3 u4,
        ((g6.ext hx2).keep1 u3 (by omega)).loop1 hL3 u4, ?_, ((g8.ext hx2).keep1 u3 (by omega)).loop1 hL3 u4, ((g9.ext hx2).keep1 u3 (by omega)).loop1 hL3 u4⟩
      rw [row_set] at hB
      refine ((congrArg (fun l => Blk V3 bo l _) (row_congr fun q hq => ?_)).mp hB).loop1 hL3 u4
      by_cases e : q = j
      · subst e; simp
      · have : (q < j + 1) = (q < j) := by simp only [eq_iff_iff]; omega
        simp only [e, if_false, this]
  · rintro v8 w8 ⟨h1, h2, h3, h4, h5, h6, h7, h8, h9⟩
    refine .inl ⟨h1, fun w9 u9 => ?_⟩
    have h1' := (hL _ _ _).1 h1
    have f6 := h6.loop1 h1' u9
    have f7 := h7.loop1 h1' u9
    have f2 : w9.heap[D]? = some (.deferred (some [])) := (u9.block D (by omega)).trans h2
    have f3 : Ext w w9 := u9.ext h3 (by omega)
    repeat' (first | apply WL.fold | apply WA.fold | apply WL.nil | apply WX.n_then | apply WC.seq | apply WC.region | refine WL.pa ?_ | refine WL.ga rfl ?_ | refine WL.na rfl ?_ | refine WL.nu rfl rfl ?_ | apply WC.block | apply WC.skip | apply WC.exit | apply WC.ret | apply WX.e_block | refine WX.e_other rfl ?_ | apply WX.e_then | apply WX.e_again | apply WX.n_block | apply WX.r_then | apply WX.r_block | apply WX.r_again | refine WC.cond_yes rfl ?_ | refine WC.cond_no rfl ?_ | refine WC.cond rfl (fun hc => ?_) (fun hc => ?_) | refine WC.cond_b rfl (fun hc => ?_) (fun hc => ?_))
    refine WL.load rfl (f6.cell rfl) rfl ?_
    repeat' (first | apply WL.fold | apply WA.fold | apply WL.nil | apply WX.n_then | apply WC.seq | apply WC.region | refine WL.pa ?_ | refine WL.ga rfl ?_ | refine WL.na rfl ?_ | refine WL.nu rfl rfl ?_ | apply WC.block | apply WC.skip | apply WC.exit | apply WC.ret | apply WX.e_block | refine WX.e_other rfl ?_ | apply WX.e_then | apply WX.e_again | apply WX.n_block | apply WX.r_then | apply WX.r_block | apply WX.r_again | refine WC.cond_yes rfl ?_ | refine WC.cond_no rfl ?_ | refine WC.cond rfl (fun hc => ?_) (fun hc => ?_) | refine WC.cond_b rfl (fun hc => ?_) (fun hc => ?_))
    refine WL.one (W1.bytes_string (l := (List.range m).map fun q => UInt8.ofNat (cmpS frs nums wt q)) rfl (by simp) (fun q hq => ?_) rfl ?_)
    · have hq' : q < m := by simpa using hq
      have := cmpS_lt frs nums wt q
      rw [add_lit]
      refine f7.cell ?_
      rw [Nat.zero_add, row_get _ hq', if_pos hq']
      simp
      omega
    repeat' (first | apply WL.fold | apply WA.fold | apply WL.nil | apply WX.n_then | apply WC.seq | apply WC.region | refine WL.pa ?_ | refine WL.ga rfl ?_ | refine WL.na rfl ?_ | refine WL.nu rfl rfl ?_ | apply WC.block | apply WC.skip | apply WC.exit | apply WC.ret | apply WX.e_block | refine WX.e_other rfl ?_ | apply WX.e_then | apply WX.e_again | apply WX.n_block | apply WX.r_then | apply WX.r_block | apply WX.r_again | refine WC.cond_yes rfl ?_ | refine WC.cond_no rfl ?_ | refine WC.cond rfl (fun hc => ?_) (fun hc => ?_) | refine WC.cond_b rfl (fun hc => ?_) (fun hc => ?_))
    refine WX.retM1 rfl rfl f2 fun w10 u10 => ⟨rfl, u10.ext f3 (by omega)⟩
end Go.Sx

