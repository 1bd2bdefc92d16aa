/- Chapter 17: the reference's Size, Same, weight and at. -/
import Derived.Test.YtfjkdciblblalaaDoorL2
import Derived.Test.YtfjkdciblblalaaDoorGR
import Derived.Test.YtfjkdciblblalaaDoorHl
import Derived.Test.YtfjkdciblblalaaDoorHw
import Derived.Test.YtfjkdciblblalaaDoorHB
import Derived.Test.YtfjkdciblblalaaDoorHx6
import Derived.Test.YtfjkdciblblalaaDoorTy2
namespace Go.Sx
open Go Go.Proofs
theorem cmpS_nil (frs : List ByteArray) (nums : List Nat) (W : Nat → Nat) (q : Nat) : cmpS frs (nums.take 0) W q = 0 := rfl
theorem cmpS_take {frs : List ByteArray} {nums : List Nat} {W : Nat → Nat} {q j : Nat} (h : j < nums.length) : cmpS frs (nums.take (j + 1)) W q = cmpS frs (nums.take j) W q ^^^ mulN (W (nu nums j)) (sb (fr frs (nu nums j)) q) := by
  unfold cmpS
  rw [List.take_add_one, nu_get h, List.foldl_append]; rfl
theorem wgtR_take {nums : List Nat} {x i j : Nat} (h : j < nums.length) : (nums.take (j + 1)).foldl (refS i x) 1 = refS i x ((nums.take j).foldl (refS i x) 1) (nu nums j) := by
  rw [List.take_add_one, nu_get h, List.foldl_append]; rfl
theorem refF_lt (i x : Nat) : ∀ (l : List Nat) (a : Nat), a < 256 → l.foldl (refS i x) a < 256
  | [], _, h => h
  | y :: l, a, h => refF_lt i x l _ (by unfold refS; split; exact h; exact mulN_lt)
theorem wgtR_lt (nums : List Nat) (x i : Nat) : wgtR nums x i < 256 := refF_lt i x nums 1 (by decide)
theorem nums_iget {nums : List Nat} {k : Nat} (h : k < nums.length) : (nums.map iv)[k]? = some (iv (nu nums k)) := by rw [List.getElem?_map, nu_get h]; rfl
theorem atR_mk (frs : List ByteArray) (nums : List Nat) (x m : Nat) : atR frs nums x m = mkS m (cmpS frs nums fun i => wgtR nums x i) := rfl
theorem invI_nat {a : Nat} (h : a < 256) : invI (a : Int) = (invN a : Int) := by
  unfold invI
  rw [if_pos (by unfold isNum; omega), Int.toNat_natCast]
attribute [local irreducible] WC WL WX POp Then Again Fn NX W1 WA WO QL RP RA Yld LoopAt HC HL HX HN H1 HA HO HQ HB HP A.blk A.grow A.rd A.obj A.mp AgainH CutH
attribute [local irreducible] cmpS mulN invN wgtR
theorem size_fn (len k : Int) (hk : 1 ≤ k ∧ k ≤ 9) (h0 : 0 ≤ len ∧ len ≤ 1000000) (w : World) : Fn Tryd.prog 21 #[.int .i64 len, .int .i64 k] w fun v w' => v = .int .i64 ((len + k - 1) / k) ∧ w = w' := by
  refine enter (l := [_, _]) rfl Tryd.ntmps21 rfl ?_
  repeat' (first | apply WL.fold | apply WA.fold | apply WL.nil | apply WX.n_then | apply WC.seq | apply WC.region | refine WL.pa ?_ | refine WL.ga rfl ?_ | refine WL.na rfl ?_ | refine WL.nu rfl rfl ?_ | apply WC.block | apply WC.skip | apply WC.exit | apply WC.ret | apply WX.e_block | refine WX.e_other rfl ?_ | apply WX.e_then | apply WX.e_again | apply WX.n_block | apply WX.r_then | apply WX.r_block | apply WX.r_again | refine WC.cond_yes rfl ?_ | refine WC.cond_no rfl ?_ | refine WC.cond rfl (fun hc => ?_) (fun hc => ?_) | refine WC.cond_b rfl (fun hc => ?_) (fun hc => ?_))
  exact WX.ret1 rfl rfl ⟨rfl, rfl⟩
theorem sameS_fn (v u : Value) (l : List ByteArray) (hl : l.length ≤ 1000000) (w : World) (hR : Rd w v (strs l)) (hS : Rd w u (strs l)) :
    Fn Tryd.prog 8 #[v, u] w fun x w' => x = .bool true ∧ Ext w w' := by
  have hsl : (strs l).length = l.length := by simp [strs]
  obtain ⟨a, c, rfl⟩ := hR.len
  obtain ⟨a', c', rfl⟩ := hS.len
  rw [hsl] at hR hS ⊢
  refine enterH (l := [_, _]) rfl Tryd.ntmps8 rfl ?_
  repeat' (first | apply HL.fold | apply HA.fold | apply HL.nil | apply HX.n_then | apply HC.seq | apply HC.region | refine HL.pa ?_ | refine HL.ga rfl ?_ | refine HL.na rfl ?_ | refine HL.nu rfl rfl ?_ | apply HC.block | apply HC.skip | apply HC.exit | apply HC.ret | apply HX.e_block | refine HX.e_other rfl ?_ | apply HX.e_then | apply HX.e_again | apply HX.n_block | apply HX.r_then | apply HX.r_block | apply HX.r_again | refine HC.cond_yes rfl ?_ | refine HC.cond_no rfl ?_ | refine HL.one (H1.ldb rfl memA rfl rfl ?_) | refine HC.cond rfl (fun hc => ?_) (fun hc => ?_) | refine HC.cond_b rfl (fun hc => ?_) (fun hc => ?_))
  refine HC.loop (α := Nat) (fun i => [(0, .slice a l.length c), (1, .slice a' l.length c'), (5, iv i)]) (fun _ => []) (fun i => i ≤ l.length) (fun i => l.length - i) 0 (Nat.zero_le _) esA (by repeat (first | exact Hs.nil _ | (refine Hs.cons pickA ?_))) ?_
  intro i hi
  by_cases hlt : i < l.length
  · obtain ⟨b, off, c2, e1, -, -, -⟩ := hR.at (by intro e; rw [e] at hsl; simp at hsl; omega)
    obtain rfl := (Value.slice.inj e1).1
    obtain ⟨b', off', c3, e2, -, -, -⟩ := hS.at (by intro e; rw [e] at hsl; simp at hsl; omega)
    obtain rfl := (Value.slice.inj e2).1
    have k1 := hR.cell (strs_get hlt)
    have k2 := hS.cell (strs_get hlt)
    repeat' (first | apply HL.fold | apply HA.fold | apply HL.nil | apply HX.n_then | apply HC.seq | apply HC.region | refine HL.pa ?_ | refine HL.ga rfl ?_ | refine HL.na rfl ?_ | refine HL.nu rfl rfl ?_ | apply HC.block | apply HC.skip | apply HC.exit | apply HC.ret | apply HX.e_block | refine HX.e_other rfl ?_ | apply HX.e_then | apply HX.e_again | apply HX.n_block | apply HX.r_then | apply HX.r_block | apply HX.r_again | refine HC.cond_yes rfl ?_ | refine HC.cond_no rfl ?_ | refine HL.one (H1.ldb rfl memA rfl rfl ?_) | refine HC.cond rfl (fun hc => ?_) (fun hc => ?_) | refine HC.cond_b rfl (fun hc => ?_) (fun hc => ?_))
    refine HC.any rfl ?_
    refine HA.pa 0 rfl ?_
    refine HA.pa 1 rfl ?_
    refine HA.pa 2 rfl ?_
    refine HA.pa 4 rfl ?_
    refine HA.pa 5 rfl ?_
    refine HA.pa 6 rfl ?_
    refine HA.all [3, 7] (by kernel_rfl) rfl ⟨⟨_, rfl, ?_⟩, ⟨_, rfl, ?_⟩, trivial⟩
    · refine HO.one ?_
      refine H1.ld0 rfl k1 rfl ?_
      apply HA.fold
      refine HA.all [7] (by kernel_rfl) rfl ⟨⟨_, rfl, ?_⟩, trivial⟩
      refine HO.one ?_
      refine H1.ld0 rfl k2 rfl ?_
      apply HA.fold
      refine HA.pa 8 rfl ?_
      refine HA.done (by kernel_rfl) ?_
      repeat' (first | apply HL.fold | apply HA.fold | apply HL.nil | apply HX.n_then | apply HC.seq | apply HC.region | refine HL.pa ?_ | refine HL.ga rfl ?_ | refine HL.na rfl ?_ | refine HL.nu rfl rfl ?_ | apply HC.block | apply HC.skip | apply HC.exit | apply HC.ret | apply HX.e_block | refine HX.e_other rfl ?_ | apply HX.e_then | apply HX.e_again | apply HX.n_block | apply HX.r_then | apply HX.r_block | apply HX.r_again | refine HC.cond_yes rfl ?_ | refine HC.cond_no rfl ?_ | refine HL.one (H1.ldb rfl memA rfl rfl ?_) | refine HC.cond rfl (fun hc => ?_) (fun hc => ?_) | refine HC.cond_b rfl (fun hc => ?_) (fun hc => ?_))
      exact HX.again (i + 1) (by omega) (by omega) esA (by repeat (first | exact Hs.nil _ | (refine Hs.cons pickA ?_)))
    · refine HO.one ?_
      refine H1.ld0 rfl k2 rfl ?_
      apply HA.fold
      refine HA.all [3] (by kernel_rfl) rfl ⟨⟨_, rfl, ?_⟩, trivial⟩
      refine HO.one ?_
      refine H1.ld0 rfl k1 rfl ?_
      apply HA.fold
      refine HA.pa 8 rfl ?_
      refine HA.done (by kernel_rfl) ?_
      repeat' (first | apply HL.fold | apply HA.fold | apply HL.nil | apply HX.n_then | apply HC.seq | apply HC.region | refine HL.pa ?_ | refine HL.ga rfl ?_ | refine HL.na rfl ?_ | refine HL.nu rfl rfl ?_ | apply HC.block | apply HC.skip | apply HC.exit | apply HC.ret | apply HX.e_block | refine HX.e_other rfl ?_ | apply HX.e_then | apply HX.e_again | apply HX.n_block | apply HX.r_then | apply HX.r_block | apply HX.r_again | refine HC.cond_yes rfl ?_ | refine HC.cond_no rfl ?_ | refine HL.one (H1.ldb rfl memA rfl rfl ?_) | refine HC.cond rfl (fun hc => ?_) (fun hc => ?_) | refine HC.cond_b rfl (fun hc => ?_) (fun hc => ?_))
      exact HX.again (i + 1) (by omega) (by omega) esA (by repeat (first | exact Hs.nil _ | (refine Hs.cons pickA ?_)))
  · obtain rfl : i = l.length := by omega
    repeat' (first | apply HL.fold | apply HA.fold | apply HL.nil | apply HX.n_then | apply HC.seq | apply HC.region | refine HL.pa ?_ | refine HL.ga rfl ?_ | refine HL.na rfl ?_ | refine HL.nu rfl rfl ?_ | apply HC.block | apply HC.skip | apply HC.exit | apply HC.ret | apply HX.e_block | refine HX.e_other rfl ?_ | apply HX.e_then | apply HX.e_again | apply HX.n_block | apply HX.r_then | apply HX.r_block | apply HX.r_again | refine HC.cond_yes rfl ?_ | refine HC.cond_no rfl ?_ | refine HL.one (H1.ldb rfl memA rfl rfl ?_) | refine HC.cond rfl (fun hc => ?_) (fun hc => ?_) | refine HC.cond_b rfl (fun hc => ?_) (fun hc => ?_))
    exact HX.ret1 rfl rfl fun w' hM => ⟨rfl, hM.ext⟩
theorem weight_fn (v : Value) (nums : List Nat) (i x : Nat) (hi : i < 256) (hx : x < 256) (hn : ∀ h ∈ nums, h < 256) (hl : nums.length ≤ 1000000) (w : World) (hR : Rd w v (nums.map iv)) :
    Fn Tryd.prog 38 #[v, iv i, iv x] w fun u w' => u = iv (wgtR nums x i) ∧ Ext w w' := by
  have hsl : (nums.map iv).length = nums.length := by simp
  obtain ⟨a, c, rfl⟩ := hR.len
  rw [hsl] at hR ⊢
  refine enterH (l := [_, _, _]) rfl Tryd.ntmps38 rfl ?_
  repeat' (first | apply HL.fold | apply HA.fold | apply HL.nil | apply HX.n_then | apply HC.seq | apply HC.region | refine HL.pa ?_ | refine HL.ga rfl ?_ | refine HL.na rfl ?_ | refine HL.nu rfl rfl ?_ | apply HC.block | apply HC.skip | apply HC.exit | apply HC.ret | apply HX.e_block | refine HX.e_other rfl ?_ | apply HX.e_then | apply HX.e_again | apply HX.n_block | apply HX.r_then | apply HX.r_block | apply HX.r_again | refine HC.cond_yes rfl ?_ | refine HC.cond_no rfl ?_ | refine HL.one (H1.ldb rfl memA rfl rfl ?_) | refine HC.cond rfl (fun hc => ?_) (fun hc => ?_) | refine HC.cond_b rfl (fun hc => ?_) (fun hc => ?_))
  refine HC.loop (α := Nat) (fun k => [(0, .slice a nums.length c), (1, iv i), (2, iv x), (7, iv ((nums.take k).foldl (refS i x) 1)), (8, iv k)]) (fun _ => []) (fun k => k ≤ nums.length) (fun k => nums.length - k) 0 (Nat.zero_le _) esA (by repeat (first | exact Hs.nil _ | (refine Hs.cons pickA ?_))) ?_
  intro k hk
  by_cases hlt : k < nums.length
  · obtain ⟨b, off, c2, e1, -, -, -⟩ := hR.at (by intro e; rw [e] at hsl; simp at hsl; omega)
    obtain rfl := (Value.slice.inj e1).1
    have k1 := hR.cell (nums_iget hlt)
    have hh := hn _ (nu_mem hlt)
    have hst := wgtR_take (x := x) (i := i) hlt
    have hac := refF_lt i x (nums.take k) 1 (by decide)
    generalize (nums.take k).foldl (refS i x) 1 = acc at *
    generalize nu nums k = h at *
    repeat' (first | apply HL.fold | apply HA.fold | apply HL.nil | apply HX.n_then | apply HC.seq | apply HC.region | refine HL.pa ?_ | refine HL.ga rfl ?_ | refine HL.na rfl ?_ | refine HL.nu rfl rfl ?_ | apply HC.block | apply HC.skip | apply HC.exit | apply HC.ret | apply HX.e_block | refine HX.e_other rfl ?_ | apply HX.e_then | apply HX.e_again | apply HX.n_block | apply HX.r_then | apply HX.r_block | apply HX.r_again | refine HC.cond_yes rfl ?_ | refine HC.cond_no rfl ?_ | refine HL.one (H1.ldb rfl memA rfl rfl ?_) | refine HC.cond rfl (fun hc => ?_) (fun hc => ?_) | refine HC.cond_b rfl (fun hc => ?_) (fun hc => ?_))
    refine HL.one (H1.ld0 rfl k1 rfl ?_)
    by_cases e : h = i
    · have e' : (h : Int) = (i : Int) := by omega
      rw [refS, if_pos e] at hst
      rw [← hst]
      repeat' (first | apply HL.fold | apply HA.fold | apply HL.nil | apply HX.n_then | apply HC.seq | apply HC.region | refine HL.pa ?_ | refine HL.ga rfl ?_ | refine HL.na rfl ?_ | refine HL.nu rfl rfl ?_ | apply HC.block | apply HC.skip | apply HC.exit | apply HC.ret | apply HX.e_block | refine HX.e_other rfl ?_ | apply HX.e_then | apply HX.e_again | apply HX.n_block | apply HX.r_then | apply HX.r_block | apply HX.r_again | refine HC.cond_yes rfl ?_ | refine HC.cond_no rfl ?_ | refine HL.one (H1.ldb rfl memA rfl rfl ?_) | refine HC.cond rfl (fun hc => ?_) (fun hc => ?_) | refine HC.cond_b rfl (fun hc => ?_) (fun hc => ?_))
      exact HX.again (k + 1) (by omega) (by omega) esA (by repeat (first | exact Hs.nil _ | (refine Hs.cons pickA ?_)))
    · have e' : ¬ (h : Int) = (i : Int) := by omega
      rw [refS, if_neg e] at hst
      have q1 : x ^^^ h < 256 := Nat.xor_lt_two_pow (n := 8) hx hh
      have q2 : i ^^^ h < 256 := Nat.xor_lt_two_pow (n := 8) hi hh
      have q3 := invN_lt q2
      have q4 := mulN_lt (a := x ^^^ h) (b := invN (i ^^^ h))
      repeat' (first | apply HL.fold | apply HA.fold | apply HL.nil | apply HX.n_then | apply HC.seq | apply HC.region | refine HL.pa ?_ | refine HL.ga rfl ?_ | refine HL.na rfl ?_ | refine HL.nu rfl rfl ?_ | apply HC.block | apply HC.skip | apply HC.exit | apply HC.ret | apply HX.e_block | refine HX.e_other rfl ?_ | apply HX.e_then | apply HX.e_again | apply HX.n_block | apply HX.r_then | apply HX.r_block | apply HX.r_again | refine HC.cond_yes rfl ?_ | refine HC.cond_no rfl ?_ | refine HL.one (H1.ldb rfl memA rfl rfl ?_) | refine HC.cond rfl (fun hc => ?_) (fun hc => ?_) | refine HC.cond_b rfl (fun hc => ?_) (fun hc => ?_))
      refine HL.one (H1.call0 (vs := [iv (i ^^^ h)]) rfl rfl (fun w' _ => (refInverse_fn _ w')) ?_)
      rw [invI_nat q2]
      repeat' (first | apply HL.fold | apply HA.fold | apply HL.nil | apply HX.n_then | apply HC.seq | apply HC.region | refine HL.pa ?_ | refine HL.ga rfl ?_ | refine HL.na rfl ?_ | refine HL.nu rfl rfl ?_ | apply HC.block | apply HC.skip | apply HC.exit | apply HC.ret | apply HX.e_block | refine HX.e_other rfl ?_ | apply HX.e_then | apply HX.e_again | apply HX.n_block | apply HX.r_then | apply HX.r_block | apply HX.r_again | refine HC.cond_yes rfl ?_ | refine HC.cond_no rfl ?_ | refine HL.one (H1.ldb rfl memA rfl rfl ?_) | refine HC.cond rfl (fun hc => ?_) (fun hc => ?_) | refine HC.cond_b rfl (fun hc => ?_) (fun hc => ?_))
      refine HL.one (H1.call0 (vs := [iv (x ^^^ h), iv (invN (i ^^^ h))]) rfl rfl (fun w' _ => refMul_yes _ _ q1 q3 w') ?_)
      repeat' (first | apply HL.fold | apply HA.fold | apply HL.nil | apply HX.n_then | apply HC.seq | apply HC.region | refine HL.pa ?_ | refine HL.ga rfl ?_ | refine HL.na rfl ?_ | refine HL.nu rfl rfl ?_ | apply HC.block | apply HC.skip | apply HC.exit | apply HC.ret | apply HX.e_block | refine HX.e_other rfl ?_ | apply HX.e_then | apply HX.e_again | apply HX.n_block | apply HX.r_then | apply HX.r_block | apply HX.r_again | refine HC.cond_yes rfl ?_ | refine HC.cond_no rfl ?_ | refine HL.one (H1.ldb rfl memA rfl rfl ?_) | refine HC.cond rfl (fun hc => ?_) (fun hc => ?_) | refine HC.cond_b rfl (fun hc => ?_) (fun hc => ?_))
      refine HL.one (H1.call0 (vs := [iv acc, iv (mulN (x ^^^ h) (invN (i ^^^ h)))]) rfl rfl (fun w' _ => refMul_yes _ _ hac q4 w') ?_)
      rw [← hst]
      repeat' (first | apply HL.fold | apply HA.fold | apply HL.nil | apply HX.n_then | apply HC.seq | apply HC.region | refine HL.pa ?_ | refine HL.ga rfl ?_ | refine HL.na rfl ?_ | refine HL.nu rfl rfl ?_ | apply HC.block | apply HC.skip | apply HC.exit | apply HC.ret | apply HX.e_block | refine HX.e_other rfl ?_ | apply HX.e_then | apply HX.e_again | apply HX.n_block | apply HX.r_then | apply HX.r_block | apply HX.r_again | refine HC.cond_yes rfl ?_ | refine HC.cond_no rfl ?_ | refine HL.one (H1.ldb rfl memA rfl rfl ?_) | refine HC.cond rfl (fun hc => ?_) (fun hc => ?_) | refine HC.cond_b rfl (fun hc => ?_) (fun hc => ?_))
      exact HX.again (k + 1) (by omega) (by omega) esA (by repeat (first | exact Hs.nil _ | (refine Hs.cons pickA ?_)))
  · obtain rfl : k = nums.length := by omega
    rw [List.take_length]
    repeat' (first | apply HL.fold | apply HA.fold | apply HL.nil | apply HX.n_then | apply HC.seq | apply HC.region | refine HL.pa ?_ | refine HL.ga rfl ?_ | refine HL.na rfl ?_ | refine HL.nu rfl rfl ?_ | apply HC.block | apply HC.skip | apply HC.exit | apply HC.ret | apply HX.e_block | refine HX.e_other rfl ?_ | apply HX.e_then | apply HX.e_again | apply HX.n_block | apply HX.r_then | apply HX.r_block | apply HX.r_again | refine HC.cond_yes rfl ?_ | refine HC.cond_no rfl ?_ | refine HL.one (H1.ldb rfl memA rfl rfl ?_) | refine HC.cond rfl (fun hc => ?_) (fun hc => ?_) | refine HC.cond_b rfl (fun hc => ?_) (fun hc => ?_))
    exact HX.ret1 rfl rfl fun w' hM => ⟨by rw [wgtR], hM.ext⟩
set_option maxHeartbeats 2000000 in
theorem at_fn (vf vn : Value) (frs : List ByteArray) (nums : List Nat) (x m : Nat) (hx : x < 256) (hm : m ≤ 1000000) (hfl : frs.length ≤ 256) (hne : 0 < nums.length) (hnl : nums.length ≤ 1000000) (hn : ∀ h ∈ nums, h < frs.length ∧ (fr frs h).size = m) (w : World) (hF : Rd w vf (strs frs)) (hN : Rd w vn (nums.map iv)) :
    Fn Tryd.prog 22 #[vf, vn, iv x] w fun u w' => u = .string (atR frs nums x m) ∧ Ext w w' := by
  have hsl : (nums.map iv).length = nums.length := by simp
  have hsf : (strs frs).length = frs.length := by simp [strs]
  have hn0 := hn _ (nu_mem hne)
  obtain ⟨bf, off, c, rfl, -, -, -⟩ := hF.at (by intro e; rw [e] at hsf; simp at hsf; omega)
  obtain ⟨bn, offn, cn, rfl, -, -, -⟩ := hN.at (by intro e; rw [e] at hsl; simp at hsl; omega)
  rw [hsl] at hN ⊢
  rw [hsf] at hF ⊢
  have k0 := hN.cell (nums_iget hne)
  have f0 := hF.cell (strs_get hn0.1)
  refine enterH (l := [_, _, _]) rfl Tryd.ntmps22 rfl ?_
  repeat' (first | apply HL.fold | apply HA.fold | apply HL.nil | apply HX.n_then | apply HC.seq | apply HC.region | refine HL.pa ?_ | refine HL.ga rfl ?_ | refine HL.na rfl ?_ | refine HL.nu rfl rfl ?_ | apply HC.block | apply HC.skip | apply HC.exit | apply HC.ret | apply HX.e_block | refine HX.e_other rfl ?_ | apply HX.e_then | apply HX.e_again | apply HX.n_block | apply HX.r_then | apply HX.r_block | apply HX.r_again | refine HC.cond_yes rfl ?_ | refine HC.cond_no rfl ?_ | refine HL.one (H1.ldb rfl memA rfl rfl ?_) | refine HC.cond rfl (fun hc => ?_) (fun hc => ?_) | refine HC.cond_b rfl (fun hc => ?_) (fun hc => ?_))
  refine HL.one (H1.ld0 rfl k0 rfl ?_)
  repeat' (first | apply HL.fold | apply HA.fold | apply HL.nil | apply HX.n_then | apply HC.seq | apply HC.region | refine HL.pa ?_ | refine HL.ga rfl ?_ | refine HL.na rfl ?_ | refine HL.nu rfl rfl ?_ | apply HC.block | apply HC.skip | apply HC.exit | apply HC.ret | apply HX.e_block | refine HX.e_other rfl ?_ | apply HX.e_then | apply HX.e_again | apply HX.n_block | apply HX.r_then | apply HX.r_block | apply HX.r_again | refine HC.cond_yes rfl ?_ | refine HC.cond_no rfl ?_ | refine HL.one (H1.ldb rfl memA rfl rfl ?_) | refine HC.cond rfl (fun hc => ?_) (fun hc => ?_) | refine HC.cond_b rfl (fun hc => ?_) (fun hc => ?_))
  refine HL.one (H1.ld0 rfl f0 rfl ?_)
  repeat' (first | apply HL.fold | apply HA.fold | apply HL.nil | apply HX.n_then | apply HC.seq | apply HC.region | refine HL.pa ?_ | refine HL.ga rfl ?_ | refine HL.na rfl ?_ | refine HL.nu rfl rfl ?_ | apply HC.block | apply HC.skip | apply HC.exit | apply HC.ret | apply HX.e_block | refine HX.e_other rfl ?_ | apply HX.e_then | apply HX.e_again | apply HX.n_block | apply HX.r_then | apply HX.r_block | apply HX.r_again | refine HC.cond_yes rfl ?_ | refine HC.cond_no rfl ?_ | refine HL.one (H1.ldb rfl memA rfl rfl ?_) | refine HC.cond rfl (fun hc => ?_) (fun hc => ?_) | refine HC.cond_b rfl (fun hc => ?_) (fun hc => ?_))
  rw [hn0.2]
  refine HL.one (H1.make (l := m) (c := m) rfl rfl rfl rfl rfl (Nat.le_refl _) (by omega) (by omega) rfl (fun b => ?_))
  rw [row_rep]
  repeat' (first | apply HL.fold | apply HA.fold | apply HL.nil | apply HX.n_then | apply HC.seq | apply HC.region | refine HL.pa ?_ | refine HL.ga rfl ?_ | refine HL.na rfl ?_ | refine HL.nu rfl rfl ?_ | apply HC.block | apply HC.skip | apply HC.exit | apply HC.ret | apply HX.e_block | refine HX.e_other rfl ?_ | apply HX.e_then | apply HX.e_again | apply HX.n_block | apply HX.r_then | apply HX.r_block | apply HX.r_again | refine HC.cond_yes rfl ?_ | refine HC.cond_no rfl ?_ | refine HL.one (H1.ldb rfl memA rfl rfl ?_) | refine HC.cond rfl (fun hc => ?_) (fun hc => ?_) | refine HC.cond_b rfl (fun hc => ?_) (fun hc => ?_))
  refine HC.loop (α := Nat) (fun j => [(0, .slice (some ⟨bf, off, none⟩) frs.length c), (1, .slice (some ⟨bn, offn, none⟩) nums.length cn), (2, iv x), (7, .slice (some ⟨b, 0, none⟩) m m), (8, iv j)])
    (fun j => [A.blk b (row m fun q => u8v (cmpS frs (nums.take j) (fun i => wgtR nums x i) q)) 5]) (fun j => j ≤ nums.length) (fun j => nums.length - j) 0 (Nat.zero_le _) esA (Hs.blk (row_congr fun q _ => by rw [cmpS_nil]; rfl) (Hs.nil _)) ?_
  intro j hj
  by_cases hlt : j < nums.length
  rotate_left
  · obtain rfl : j = nums.length := by omega
    rw [List.take_length]
    repeat' (first | apply HL.fold | apply HA.fold | apply HL.nil | apply HX.n_then | apply HC.seq | apply HC.region | refine HL.pa ?_ | refine HL.ga rfl ?_ | refine HL.na rfl ?_ | refine HL.nu rfl rfl ?_ | apply HC.block | apply HC.skip | apply HC.exit | apply HC.ret | apply HX.e_block | refine HX.e_other rfl ?_ | apply HX.e_then | apply HX.e_again | apply HX.n_block | apply HX.r_then | apply HX.r_block | apply HX.r_again | refine HC.cond_yes rfl ?_ | refine HC.cond_no rfl ?_ | refine HL.one (H1.ldb rfl memA rfl rfl ?_) | refine HC.cond rfl (fun hc => ?_) (fun hc => ?_) | refine HC.cond_b rfl (fun hc => ?_) (fun hc => ?_))
    refine HL.one (H1.bstr rfl memA (fun q _ => cmpS_lt _ _ _ _) rfl ?_)
    repeat' (first | apply HL.fold | apply HA.fold | apply HL.nil | apply HX.n_then | apply HC.seq | apply HC.region | refine HL.pa ?_ | refine HL.ga rfl ?_ | refine HL.na rfl ?_ | refine HL.nu rfl rfl ?_ | apply HC.block | apply HC.skip | apply HC.exit | apply HC.ret | apply HX.e_block | refine HX.e_other rfl ?_ | apply HX.e_then | apply HX.e_again | apply HX.n_block | apply HX.r_then | apply HX.r_block | apply HX.r_again | refine HC.cond_yes rfl ?_ | refine HC.cond_no rfl ?_ | refine HL.one (H1.ldb rfl memA rfl rfl ?_) | refine HC.cond rfl (fun hc => ?_) (fun hc => ?_) | refine HC.cond_b rfl (fun hc => ?_) (fun hc => ?_))
    exact HX.ret1 rfl rfl fun w' hM => ⟨by rw [atR_mk], hM.ext⟩
  have hnj := hn _ (nu_mem hlt)
  have kj := hN.cell (nums_iget hlt)
  have fj := hF.cell (strs_get hnj.1)
  have hst := fun q => cmpS_take (frs := frs) (W := fun i => wgtR nums x i) (q := q) hlt
  have hlt1 := fun q => cmpS_lt frs (nums.take j) (fun i => wgtR nums x i) q
  have hwl := wgtR_lt nums x (nu nums j)
  have hca := weight_fn (.slice (some ⟨bn, offn, none⟩) nums.length cn) nums (nu nums j) x (by omega) hx (fun h hh => by have := hn h hh; omega) hnl
  generalize nu nums j = h at *
  obtain ⟨hh1, hh2⟩ := hnj
  repeat' (first | apply HL.fold | apply HA.fold | apply HL.nil | apply HX.n_then | apply HC.seq | apply HC.region | refine HL.pa ?_ | refine HL.ga rfl ?_ | refine HL.na rfl ?_ | refine HL.nu rfl rfl ?_ | apply HC.block | apply HC.skip | apply HC.exit | apply HC.ret | apply HX.e_block | refine HX.e_other rfl ?_ | apply HX.e_then | apply HX.e_again | apply HX.n_block | apply HX.r_then | apply HX.r_block | apply HX.r_again | refine HC.cond_yes rfl ?_ | refine HC.cond_no rfl ?_ | refine HL.one (H1.ldb rfl memA rfl rfl ?_) | refine HC.cond rfl (fun hc => ?_) (fun hc => ?_) | refine HC.cond_b rfl (fun hc => ?_) (fun hc => ?_))
  refine HL.one (H1.ld0 rfl kj rfl ?_)
  repeat' (first | apply HL.fold | apply HA.fold | apply HL.nil | apply HX.n_then | apply HC.seq | apply HC.region | refine HL.pa ?_ | refine HL.ga rfl ?_ | refine HL.na rfl ?_ | refine HL.nu rfl rfl ?_ | apply HC.block | apply HC.skip | apply HC.exit | apply HC.ret | apply HX.e_block | refine HX.e_other rfl ?_ | apply HX.e_then | apply HX.e_again | apply HX.n_block | apply HX.r_then | apply HX.r_block | apply HX.r_again | refine HC.cond_yes rfl ?_ | refine HC.cond_no rfl ?_ | refine HL.one (H1.ldb rfl memA rfl rfl ?_) | refine HC.cond rfl (fun hc => ?_) (fun hc => ?_) | refine HC.cond_b rfl (fun hc => ?_) (fun hc => ?_))
  refine HL.one (H1.callx (vs := [.slice (some ⟨bn, offn, none⟩) nums.length cn, iv h, iv x]) rfl rfl (fun w' hM => hca w' (hN.ext hM.ext)) ?_)
  repeat' (first | apply HL.fold | apply HA.fold | apply HL.nil | apply HX.n_then | apply HC.seq | apply HC.region | refine HL.pa ?_ | refine HL.ga rfl ?_ | refine HL.na rfl ?_ | refine HL.nu rfl rfl ?_ | apply HC.block | apply HC.skip | apply HC.exit | apply HC.ret | apply HX.e_block | refine HX.e_other rfl ?_ | apply HX.e_then | apply HX.e_again | apply HX.n_block | apply HX.r_then | apply HX.r_block | apply HX.r_again | refine HC.cond_yes rfl ?_ | refine HC.cond_no rfl ?_ | refine HL.one (H1.ldb rfl memA rfl rfl ?_) | refine HC.cond rfl (fun hc => ?_) (fun hc => ?_) | refine HC.cond_b rfl (fun hc => ?_) (fun hc => ?_))
  refine HL.one (H1.ld0 rfl kj rfl ?_)
  repeat' (first | apply HL.fold | apply HA.fold | apply HL.nil | apply HX.n_then | apply HC.seq | apply HC.region | refine HL.pa ?_ | refine HL.ga rfl ?_ | refine HL.na rfl ?_ | refine HL.nu rfl rfl ?_ | apply HC.block | apply HC.skip | apply HC.exit | apply HC.ret | apply HX.e_block | refine HX.e_other rfl ?_ | apply HX.e_then | apply HX.e_again | apply HX.n_block | apply HX.r_then | apply HX.r_block | apply HX.r_again | refine HC.cond_yes rfl ?_ | refine HC.cond_no rfl ?_ | refine HL.one (H1.ldb rfl memA rfl rfl ?_) | refine HC.cond rfl (fun hc => ?_) (fun hc => ?_) | refine HC.cond_b rfl (fun hc => ?_) (fun hc => ?_))
  refine HL.one (H1.ld0 rfl fj rfl ?_)
  repeat' (first | apply HL.fold | apply HA.fold | apply HL.nil | apply HX.n_then | apply HC.seq | apply HC.region | refine HL.pa ?_ | refine HL.ga rfl ?_ | refine HL.na rfl ?_ | refine HL.nu rfl rfl ?_ | apply HC.block | apply HC.skip | apply HC.exit | apply HC.ret | apply HX.e_block | refine HX.e_other rfl ?_ | apply HX.e_then | apply HX.e_again | apply HX.n_block | apply HX.r_then | apply HX.r_block | apply HX.r_again | refine HC.cond_yes rfl ?_ | refine HC.cond_no rfl ?_ | refine HL.one (H1.ldb rfl memA rfl rfl ?_) | refine HC.cond rfl (fun hc => ?_) (fun hc => ?_) | refine HC.cond_b rfl (fun hc => ?_) (fun hc => ?_))
  generalize wgtR nums x h = wt at *
  generalize fr frs h = F at *
  refine HC.loop (α := Nat) (fun i => [(0, .slice (some ⟨bf, off, none⟩) frs.length c), (1, .slice (some ⟨bn, offn, none⟩) nums.length cn), (2, iv x), (7, .slice (some ⟨b, 0, none⟩) m m), (8, iv j), (9, iv wt), (10, .string F), (11, iv i)])
    (fun i => [A.blk b (row m fun q => u8v (if q < i then cmpS frs (nums.take (j + 1)) (fun i => wgtR nums x i) q else cmpS frs (nums.take j) (fun i => wgtR nums x i) q)) 5]) (fun i => i ≤ m) (fun i => m - i) 0 (Nat.zero_le _) esA (Hs.blk (row_congr fun q _ => by rw [if_neg (Nat.not_lt_zero q)]) (Hs.nil _)) ?_
  intro i hi
  by_cases hlm : i < m
  · have e1 := hst i
    have e2 := hlt1 i
    have e3 := sb_lt F i
    have e4 := mulN_lt (a := wt) (b := sb F i)
    have e5 : cmpS frs (nums.take j) (fun i => wgtR nums x i) i ^^^ mulN wt (sb F i) < 256 := Nat.xor_lt_two_pow (n := 8) e2 e4
    have hget : (row m fun q => u8v (if q < i then cmpS frs (nums.take (j + 1)) (fun i => wgtR nums x i) q else cmpS frs (nums.take j) (fun i => wgtR nums x i) q))[i]? = some (u8v (cmpS frs (nums.take j) (fun i => wgtR nums x i) i)) := by rw [row_get _ hlm, if_neg (Nat.lt_irrefl i)]
    have hset : (row m fun q => u8v (if q < i then cmpS frs (nums.take (j + 1)) (fun i => wgtR nums x i) q else cmpS frs (nums.take j) (fun i => wgtR nums x i) q)).set i (u8v (cmpS frs (nums.take j) (fun i => wgtR nums x i) i ^^^ mulN wt (sb F i))) = row m fun q => u8v (if q < i + 1 then cmpS frs (nums.take (j + 1)) (fun i => wgtR nums x i) q else cmpS frs (nums.take j) (fun i => wgtR nums x i) q) := by
      refine row_step (by rw [if_pos (Nat.lt_succ_self i), e1]) fun q hq => ?_
      have hh : (q < i + 1) = (q < i) := by simp only [eq_iff_iff]; omega
      simp only [hh]
    generalize cmpS frs (nums.take j) (fun i => wgtR nums x i) i = acc at *
    repeat' (first | apply HL.fold | apply HA.fold | apply HL.nil | apply HX.n_then | apply HC.seq | apply HC.region | refine HL.pa ?_ | refine HL.ga rfl ?_ | refine HL.na rfl ?_ | refine HL.nu rfl rfl ?_ | apply HC.block | apply HC.skip | apply HC.exit | apply HC.ret | apply HX.e_block | refine HX.e_other rfl ?_ | apply HX.e_then | apply HX.e_again | apply HX.n_block | apply HX.r_then | apply HX.r_block | apply HX.r_again | refine HC.cond_yes rfl ?_ | refine HC.cond_no rfl ?_ | refine HL.one (H1.ldb rfl memA rfl rfl ?_) | refine HC.cond rfl (fun hc => ?_) (fun hc => ?_) | refine HC.cond_b rfl (fun hc => ?_) (fun hc => ?_))
    refine HC.any rfl ?_
    refine HA.pa 0 rfl ?_
    refine HA.pa 1 rfl ?_
    refine HA.pa 2 rfl ?_
    refine HA.pa 3 rfl ?_
    refine HA.pa 4 rfl ?_
    refine HA.pa 6 rfl ?_
    refine HA.pa 7 rfl ?_
    refine HA.pa 8 rfl ?_
    refine HA.pa 9 rfl ?_
    refine HA.pa 10 rfl ?_
    refine HA.all [5, 11] (by kernel_rfl) rfl ⟨⟨_, rfl, ?_⟩, ⟨_, rfl, ?_⟩, trivial⟩
    · refine HO.one ?_
      refine H1.ldb (v := u8v acc) rfl memA hget rfl ?_
      apply HA.fold
      refine HA.all [11] (by kernel_rfl) rfl ⟨⟨_, rfl, ?_⟩, trivial⟩
      refine HO.one ?_
      refine H1.call0 (vs := [iv wt, iv (sb F i)]) rfl rfl (fun w' _ => refMul_yes _ _ hwl e3 w') ?_
      apply HA.fold
      refine HA.pa 12 rfl ?_
      refine HA.pa 13 rfl ?_
      refine HA.pa 14 rfl ?_
      refine HA.all [15] (by kernel_rfl) rfl ⟨⟨_, rfl, ?_⟩, trivial⟩
      refine HO.one ?_
      refine H1.st rfl rfl (by intro _ h; cases h) (by intro _ h; cases h) rplA (by rw [row_len]; omega) ?_
      apply HA.fold
      refine HA.done (by kernel_rfl) ?_
      repeat' (first | apply HL.fold | apply HA.fold | apply HL.nil | apply HX.n_then | apply HC.seq | apply HC.region | refine HL.pa ?_ | refine HL.ga rfl ?_ | refine HL.na rfl ?_ | refine HL.nu rfl rfl ?_ | apply HC.block | apply HC.skip | apply HC.exit | apply HC.ret | apply HX.e_block | refine HX.e_other rfl ?_ | apply HX.e_then | apply HX.e_again | apply HX.n_block | apply HX.r_then | apply HX.r_block | apply HX.r_again | refine HC.cond_yes rfl ?_ | refine HC.cond_no rfl ?_ | refine HL.one (H1.ldb rfl memA rfl rfl ?_) | refine HC.cond rfl (fun hc => ?_) (fun hc => ?_) | refine HC.cond_b rfl (fun hc => ?_) (fun hc => ?_))
      exact HX.again (i + 1) (by omega) (by omega) esA (Hs.blk hset (Hs.nil _))
    · refine HO.one ?_
      refine H1.call0 (vs := [iv wt, iv (sb F i)]) rfl rfl (fun w' _ => refMul_yes _ _ hwl e3 w') ?_
      apply HA.fold
      refine HA.pa 12 rfl ?_
      refine HA.all [5] (by kernel_rfl) rfl ⟨⟨_, rfl, ?_⟩, trivial⟩
      refine HO.one ?_
      refine H1.ldb (v := u8v acc) rfl memA hget rfl ?_
      apply HA.fold
      refine HA.pa 13 rfl ?_
      refine HA.pa 14 rfl ?_
      refine HA.all [15] (by kernel_rfl) rfl ⟨⟨_, rfl, ?_⟩, trivial⟩
      refine HO.one ?_
      refine H1.st rfl rfl (by intro _ h; cases h) (by intro _ h; cases h) rplA (by rw [row_len]; omega) ?_
      apply HA.fold
      refine HA.done (by kernel_rfl) ?_
      repeat' (first | apply HL.fold | apply HA.fold | apply HL.nil | apply HX.n_then | apply HC.seq | apply HC.region | refine HL.pa ?_ | refine HL.ga rfl ?_ | refine HL.na rfl ?_ | refine HL.nu rfl rfl ?_ | apply HC.block | apply HC.skip | apply HC.exit | apply HC.ret | apply HX.e_block | refine HX.e_other rfl ?_ | apply HX.e_then | apply HX.e_again | apply HX.n_block | apply HX.r_then | apply HX.r_block | apply HX.r_again | refine HC.cond_yes rfl ?_ | refine HC.cond_no rfl ?_ | refine HL.one (H1.ldb rfl memA rfl rfl ?_) | refine HC.cond rfl (fun hc => ?_) (fun hc => ?_) | refine HC.cond_b rfl (fun hc => ?_) (fun hc => ?_))
      exact HX.again (i + 1) (by omega) (by omega) esA (Hs.blk hset (Hs.nil _))
  · obtain rfl : i = m := by omega
    repeat' (first | apply HL.fold | apply HA.fold | apply HL.nil | apply HX.n_then | apply HC.seq | apply HC.region | refine HL.pa ?_ | refine HL.ga rfl ?_ | refine HL.na rfl ?_ | refine HL.nu rfl rfl ?_ | apply HC.block | apply HC.skip | apply HC.exit | apply HC.ret | apply HX.e_block | refine HX.e_other rfl ?_ | apply HX.e_then | apply HX.e_again | apply HX.n_block | apply HX.r_then | apply HX.r_block | apply HX.r_again | refine HC.cond_yes rfl ?_ | refine HC.cond_no rfl ?_ | refine HL.one (H1.ldb rfl memA rfl rfl ?_) | refine HC.cond rfl (fun hc => ?_) (fun hc => ?_) | refine HC.cond_b rfl (fun hc => ?_) (fun hc => ?_))
    exact HX.again (j + 1) (by omega) (by omega) esA (Hs.blk (row_congr fun q hq => by rw [if_pos hq]) (Hs.nil _))
end Go.Sx

