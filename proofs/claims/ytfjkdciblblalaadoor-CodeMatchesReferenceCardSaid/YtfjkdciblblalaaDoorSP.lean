/- Chapter 17: the reference's Split and all. -/
import Derived.Test.YtfjkdciblblalaaDoorSO
import Derived.Test.YtfjkdciblblalaaDoorCC
namespace Go.Sx
open Go Go.Proofs
theorem codeL_step (s : ByteArray) (k i : Nat) : strs (codeL s k i) ++ [.string (codeA s k i)] = strs (codeL s k (i + 1)) := by
  unfold codeL strs
  rw [List.range_succ, List.map_append, List.map_append]; rfl
theorem rangeI_step (i : Nat) : (List.range i).map iv ++ [iv i] = (List.range (i + 1)).map iv := by
  rw [List.range_succ, List.map_append]; rfl
theorem mkS_zero (p : Nat) : mkS p (fun _ => 0) = zeros p := by
  unfold mkS zeros
  congr 2
  apply List.ext_getElem
  · simp
  · intro i h1 h2; simp
theorem atR_code {s : ByteArray} {k j : Nat} (hk : 1 ≤ k) (hk9 : k ≤ 9) (hj : k ≤ j) (hj9 : j ≤ 9) : atR (codeL s k j) (List.range k) j (mOf s.size k) = codeA s k j := by
  rw [atR_eq (by omega) (fun h hh => by have := List.mem_range.1 hh; omega)]
  unfold codeA
  rw [if_neg (by omega)]
  refine cmp_congr fun i hi => ⟨?_, rfl⟩
  have := List.mem_range.1 hi
  rw [codeL_fr s k (by omega), parts_fr s this]
theorem atR_out {frs : List ByteArray} {th : List Bool} {k i : Nat} (hi : i < 256) (hl : th.length ≤ 256) : atR frs (cN th k) i (cM frs th k) = cOut frs th k i :=
  atR_eq hi fun h hh => by have := (tnums_mem hh).1; omega
attribute [local irreducible] WC WL WX POp Then Again Fn NX W1 WA WO QL RP RA Yld LoopAt HC HL HX HN H1 HA HO HQ HB HP A.blk A.grow A.rd A.obj A.mp AgainH CutH
attribute [local irreducible] codeA atR
theorem refSplit_no (s : ByteArray) (k n : Int) (h : ¬ (isC k n ∧ (s.size : Int) ≤ 4096 * k)) (w : World) :
    Fn Tryd.prog 7 #[.string s, .int .i64 k, .int .i64 n] w fun v w' => v = .tuple #[.slice none 0 0, .int .i64 170] ∧ Ext w w' := by
  refine enterH (l := [_, _, _]) rfl Tryd.ntmps7 rfl ?_
  repeat' (first | apply HL.fold | apply HA.fold | apply HL.nil | apply HX.n_then | apply HC.seq | apply HC.region | refine HL.pa ?_ | refine HL.ga rfl ?_ | refine HL.na rfl ?_ | refine HL.nu rfl rfl ?_ | apply HC.block | apply HC.skip | apply HC.exit | apply HC.ret | apply HX.e_block | refine HX.e_other rfl ?_ | apply HX.e_then | apply HX.e_again | apply HX.n_block | apply HX.r_then | apply HX.r_block | apply HX.r_again | refine HC.cond_yes rfl ?_ | refine HC.cond_no rfl ?_ | refine HL.one (H1.ldb rfl memA rfl rfl ?_) | refine HC.cond rfl (fun hc => ?_) (fun hc => ?_) | refine HC.cond_b rfl (fun hc => ?_) (fun hc => ?_))
  refine HL.one (H1.call0 (vs := [.int .i64 n, .int .i64 1, .int .i64 9]) rfl rfl (fun w' _ => within_fn _ _ _ w') ?_)
  by_cases h1 : 1 ≤ n ∧ n ≤ 9
  · rw [decide_eq_true h1]
    repeat' (first | apply HL.fold | apply HA.fold | apply HL.nil | apply HX.n_then | apply HC.seq | apply HC.region | refine HL.pa ?_ | refine HL.ga rfl ?_ | refine HL.na rfl ?_ | refine HL.nu rfl rfl ?_ | apply HC.block | apply HC.skip | apply HC.exit | apply HC.ret | apply HX.e_block | refine HX.e_other rfl ?_ | apply HX.e_then | apply HX.e_again | apply HX.n_block | apply HX.r_then | apply HX.r_block | apply HX.r_again | refine HC.cond_yes rfl ?_ | refine HC.cond_no rfl ?_ | refine HL.one (H1.ldb rfl memA rfl rfl ?_) | refine HC.cond rfl (fun hc => ?_) (fun hc => ?_) | refine HC.cond_b rfl (fun hc => ?_) (fun hc => ?_))
    refine HL.one (H1.call0 (vs := [.int .i64 k, .int .i64 1, .int .i64 n]) rfl rfl (fun w' _ => within_fn _ _ _ w') ?_)
    by_cases h2 : 1 ≤ k ∧ k ≤ n
    · have h3 : ¬ (s.size : Int) ≤ 4096 * k := fun h3 => h ⟨⟨h2.1, h2.2, h1.2⟩, h3⟩
      rw [decide_eq_true h2]
      repeat' (first | apply HL.fold | apply HA.fold | apply HL.nil | apply HX.n_then | apply HC.seq | apply HC.region | refine HL.pa ?_ | refine HL.ga rfl ?_ | refine HL.na rfl ?_ | refine HL.nu rfl rfl ?_ | apply HC.block | apply HC.skip | apply HC.exit | apply HC.ret | apply HX.e_block | refine HX.e_other rfl ?_ | apply HX.e_then | apply HX.e_again | apply HX.n_block | apply HX.r_then | apply HX.r_block | apply HX.r_again | refine HC.cond_yes rfl ?_ | refine HC.cond_no rfl ?_ | refine HL.one (H1.ldb rfl memA rfl rfl ?_) | refine HC.cond rfl (fun hc => ?_) (fun hc => ?_) | refine HC.cond_b rfl (fun hc => ?_) (fun hc => ?_))
      exact HX.ret2 rfl rfl rfl fun w' hM => ⟨rfl, hM.ext⟩
    · rw [decide_eq_false h2]
      repeat' (first | apply HL.fold | apply HA.fold | apply HL.nil | apply HX.n_then | apply HC.seq | apply HC.region | refine HL.pa ?_ | refine HL.ga rfl ?_ | refine HL.na rfl ?_ | refine HL.nu rfl rfl ?_ | apply HC.block | apply HC.skip | apply HC.exit | apply HC.ret | apply HX.e_block | refine HX.e_other rfl ?_ | apply HX.e_then | apply HX.e_again | apply HX.n_block | apply HX.r_then | apply HX.r_block | apply HX.r_again | refine HC.cond_yes rfl ?_ | refine HC.cond_no rfl ?_ | refine HL.one (H1.ldb rfl memA rfl rfl ?_) | refine HC.cond rfl (fun hc => ?_) (fun hc => ?_) | refine HC.cond_b rfl (fun hc => ?_) (fun hc => ?_))
      exact HX.ret2 rfl rfl rfl fun w' hM => ⟨rfl, hM.ext⟩
  · rw [decide_eq_false h1]
    repeat' (first | apply HL.fold | apply HA.fold | apply HL.nil | apply HX.n_then | apply HC.seq | apply HC.region | refine HL.pa ?_ | refine HL.ga rfl ?_ | refine HL.na rfl ?_ | refine HL.nu rfl rfl ?_ | apply HC.block | apply HC.skip | apply HC.exit | apply HC.ret | apply HX.e_block | refine HX.e_other rfl ?_ | apply HX.e_then | apply HX.e_again | apply HX.n_block | apply HX.r_then | apply HX.r_block | apply HX.r_again | refine HC.cond_yes rfl ?_ | refine HC.cond_no rfl ?_ | refine HL.one (H1.ldb rfl memA rfl rfl ?_) | refine HC.cond rfl (fun hc => ?_) (fun hc => ?_) | refine HC.cond_b rfl (fun hc => ?_) (fun hc => ?_))
    exact HX.ret2 rfl rfl rfl fun w' hM => ⟨rfl, hM.ext⟩
set_option maxHeartbeats 2000000 in
theorem refSplit_yes (s : ByteArray) (k n : Nat) (hk : 1 ≤ k) (hkn : k ≤ n) (hn : n ≤ 9) (hs : s.size ≤ 4096 * k) (w : World) :
    Fn Tryd.prog 7 #[.string s, iv k, iv n] w fun v w' => ∃ z : Option Addr × Nat, True ∧ v = .tuple #[.slice z.1 n z.2, .int .i64 0] ∧ Mm w [A.grow 9 1 z.1 z.2 n (strs (codeL s k n))] w' := by
  have hquo : ((s.size : Int) + k - 1) / k = ((mOf s.size k : Nat) : Int) := by
    unfold mOf
    rw [Int.natCast_ediv]
    congr 1
    omega
  have hm1 := mOf_ge s.size (show 0 < k by omega)
  have hm2 := mOf_le (show 0 < k by omega) hs
  have hm3 : k * mOf s.size k ≤ 36864 := Nat.le_trans (Nat.mul_le_mul (show k ≤ 9 by omega) hm2) (by decide)
  have hpad := padS_size s (show 0 < k by omega)
  have hparts : ∀ i, i < k → codeA s k i = (padS s k).extract (i * mOf s.size k) ((i + 1) * mOf s.size k) := fun i h => by rw [codeA, if_pos h, partOf]
  have hzs : padS s k = s ++ zeros (k * mOf s.size k - s.size) := rfl
  have hzz := zeros_size (k * mOf s.size k - s.size)
  have hcs := codeA_size s k
  have hat := fun {j : Nat} (h1 : k ≤ j) (h2 : j ≤ 9) => atR_code (s := s) hk (by omega) h1 h2
  refine enterH (l := [_, _, _]) rfl Tryd.ntmps7 rfl ?_
  repeat' (first | apply HL.fold | apply HA.fold | apply HL.nil | apply HX.n_then | apply HC.seq | apply HC.region | refine HL.pa ?_ | refine HL.ga rfl ?_ | refine HL.na rfl ?_ | refine HL.nu rfl rfl ?_ | apply HC.block | apply HC.skip | apply HC.exit | apply HC.ret | apply HX.e_block | refine HX.e_other rfl ?_ | apply HX.e_then | apply HX.e_again | apply HX.n_block | apply HX.r_then | apply HX.r_block | apply HX.r_again | refine HC.cond_yes rfl ?_ | refine HC.cond_no rfl ?_ | refine HL.one (H1.ldb rfl memA rfl rfl ?_) | refine HC.cond rfl (fun hc => ?_) (fun hc => ?_) | refine HC.cond_b rfl (fun hc => ?_) (fun hc => ?_))
  refine HL.one (H1.call0 (vs := [iv n, .int .i64 1, .int .i64 9]) rfl rfl (fun w' _ => within_fn _ _ _ w') ?_)
  rw [decide_eq_true (show (1 : Int) ≤ n ∧ (n : Int) ≤ 9 by omega)]
  repeat' (first | apply HL.fold | apply HA.fold | apply HL.nil | apply HX.n_then | apply HC.seq | apply HC.region | refine HL.pa ?_ | refine HL.ga rfl ?_ | refine HL.na rfl ?_ | refine HL.nu rfl rfl ?_ | apply HC.block | apply HC.skip | apply HC.exit | apply HC.ret | apply HX.e_block | refine HX.e_other rfl ?_ | apply HX.e_then | apply HX.e_again | apply HX.n_block | apply HX.r_then | apply HX.r_block | apply HX.r_again | refine HC.cond_yes rfl ?_ | refine HC.cond_no rfl ?_ | refine HL.one (H1.ldb rfl memA rfl rfl ?_) | refine HC.cond rfl (fun hc => ?_) (fun hc => ?_) | refine HC.cond_b rfl (fun hc => ?_) (fun hc => ?_))
  refine HL.one (H1.call0 (vs := [iv k, .int .i64 1, iv n]) rfl rfl (fun w' _ => within_fn _ _ _ w') ?_)
  rw [decide_eq_true (show (1 : Int) ≤ k ∧ (k : Int) ≤ n by omega)]
  repeat' (first | apply HL.fold | apply HA.fold | apply HL.nil | apply HX.n_then | apply HC.seq | apply HC.region | refine HL.pa ?_ | refine HL.ga rfl ?_ | refine HL.na rfl ?_ | refine HL.nu rfl rfl ?_ | apply HC.block | apply HC.skip | apply HC.exit | apply HC.ret | apply HX.e_block | refine HX.e_other rfl ?_ | apply HX.e_then | apply HX.e_again | apply HX.n_block | apply HX.r_then | apply HX.r_block | apply HX.r_again | refine HC.cond_yes rfl ?_ | refine HC.cond_no rfl ?_ | refine HL.one (H1.ldb rfl memA rfl rfl ?_) | refine HC.cond rfl (fun hc => ?_) (fun hc => ?_) | refine HC.cond_b rfl (fun hc => ?_) (fun hc => ?_))
  refine HL.one (H1.call0 (vs := [iv s.size, iv k]) rfl rfl (fun w' _ => size_fn _ _ (by omega) (by omega) w') ?_)
  rw [hquo]
  generalize hM : mOf s.size k = M at *
  have hkm : (k : Int) * (M : Int) = ((k * M : Nat) : Int) := by rw [Int.natCast_mul]
  have hkm2 : (k : Int) * (M : Int) - (s.size : Int) = ((k * M - s.size : Nat) : Int) := by omega
  repeat' (first | apply HL.fold | apply HA.fold | apply HL.nil | apply HX.n_then | apply HC.seq | apply HC.region | refine HL.pa ?_ | refine HL.ga rfl ?_ | refine HL.na rfl ?_ | refine HL.nu rfl rfl ?_ | apply HC.block | apply HC.skip | apply HC.exit | apply HC.ret | apply HX.e_block | refine HX.e_other rfl ?_ | apply HX.e_then | apply HX.e_again | apply HX.n_block | apply HX.r_then | apply HX.r_block | apply HX.r_again | refine HC.cond_yes rfl ?_ | refine HC.cond_no rfl ?_ | refine HL.one (H1.ldb rfl memA rfl rfl ?_) | refine HC.cond rfl (fun hc => ?_) (fun hc => ?_) | refine HC.cond_b rfl (fun hc => ?_) (fun hc => ?_))
  rw [hkm2]
  refine HL.one (H1.make (l := k * M - s.size) (c := k * M - s.size) rfl rfl rfl rfl rfl (Nat.le_refl _) (by omega) (by omega) rfl (fun b => ?_))
  rw [row_rep]
  repeat' (first | apply HL.fold | apply HA.fold | apply HL.nil | apply HX.n_then | apply HC.seq | apply HC.region | refine HL.pa ?_ | refine HL.ga rfl ?_ | refine HL.na rfl ?_ | refine HL.nu rfl rfl ?_ | apply HC.block | apply HC.skip | apply HC.exit | apply HC.ret | apply HX.e_block | refine HX.e_other rfl ?_ | apply HX.e_then | apply HX.e_again | apply HX.n_block | apply HX.r_then | apply HX.r_block | apply HX.r_again | refine HC.cond_yes rfl ?_ | refine HC.cond_no rfl ?_ | refine HL.one (H1.ldb rfl memA rfl rfl ?_) | refine HC.cond rfl (fun hc => ?_) (fun hc => ?_) | refine HC.cond_b rfl (fun hc => ?_) (fun hc => ?_))
  refine HL.one (H1.bstr (n := k * M - s.size) (f := fun _ => 0) rfl memD (fun _ _ => by decide) rfl ?_)
  rw [mkS_zero]
  repeat' (first | apply HL.fold | apply HA.fold | apply HL.nil | apply HX.n_then | apply HC.seq | apply HC.region | refine HL.pa ?_ | refine HL.ga rfl ?_ | refine HL.na rfl ?_ | refine HL.nu rfl rfl ?_ | apply HC.block | apply HC.skip | apply HC.exit | apply HC.ret | apply HX.e_block | refine HX.e_other rfl ?_ | apply HX.e_then | apply HX.e_again | apply HX.n_block | apply HX.r_then | apply HX.r_block | apply HX.r_again | refine HC.cond_yes rfl ?_ | refine HC.cond_no rfl ?_ | refine HL.one (H1.ldb rfl memA rfl rfl ?_) | refine HC.cond rfl (fun hc => ?_) (fun hc => ?_) | refine HC.cond_b rfl (fun hc => ?_) (fun hc => ?_))
  rw [← hzs]
  generalize padS s k = S at *
  refine HC.grow0 9 1 ?_
  refine HC.grow0 3 1 ?_
  refine HC.loop (α := Nat × (Option Addr × Nat) × (Option Addr × Nat)) (fun z => [(1, iv k), (2, iv n), (8, iv M), (9, .string S), (10, .slice z.2.1.1 z.1 z.2.1.2), (11, .slice z.2.2.1 z.1 z.2.2.2), (12, iv z.1)])
    (fun z => [A.grow 3 1 z.2.2.1 z.2.2.2 z.1 ((List.range z.1).map iv), A.grow 9 1 z.2.1.1 z.2.1.2 z.1 (strs (codeL s k z.1))]) (fun z => z.1 ≤ k) (fun z => k - z.1) (0, (none, 0), (none, 0)) (Nat.zero_le _) esA (by repeat (first | exact Hs.nil _ | (refine Hs.cons pickA ?_))) ?_
  rintro ⟨i, ⟨ao, co⟩, ⟨an, cn⟩⟩ hi
  dsimp only at hi ⊢
  by_cases hlt : i < k
  · have e1 : (i : Int) * (M : Int) = ((i * M : Nat) : Int) := by rw [Int.natCast_mul]
    have e2 : ((i : Int) + 1) * (M : Int) = (((i + 1) * M : Nat) : Int) := by rw [Int.natCast_mul]; rfl
    have e3 : (i + 1) * M = i * M + M := Nat.succ_mul _ _
    have e4 : (i + 1) * M ≤ k * M := Nat.mul_le_mul_right _ hlt
    have e5 := hparts i hlt
    repeat' (first | apply HL.fold | apply HA.fold | apply HL.nil | apply HX.n_then | apply HC.seq | apply HC.region | refine HL.pa ?_ | refine HL.ga rfl ?_ | refine HL.na rfl ?_ | refine HL.nu rfl rfl ?_ | apply HC.block | apply HC.skip | apply HC.exit | apply HC.ret | apply HX.e_block | refine HX.e_other rfl ?_ | apply HX.e_then | apply HX.e_again | apply HX.n_block | apply HX.r_then | apply HX.r_block | apply HX.r_again | refine HC.cond_yes rfl ?_ | refine HC.cond_no rfl ?_ | refine HL.one (H1.ldb rfl memA rfl rfl ?_) | refine HC.cond rfl (fun hc => ?_) (fun hc => ?_) | refine HC.cond_b rfl (fun hc => ?_) (fun hc => ?_))
    rw [e1, e2]
    repeat' (first | apply HL.fold | apply HA.fold | apply HL.nil | apply HX.n_then | apply HC.seq | apply HC.region | refine HL.pa ?_ | refine HL.ga rfl ?_ | refine HL.na rfl ?_ | refine HL.nu rfl rfl ?_ | apply HC.block | apply HC.skip | apply HC.exit | apply HC.ret | apply HX.e_block | refine HX.e_other rfl ?_ | apply HX.e_then | apply HX.e_again | apply HX.n_block | apply HX.r_then | apply HX.r_block | apply HX.r_again | refine HC.cond_yes rfl ?_ | refine HC.cond_no rfl ?_ | refine HL.one (H1.ldb rfl memA rfl rfl ?_) | refine HC.cond rfl (fun hc => ?_) (fun hc => ?_) | refine HC.cond_b rfl (fun hc => ?_) (fun hc => ?_))
    simp only [Int.toNat_natCast]
    rw [← e5]
    refine HL.one (H1.lit (cs := [.string (codeA s k i)]) rfl rfl rfl rfl rfl rfl (fun b2 => ?_))
    repeat' (first | apply HL.fold | apply HA.fold | apply HL.nil | apply HX.n_then | apply HC.seq | apply HC.region | refine HL.pa ?_ | refine HL.ga rfl ?_ | refine HL.na rfl ?_ | refine HL.nu rfl rfl ?_ | apply HC.block | apply HC.skip | apply HC.exit | apply HC.ret | apply HX.e_block | refine HX.e_other rfl ?_ | apply HX.e_then | apply HX.e_again | apply HX.n_block | apply HX.r_then | apply HX.r_block | apply HX.r_again | refine HC.cond_yes rfl ?_ | refine HC.cond_no rfl ?_ | refine HL.one (H1.ldb rfl memA rfl rfl ?_) | refine HC.cond rfl (fun hc => ?_) (fun hc => ?_) | refine HC.cond_b rfl (fun hc => ?_) (fun hc => ?_))
    refine HL.one (H1.app1 (u := .string (codeA s k i)) rfl rfl (fun _ _ => by first | ((repeat (first | with_reducible exact Rpl.here | with_reducible apply Rpl.there)); done) | (repeat (first | exact Rpl.here | apply Rpl.there))) memA rfl rfl (by omega) rfl rfl (fun a' c' => ?_))
    rw [codeL_step]
    repeat' (first | apply HL.fold | apply HA.fold | apply HL.nil | apply HX.n_then | apply HC.seq | apply HC.region | refine HL.pa ?_ | refine HL.ga rfl ?_ | refine HL.na rfl ?_ | refine HL.nu rfl rfl ?_ | apply HC.block | apply HC.skip | apply HC.exit | apply HC.ret | apply HX.e_block | refine HX.e_other rfl ?_ | apply HX.e_then | apply HX.e_again | apply HX.n_block | apply HX.r_then | apply HX.r_block | apply HX.r_again | refine HC.cond_yes rfl ?_ | refine HC.cond_no rfl ?_ | refine HL.one (H1.ldb rfl memA rfl rfl ?_) | refine HC.cond rfl (fun hc => ?_) (fun hc => ?_) | refine HC.cond_b rfl (fun hc => ?_) (fun hc => ?_))
    refine HL.one (H1.lit (cs := [iv i]) rfl rfl rfl rfl rfl rfl (fun b3 => ?_))
    repeat' (first | apply HL.fold | apply HA.fold | apply HL.nil | apply HX.n_then | apply HC.seq | apply HC.region | refine HL.pa ?_ | refine HL.ga rfl ?_ | refine HL.na rfl ?_ | refine HL.nu rfl rfl ?_ | apply HC.block | apply HC.skip | apply HC.exit | apply HC.ret | apply HX.e_block | refine HX.e_other rfl ?_ | apply HX.e_then | apply HX.e_again | apply HX.n_block | apply HX.r_then | apply HX.r_block | apply HX.r_again | refine HC.cond_yes rfl ?_ | refine HC.cond_no rfl ?_ | refine HL.one (H1.ldb rfl memA rfl rfl ?_) | refine HC.cond rfl (fun hc => ?_) (fun hc => ?_) | refine HC.cond_b rfl (fun hc => ?_) (fun hc => ?_))
    refine HL.one (H1.app1 (u := iv i) rfl rfl (fun _ _ => by first | ((repeat (first | with_reducible exact Rpl.here | with_reducible apply Rpl.there)); done) | (repeat (first | exact Rpl.here | apply Rpl.there))) memA rfl rfl (by omega) rfl rfl (fun a2 c2 => ?_))
    rw [rangeI_step]
    repeat' (first | apply HL.fold | apply HA.fold | apply HL.nil | apply HX.n_then | apply HC.seq | apply HC.region | refine HL.pa ?_ | refine HL.ga rfl ?_ | refine HL.na rfl ?_ | refine HL.nu rfl rfl ?_ | apply HC.block | apply HC.skip | apply HC.exit | apply HC.ret | apply HX.e_block | refine HX.e_other rfl ?_ | apply HX.e_then | apply HX.e_again | apply HX.n_block | apply HX.r_then | apply HX.r_block | apply HX.r_again | refine HC.cond_yes rfl ?_ | refine HC.cond_no rfl ?_ | refine HL.one (H1.ldb rfl memA rfl rfl ?_) | refine HC.cond rfl (fun hc => ?_) (fun hc => ?_) | refine HC.cond_b rfl (fun hc => ?_) (fun hc => ?_))
    exact HX.again (i + 1, (some ⟨a', 0, none⟩, c'), (some ⟨a2, 0, none⟩, c2)) (by show i + 1 ≤ k; omega) (by show k - (i + 1) < k - i; omega) esA (by repeat (first | exact Hs.nil _ | (refine Hs.cons pickA ?_)))
  obtain rfl : k = i := by omega
  repeat' (first | apply HL.fold | apply HA.fold | apply HL.nil | apply HX.n_then | apply HC.seq | apply HC.region | refine HL.pa ?_ | refine HL.ga rfl ?_ | refine HL.na rfl ?_ | refine HL.nu rfl rfl ?_ | apply HC.block | apply HC.skip | apply HC.exit | apply HC.ret | apply HX.e_block | refine HX.e_other rfl ?_ | apply HX.e_then | apply HX.e_again | apply HX.n_block | apply HX.r_then | apply HX.r_block | apply HX.r_again | refine HC.cond_yes rfl ?_ | refine HC.cond_no rfl ?_ | refine HL.one (H1.ldb rfl memA rfl rfl ?_) | refine HC.cond rfl (fun hc => ?_) (fun hc => ?_) | refine HC.cond_b rfl (fun hc => ?_) (fun hc => ?_))
  refine HC.loop (α := Nat × Option Addr × Nat) (fun z => [(1, iv k), (2, iv n), (10, .slice z.2.1 z.1 z.2.2), (11, .slice an k cn), (13, iv z.1)])
    (fun z => [A.grow 9 1 z.2.1 z.2.2 z.1 (strs (codeL s k z.1)), A.grow 3 1 an cn k ((List.range k).map iv)]) (fun z => k ≤ z.1 ∧ z.1 ≤ n) (fun z => n - z.1) (k, ao, co) ⟨Nat.le_refl _, hkn⟩ esA (by repeat (first | exact Hs.nil _ | (refine Hs.cons pickA ?_))) ?_
  rintro ⟨j, a, c⟩ ⟨hj1, hj2⟩
  dsimp only at hj1 hj2 ⊢
  by_cases hlt2 : j < n
  · repeat' (first | apply HL.fold | apply HA.fold | apply HL.nil | apply HX.n_then | apply HC.seq | apply HC.region | refine HL.pa ?_ | refine HL.ga rfl ?_ | refine HL.na rfl ?_ | refine HL.nu rfl rfl ?_ | apply HC.block | apply HC.skip | apply HC.exit | apply HC.ret | apply HX.e_block | refine HX.e_other rfl ?_ | apply HX.e_then | apply HX.e_again | apply HX.n_block | apply HX.r_then | apply HX.r_block | apply HX.r_again | refine HC.cond_yes rfl ?_ | refine HC.cond_no rfl ?_ | refine HL.one (H1.ldb rfl memA rfl rfl ?_) | refine HC.cond rfl (fun hc => ?_) (fun hc => ?_) | refine HC.cond_b rfl (fun hc => ?_) (fun hc => ?_))
    refine HL.one (H1.callx (vs := [.slice a j c, .slice an k cn, iv j]) rfl rfl (fun w' hM => by
      have h1 : Rd w' (.slice a j c) (strs (codeL s k j)) := hM.gr memA
      have h2 : Rd w' (.slice an k cn) ((List.range k).map iv) := hM.gr memA
      have h3 := at_fn _ _ (codeL s k j) (List.range k) j M (by omega) (by omega) (by rw [codeL_len]; omega) (by rw [List.length_range]; omega) (by rw [List.length_range]; omega) (fun h hh => by
        have := List.mem_range.1 hh
        rw [codeL_len, codeL_fr s k (by omega)]
        exact ⟨by omega, hcs h⟩) w' h1 h2
      rw [hat hj1 (by omega)] at h3
      exact h3) ?_)
    repeat' (first | apply HL.fold | apply HA.fold | apply HL.nil | apply HX.n_then | apply HC.seq | apply HC.region | refine HL.pa ?_ | refine HL.ga rfl ?_ | refine HL.na rfl ?_ | refine HL.nu rfl rfl ?_ | apply HC.block | apply HC.skip | apply HC.exit | apply HC.ret | apply HX.e_block | refine HX.e_other rfl ?_ | apply HX.e_then | apply HX.e_again | apply HX.n_block | apply HX.r_then | apply HX.r_block | apply HX.r_again | refine HC.cond_yes rfl ?_ | refine HC.cond_no rfl ?_ | refine HL.one (H1.ldb rfl memA rfl rfl ?_) | refine HC.cond rfl (fun hc => ?_) (fun hc => ?_) | refine HC.cond_b rfl (fun hc => ?_) (fun hc => ?_))
    refine HL.one (H1.lit (cs := [.string (codeA s k j)]) rfl rfl rfl rfl rfl rfl (fun b2 => ?_))
    repeat' (first | apply HL.fold | apply HA.fold | apply HL.nil | apply HX.n_then | apply HC.seq | apply HC.region | refine HL.pa ?_ | refine HL.ga rfl ?_ | refine HL.na rfl ?_ | refine HL.nu rfl rfl ?_ | apply HC.block | apply HC.skip | apply HC.exit | apply HC.ret | apply HX.e_block | refine HX.e_other rfl ?_ | apply HX.e_then | apply HX.e_again | apply HX.n_block | apply HX.r_then | apply HX.r_block | apply HX.r_again | refine HC.cond_yes rfl ?_ | refine HC.cond_no rfl ?_ | refine HL.one (H1.ldb rfl memA rfl rfl ?_) | refine HC.cond rfl (fun hc => ?_) (fun hc => ?_) | refine HC.cond_b rfl (fun hc => ?_) (fun hc => ?_))
    refine HL.one (H1.app1 (u := .string (codeA s k j)) rfl rfl (fun _ _ => by first | ((repeat (first | with_reducible exact Rpl.here | with_reducible apply Rpl.there)); done) | (repeat (first | exact Rpl.here | apply Rpl.there))) memA rfl rfl (by omega) rfl rfl (fun a' c' => ?_))
    rw [codeL_step]
    repeat' (first | apply HL.fold | apply HA.fold | apply HL.nil | apply HX.n_then | apply HC.seq | apply HC.region | refine HL.pa ?_ | refine HL.ga rfl ?_ | refine HL.na rfl ?_ | refine HL.nu rfl rfl ?_ | apply HC.block | apply HC.skip | apply HC.exit | apply HC.ret | apply HX.e_block | refine HX.e_other rfl ?_ | apply HX.e_then | apply HX.e_again | apply HX.n_block | apply HX.r_then | apply HX.r_block | apply HX.r_again | refine HC.cond_yes rfl ?_ | refine HC.cond_no rfl ?_ | refine HL.one (H1.ldb rfl memA rfl rfl ?_) | refine HC.cond rfl (fun hc => ?_) (fun hc => ?_) | refine HC.cond_b rfl (fun hc => ?_) (fun hc => ?_))
    exact HX.again (j + 1, some ⟨a', 0, none⟩, c') ⟨by show k ≤ j + 1; omega, by show j + 1 ≤ n; omega⟩ (by show n - (j + 1) < n - j; omega) esA (by repeat (first | exact Hs.nil _ | (refine Hs.cons pickA ?_)))
  obtain rfl : n = j := by omega
  repeat' (first | apply HL.fold | apply HA.fold | apply HL.nil | apply HX.n_then | apply HC.seq | apply HC.region | refine HL.pa ?_ | refine HL.ga rfl ?_ | refine HL.na rfl ?_ | refine HL.nu rfl rfl ?_ | apply HC.block | apply HC.skip | apply HC.exit | apply HC.ret | apply HX.e_block | refine HX.e_other rfl ?_ | apply HX.e_then | apply HX.e_again | apply HX.n_block | apply HX.r_then | apply HX.r_block | apply HX.r_again | refine HC.cond_yes rfl ?_ | refine HC.cond_no rfl ?_ | refine HL.one (H1.ldb rfl memA rfl rfl ?_) | refine HC.cond rfl (fun hc => ?_) (fun hc => ?_) | refine HC.cond_b rfl (fun hc => ?_) (fun hc => ?_))
  exact HX.ret2 rfl rfl rfl fun w' hM => ⟨(a, c), trivial, rfl, hM.sub (by repeat (first | exact Hs.nil _ | (refine Hs.cons pickA ?_)))⟩
end Go.Sx

