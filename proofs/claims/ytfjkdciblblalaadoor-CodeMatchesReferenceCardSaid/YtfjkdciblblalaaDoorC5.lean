/- Chapter 17: isCode, strings.Repeat, Split. -/
import Derived.Test.YtfjkdciblblalaaDoorC4
import Derived.Test.YtfjkdciblblalaaDoorGF
import Derived.Test.YtfjkdciblblalaaDoorShelf
namespace Go.Sx
open Go Go.Proofs
theorem rep0 : ∀ n, Lib.repeatL [0] n = List.replicate n 0
  | 0 => rfl
  | n + 1 => by rw [Lib.repeatL, rep0 n]; rfl
theorem repeat0_fn (c : Nat) (w : World) (hc : c ≤ 100000) : Fn Tryd.prog 17 #[.string (ByteArray.mk #[0]), .int .i64 (c : Int)] w fun v w' => v = .string (zeros c) ∧ Ext w w' := by
  have := Tryd.strings_Repeat (ByteArray.mk #[0]) c w (by omega) (by
    have : (ByteArray.mk #[0]).size = 1 := rfl
    rw [this]; omega)
  refine Calls.mono this ?_
  rintro e w' ⟨rfl, h2⟩
  have h3 : (ByteArray.mk #[0]).data.toList = [0] := rfl
  exact ⟨_, rfl, by rw [h3, rep0]; rfl, h2⟩
attribute [local irreducible] WC WL WX POp Then Again Fn NX W1 WA WO QL RP RA Yld LoopAt
theorem isCode_fn (k n : Int) (w : World) : Fn Tryd.prog 16 #[.int .i64 k, .int .i64 n] w fun v w' => v = .bool (decide (isC k n)) ∧ w = w' := by
  refine enter (l := [_, _]) rfl Tryd.ntmps16 rfl ?_
  by_cases h1 : 1 ≤ k
  · by_cases h2 : k ≤ n
    · by_cases h3 : n ≤ 9
      · repeat' (first | apply WL.fold | apply WA.fold | apply WL.nil | apply WX.n_then | apply WC.seq | apply WC.region | refine WL.pa ?_ | refine WL.ga rfl ?_ | refine WL.na rfl ?_ | refine WL.nu rfl rfl ?_ | apply WC.block | apply WC.skip | apply WC.exit | apply WC.ret | apply WX.e_block | refine WX.e_other rfl ?_ | apply WX.e_then | apply WX.e_again | apply WX.n_block | apply WX.r_then | apply WX.r_block | apply WX.r_again | refine WC.cond_yes rfl ?_ | refine WC.cond_no rfl ?_ | refine WC.cond rfl (fun hc => ?_) (fun hc => ?_) | refine WC.cond_b rfl (fun hc => ?_) (fun hc => ?_))
        exact WX.ret1 rfl rfl ⟨by simp [isC, h1, h2, h3], rfl⟩
      · repeat' (first | apply WL.fold | apply WA.fold | apply WL.nil | apply WX.n_then | apply WC.seq | apply WC.region | refine WL.pa ?_ | refine WL.ga rfl ?_ | refine WL.na rfl ?_ | refine WL.nu rfl rfl ?_ | apply WC.block | apply WC.skip | apply WC.exit | apply WC.ret | apply WX.e_block | refine WX.e_other rfl ?_ | apply WX.e_then | apply WX.e_again | apply WX.n_block | apply WX.r_then | apply WX.r_block | apply WX.r_again | refine WC.cond_yes rfl ?_ | refine WC.cond_no rfl ?_ | refine WC.cond rfl (fun hc => ?_) (fun hc => ?_) | refine WC.cond_b rfl (fun hc => ?_) (fun hc => ?_))
        exact WX.ret1 rfl rfl ⟨by simp [isC, h1, h2, h3], rfl⟩
    · repeat' (first | apply WL.fold | apply WA.fold | apply WL.nil | apply WX.n_then | apply WC.seq | apply WC.region | refine WL.pa ?_ | refine WL.ga rfl ?_ | refine WL.na rfl ?_ | refine WL.nu rfl rfl ?_ | apply WC.block | apply WC.skip | apply WC.exit | apply WC.ret | apply WX.e_block | refine WX.e_other rfl ?_ | apply WX.e_then | apply WX.e_again | apply WX.n_block | apply WX.r_then | apply WX.r_block | apply WX.r_again | refine WC.cond_yes rfl ?_ | refine WC.cond_no rfl ?_ | refine WC.cond rfl (fun hc => ?_) (fun hc => ?_) | refine WC.cond_b rfl (fun hc => ?_) (fun hc => ?_))
      exact WX.ret1 rfl rfl ⟨by simp [isC, h1, h2], rfl⟩
  · repeat' (first | apply WL.fold | apply WA.fold | apply WL.nil | apply WX.n_then | apply WC.seq | apply WC.region | refine WL.pa ?_ | refine WL.ga rfl ?_ | refine WL.na rfl ?_ | refine WL.nu rfl rfl ?_ | apply WC.block | apply WC.skip | apply WC.exit | apply WC.ret | apply WX.e_block | refine WX.e_other rfl ?_ | apply WX.e_then | apply WX.e_again | apply WX.n_block | apply WX.r_then | apply WX.r_block | apply WX.r_again | refine WC.cond_yes rfl ?_ | refine WC.cond_no rfl ?_ | refine WC.cond rfl (fun hc => ?_) (fun hc => ?_) | refine WC.cond_b rfl (fun hc => ?_) (fun hc => ?_))
    exact WX.ret1 rfl rfl ⟨by simp [isC, h1], rfl⟩
theorem split_no (s : ByteArray) (k n : Int) (h : ¬ (isC k n ∧ (s.size : Int) ≤ 4096 * k)) (w : World) :
    Fn Tryd.prog 6 #[.string s, .int .i64 k, .int .i64 n] w fun v w' => v = .tuple #[.slice none 0 0, .int .i64 170] ∧ w = w' := by
  refine enter (l := [_, _, _]) rfl Tryd.ntmps6 rfl ?_
  repeat' (first | apply WL.fold | apply WA.fold | apply WL.nil | apply WX.n_then | apply WC.seq | apply WC.region | refine WL.pa ?_ | refine WL.ga rfl ?_ | refine WL.na rfl ?_ | refine WL.nu rfl rfl ?_ | apply WC.block | apply WC.skip | apply WC.exit | apply WC.ret | apply WX.e_block | refine WX.e_other rfl ?_ | apply WX.e_then | apply WX.e_again | apply WX.n_block | apply WX.r_then | apply WX.r_block | apply WX.r_again | refine WC.cond_yes rfl ?_ | refine WC.cond_no rfl ?_ | refine WC.cond rfl (fun hc => ?_) (fun hc => ?_) | refine WC.cond_b rfl (fun hc => ?_) (fun hc => ?_))
  refine WL.call rfl rfl (isCode_fn _ _ _) ?_
  rintro _ w1 ⟨rfl, rfl⟩
  by_cases hc : isC k n
  · have hb := hc
    obtain ⟨b1, b2, b3⟩ := hb
    have h2 : ¬ (s.size : Int) ≤ 4096 * k := fun h2 => h ⟨hc, h2⟩
    simp only [hc, decide_true]
    repeat' (first | apply WL.fold | apply WA.fold | apply WL.nil | apply WX.n_then | apply WC.seq | apply WC.region | refine WL.pa ?_ | refine WL.ga rfl ?_ | refine WL.na rfl ?_ | refine WL.nu rfl rfl ?_ | apply WC.block | apply WC.skip | apply WC.exit | apply WC.ret | apply WX.e_block | refine WX.e_other rfl ?_ | apply WX.e_then | apply WX.e_again | apply WX.n_block | apply WX.r_then | apply WX.r_block | apply WX.r_again | refine WC.cond_yes rfl ?_ | refine WC.cond_no rfl ?_ | refine WC.cond rfl (fun hc => ?_) (fun hc => ?_) | refine WC.cond_b rfl (fun hc => ?_) (fun hc => ?_))
    exact WX.ret2 rfl rfl rfl ⟨rfl, rfl⟩
  · simp only [hc, decide_false]
    repeat' (first | apply WL.fold | apply WA.fold | apply WL.nil | apply WX.n_then | apply WC.seq | apply WC.region | refine WL.pa ?_ | refine WL.ga rfl ?_ | refine WL.na rfl ?_ | refine WL.nu rfl rfl ?_ | apply WC.block | apply WC.skip | apply WC.exit | apply WC.ret | apply WX.e_block | refine WX.e_other rfl ?_ | apply WX.e_then | apply WX.e_again | apply WX.n_block | apply WX.r_then | apply WX.r_block | apply WX.r_again | refine WC.cond_yes rfl ?_ | refine WC.cond_no rfl ?_ | refine WC.cond rfl (fun hc => ?_) (fun hc => ?_) | refine WC.cond_b rfl (fun hc => ?_) (fun hc => ?_))
    exact WX.ret2 rfl rfl rfl ⟨rfl, rfl⟩
theorem split_new (s : ByteArray) (k n : Nat) (hk : 1 ≤ k) (hkn : k ≤ n) (hn : n ≤ 9) (hs : s.size ≤ 4096 * k) (w : World) (hr : Red w) :
    Fn Tryd.prog 6 #[.string s, .int .i64 (k : Int), .int .i64 (n : Int)] w fun v w' => ∃ b, w.heap.size ≤ b ∧ v = .tuple #[.slice (some ⟨b, 0, none⟩) n n, .int .i64 0] ∧ Rd w' (.slice (some ⟨b, 0, none⟩) n n) (strs (codeL s k n)) ∧ Ext w w' := by
  have hisC : isC k n := ⟨by omega, by omega, by omega⟩
  refine enter (l := [_, _, _]) rfl Tryd.ntmps6 rfl ?_
  repeat' (first | apply WL.fold | apply WA.fold | apply WL.nil | apply WX.n_then | apply WC.seq | apply WC.region | refine WL.pa ?_ | refine WL.ga rfl ?_ | refine WL.na rfl ?_ | refine WL.nu rfl rfl ?_ | apply WC.block | apply WC.skip | apply WC.exit | apply WC.ret | apply WX.e_block | refine WX.e_other rfl ?_ | apply WX.e_then | apply WX.e_again | apply WX.n_block | apply WX.r_then | apply WX.r_block | apply WX.r_again | refine WC.cond_yes rfl ?_ | refine WC.cond_no rfl ?_ | refine WC.cond rfl (fun hc => ?_) (fun hc => ?_) | refine WC.cond_b rfl (fun hc => ?_) (fun hc => ?_))
  refine WL.call rfl rfl (isCode_fn _ _ _) ?_
  rintro _ w1 ⟨rfl, rfl⟩
  simp only [hisC, decide_true]
  repeat' (first | apply WL.fold | apply WA.fold | apply WL.nil | apply WX.n_then | apply WC.seq | apply WC.region | refine WL.pa ?_ | refine WL.ga rfl ?_ | refine WL.na rfl ?_ | refine WL.nu rfl rfl ?_ | apply WC.block | apply WC.skip | apply WC.exit | apply WC.ret | apply WX.e_block | refine WX.e_other rfl ?_ | apply WX.e_then | apply WX.e_again | apply WX.n_block | apply WX.r_then | apply WX.r_block | apply WX.r_again | refine WC.cond_yes rfl ?_ | refine WC.cond_no rfl ?_ | refine WC.cond rfl (fun hc => ?_) (fun hc => ?_) | refine WC.cond_b rfl (fun hc => ?_) (fun hc => ?_))
  have hquo : ((s.size : Int) + k - 1) / k = ((mOf s.size k : Nat) : Int) := by
    unfold mOf
    rw [Int.natCast_ediv]
    congr 1
    omega
  have hm1 := mOf_ge s.size (show 0 < k by omega)
  have hm2 := mOf_le (show 0 < k by omega) hs
  have hm3 : k * mOf s.size k ≤ 36864 := Nat.le_trans (Nat.mul_le_mul (show k ≤ 9 by omega) hm2) (by decide)
  have hpad := padS_size s (show 0 < k by omega)
  have hparts : ∀ i, i < k → codeA s k i = (padS s k).extract (i * mOf s.size k) ((i + 1) * mOf s.size k) := fun i h => by simp [codeA, h, partOf]
  rw [hquo]
  have hzs : padS s k = s ++ zeros (k * mOf s.size k - s.size) := rfl
  have hcs := codeA_size s k
  generalize hM : mOf s.size k = M at *
  have hkm : (k : Int) * (M : Int) = ((k * M : Nat) : Int) := by rw [Int.natCast_mul]
  have hkm2 : (k : Int) * (M : Int) - (s.size : Int) = ((k * M - s.size : Nat) : Int) := by omega
  repeat' (first | apply WL.fold | apply WA.fold | apply WL.nil | apply WX.n_then | apply WC.seq | apply WC.region | refine WL.pa ?_ | refine WL.ga rfl ?_ | refine WL.na rfl ?_ | refine WL.nu rfl rfl ?_ | apply WC.block | apply WC.skip | apply WC.exit | apply WC.ret | apply WX.e_block | refine WX.e_other rfl ?_ | apply WX.e_then | apply WX.e_again | apply WX.n_block | apply WX.r_then | apply WX.r_block | apply WX.r_again | refine WC.cond_yes rfl ?_ | refine WC.cond_no rfl ?_ | refine WC.cond rfl (fun hc => ?_) (fun hc => ?_) | refine WC.cond_b rfl (fun hc => ?_) (fun hc => ?_))
  rw [hkm2]
  refine WL.call rfl rfl (repeat0_fn _ _ (by omega)) ?_
  rintro _ w1 ⟨rfl, x1⟩
  have hzz := zeros_size (k * M - s.size)
  repeat' (first | apply WL.fold | apply WA.fold | apply WL.nil | apply WX.n_then | apply WC.seq | apply WC.region | refine WL.pa ?_ | refine WL.ga rfl ?_ | refine WL.na rfl ?_ | refine WL.nu rfl rfl ?_ | apply WC.block | apply WC.skip | apply WC.exit | apply WC.ret | apply WX.e_block | refine WX.e_other rfl ?_ | apply WX.e_then | apply WX.e_again | apply WX.n_block | apply WX.r_then | apply WX.r_block | apply WX.r_again | refine WC.cond_yes rfl ?_ | refine WC.cond_no rfl ?_ | refine WC.cond rfl (fun hc => ?_) (fun hc => ?_) | refine WC.cond_b rfl (fun hc => ?_) (fun hc => ?_))
  rw [← hzs]
  generalize padS s k = S at *
  refine WC.cutT (α := Nat × Nat) (fun z => [(0, .string S), (1, iv k), (2, iv n), (8, iv M), (9, .slice (some ⟨z.1, 0, none⟩) k n), (10, .slice (some ⟨z.2, 0, none⟩) k k)])
    (fun z w' => z.1 ≠ z.2 ∧ Ext w1 w' ∧ w1.heap.size ≤ z.1 ∧ w1.heap.size ≤ z.2 ∧ Blk w' z.1 (row n fun _ => .string (ByteArray.mk #[])) 9 ∧ Blk w' z.2 (row k fun _ => iv 0) 3) ?_ ?_
  · refine WC.any rfl (fun w2 x2 _ => ?_)
    refine WA.pa 0 rfl ?_
    refine WA.pa 1 rfl ?_
    refine WA.pa 3 rfl ?_
    refine WA.all [2, 4] (by kernel_rfl) rfl ⟨⟨_, rfl, ?_⟩, ⟨_, rfl, ?_⟩, trivial⟩
    · refine WO.one (W1.make' rfl rfl rfl rfl rfl (by omega) (by omega) (by omega) rfl ?_)
      intro b3 w3 e3 s3 x3 k3
      apply WA.fold
      refine WA.pa 5 rfl ?_
      refine WA.all [4] (by kernel_rfl) rfl ⟨⟨_, rfl, ?_⟩, trivial⟩
      refine WO.one (W1.make' rfl rfl rfl rfl rfl (by omega) (by omega) (by omega) rfl ?_)
      intro b4 w4 e4 s4 x4 k4
      apply WA.fold
      refine WA.pa 6 rfl ?_
      apply WA.done (by kernel_rfl)
      refine WX.cut (b3, b4) ⟨by show b3 ≠ b4; omega, x2.trans (x3.trans x4), by show _ ≤ b3; have := x2.size; omega, by show _ ≤ b4; have := x2.size; omega, ?_, ?_⟩ ⟨rfl, rfl, rfl, rfl, rfl, rfl, trivial⟩
      · rw [← row_rep]; exact k3.ext x4
      · rw [← row_rep]; exact k4
    · refine WO.one (W1.make' rfl rfl rfl rfl rfl (by omega) (by omega) (by omega) rfl ?_)
      intro b4 w4 e4 s4 x4 k4
      apply WA.fold
      refine WA.all [2] (by kernel_rfl) rfl ⟨⟨_, rfl, ?_⟩, trivial⟩
      refine WO.one (W1.make' rfl rfl rfl rfl rfl (by omega) (by omega) (by omega) rfl ?_)
      intro b3 w3 e3 s3 x3 k3
      apply WA.fold
      refine WA.pa 5 rfl ?_
      refine WA.pa 6 rfl ?_
      apply WA.done (by kernel_rfl)
      refine WX.cut (b3, b4) ⟨by show b3 ≠ b4; omega, x2.trans (x4.trans x3), by show _ ≤ b3; have := x2.size; omega, by show _ ≤ b4; have := x2.size; omega, ?_, ?_⟩ ⟨rfl, rfl, rfl, rfl, rfl, rfl, trivial⟩
      · rw [← row_rep]; exact k3
      · rw [← row_rep]; exact k4.ext x3
  · rintro ⟨bo, bn⟩ w2 ⟨hne, x2, hbo, hbn, k3, k4⟩
    dsimp only at hne hbo hbn k3 k4 ⊢
    repeat' (first | apply WL.fold | apply WA.fold | apply WL.nil | apply WX.n_then | apply WC.seq | apply WC.region | refine WL.pa ?_ | refine WL.ga rfl ?_ | refine WL.na rfl ?_ | refine WL.nu rfl rfl ?_ | apply WC.block | apply WC.skip | apply WC.exit | apply WC.ret | apply WX.e_block | refine WX.e_other rfl ?_ | apply WX.e_then | apply WX.e_again | apply WX.n_block | apply WX.r_then | apply WX.r_block | apply WX.r_again | refine WC.cond_yes rfl ?_ | refine WC.cond_no rfl ?_ | refine WC.cond rfl (fun hc => ?_) (fun hc => ?_) | refine WC.cond_b rfl (fun hc => ?_) (fun hc => ?_))
    refine WC.loop (α := Nat) (fun i => [(46, iv k), (0, .string S), (1, iv k), (2, iv n), (8, iv M), (9, .slice (some ⟨bo, 0, none⟩) k n), (10, .slice (some ⟨bn, 0, none⟩) k k), (47, iv i)])
      (fun i w' => i ≤ k ∧ Ext w1 w' ∧ Blk w' bo (row n fun q => .string (if q < i then codeA s k q else ByteArray.mk #[])) 9 ∧ Blk w' bn (row k fun q => iv (if q < i then q else 0)) 3) (fun i => k - i) 0
      ⟨rfl, rfl, rfl, rfl, rfl, rfl, rfl, rfl, trivial⟩ ⟨by omega, x2, by simpa using k3, by simpa using k4⟩ ?_
    rintro i w3 ⟨hi, x3, k3, k4⟩
    by_cases hlt : i < k
    · have e1 : (i : Int) * (M : Int) = ((i * M : Nat) : Int) := by rw [Int.natCast_mul]
      have e2 : ((i : Int) + 1) * (M : Int) = (((i + 1) * M : Nat) : Int) := by rw [Int.natCast_mul]; rfl
      have e3 : (i + 1) * M = i * M + M := Nat.succ_mul _ _
      have e4 : (i + 1) * M ≤ k * M := Nat.mul_le_mul_right _ hlt
      repeat' (first | apply WL.fold | apply WA.fold | apply WL.nil | apply WX.n_then | apply WC.seq | apply WC.region | refine WL.pa ?_ | refine WL.ga rfl ?_ | refine WL.na rfl ?_ | refine WL.nu rfl rfl ?_ | apply WC.block | apply WC.skip | apply WC.exit | apply WC.ret | apply WX.e_block | refine WX.e_other rfl ?_ | apply WX.e_then | apply WX.e_again | apply WX.n_block | apply WX.r_then | apply WX.r_block | apply WX.r_again | refine WC.cond_yes rfl ?_ | refine WC.cond_no rfl ?_ | refine WC.cond rfl (fun hc => ?_) (fun hc => ?_) | refine WC.cond_b rfl (fun hc => ?_) (fun hc => ?_))
      rw [e1, e2]
      simp only [Int.toNat_natCast]
      rw [← hparts i hlt]
      refine WL.one (W1.store' rfl rfl (by intro _ h; cases h) (by intro _ h; cases h) k3 (by rw [row_len]; omega) fun w4 u4 g3 => ?_)
      repeat' (first | apply WL.fold | apply WA.fold | apply WL.nil | apply WX.n_then | apply WC.seq | apply WC.region | refine WL.pa ?_ | refine WL.ga rfl ?_ | refine WL.na rfl ?_ | refine WL.nu rfl rfl ?_ | apply WC.block | apply WC.skip | apply WC.exit | apply WC.ret | apply WX.e_block | refine WX.e_other rfl ?_ | apply WX.e_then | apply WX.e_again | apply WX.n_block | apply WX.r_then | apply WX.r_block | apply WX.r_again | refine WC.cond_yes rfl ?_ | refine WC.cond_no rfl ?_ | refine WC.cond rfl (fun hc => ?_) (fun hc => ?_) | refine WC.cond_b rfl (fun hc => ?_) (fun hc => ?_))
      refine WL.one (W1.store' rfl rfl (by intro _ h; cases h) (by intro _ h; cases h) (k4.keep1 u4 (fun e => hne e.symm)) (by rw [row_len]; omega) fun w5 u5 g4 => ?_)
      repeat' (first | apply WL.fold | apply WA.fold | apply WL.nil | apply WX.n_then | apply WC.seq | apply WC.region | refine WL.pa ?_ | refine WL.ga rfl ?_ | refine WL.na rfl ?_ | refine WL.nu rfl rfl ?_ | apply WC.block | apply WC.skip | apply WC.exit | apply WC.ret | apply WX.e_block | refine WX.e_other rfl ?_ | apply WX.e_then | apply WX.e_again | apply WX.n_block | apply WX.r_then | apply WX.r_block | apply WX.r_again | refine WC.cond_yes rfl ?_ | refine WC.cond_no rfl ?_ | refine WC.cond rfl (fun hc => ?_) (fun hc => ?_) | refine WC.cond_b rfl (fun hc => ?_) (fun hc => ?_))
      rw [row_set] at g3 g4
      refine WX.again (i + 1) ⟨by omega, u5.ext (u4.ext x3 hbo) hbn, (congrArg (fun l => Blk w5 bo l _) (row_congr fun q hq => ?_)).mp (g3.keep1 u5 hne), (congrArg (fun l => Blk w5 bn l _) (row_congr fun q hq => ?_)).mp g4⟩ (by omega) ⟨rfl, rfl, rfl, rfl, rfl, rfl, rfl, rfl, trivial⟩
      · by_cases e : q = i
        · subst e; simp
        · have : (q < i + 1) = (q < i) := by simp only [eq_iff_iff]; omega
          simp only [e, if_false, this]
      · by_cases e : q = i
        · subst e; simp
        · have : (q < i + 1) = (q < i) := by simp only [eq_iff_iff]; omega
          simp only [e, if_false, this]
    · obtain rfl : i = k := by omega
      have hnums : Rd w3 (.slice (some ⟨bn, 0, none⟩) i i) ((List.range i).map iv) := by
        have := Rd.of_blk k4 (l := i) (c := i) (by rw [row_len]; exact Nat.le_refl _) (Nat.le_refl _)
        rw [List.take_of_length_le (by rw [row_len]; exact Nat.le_refl _)] at this
        refine (congrArg (Rd w3 _) ?_).mp this
        apply List.map_congr_left
        intro q hq
        simp [List.mem_range.1 hq]
      repeat' (first | apply WL.fold | apply WA.fold | apply WL.nil | apply WX.n_then | apply WC.seq | apply WC.region | refine WL.pa ?_ | refine WL.ga rfl ?_ | refine WL.na rfl ?_ | refine WL.nu rfl rfl ?_ | apply WC.block | apply WC.skip | apply WC.exit | apply WC.ret | apply WX.e_block | refine WX.e_other rfl ?_ | apply WX.e_then | apply WX.e_again | apply WX.n_block | apply WX.r_then | apply WX.r_block | apply WX.r_again | refine WC.cond_yes rfl ?_ | refine WC.cond_no rfl ?_ | refine WC.cond rfl (fun hc => ?_) (fun hc => ?_) | refine WC.cond_b rfl (fun hc => ?_) (fun hc => ?_))
      have hwx := x1.trans x3
      refine WL.call rfl rfl (weights_fn _ (List.range i) (by simp; omega) (fun j hj => by have := List.mem_range.1 hj; omega) _ (hr.ext hwx) (by simp; omega) hnums) ?_
      rintro _ w4 ⟨b1, b2, rfl, x4, k5, k6⟩
      repeat' (first | apply WL.fold | apply WA.fold | apply WL.nil | apply WX.n_then | apply WC.seq | apply WC.region | refine WL.pa ?_ | refine WL.ga rfl ?_ | refine WL.na rfl ?_ | refine WL.nu rfl rfl ?_ | apply WC.block | apply WC.skip | apply WC.exit | apply WC.ret | apply WX.e_block | refine WX.e_other rfl ?_ | apply WX.e_then | apply WX.e_again | apply WX.n_block | apply WX.r_then | apply WX.r_block | apply WX.r_again | refine WC.cond_yes rfl ?_ | refine WC.cond_no rfl ?_ | refine WC.cond rfl (fun hc => ?_) (fun hc => ?_) | refine WC.cond_b rfl (fun hc => ?_) (fun hc => ?_))
      have g3 := k3.ext x4
      have n1 : b1 ≠ bo := k5.ne g3 (by decide)
      have n2 : b2 ≠ bo := k6.ne g3 (by decide)
      have hlenL : ∀ j, (codeL s i j).length = j := codeL_len s i
      refine WC.loop (α := Nat) (fun j => [(0, .string S), (1, iv i), (2, iv n), (8, iv M), (9, .slice (some ⟨bo, 0, none⟩) j n), (10, .slice (some ⟨bn, 0, none⟩) i i), (12, .func (.func 36) #[] #[.pointer (some ⟨b1, 0, none⟩), .pointer (some ⟨b2, 0, none⟩)]), (13, iv j)])
        (fun j w' => i ≤ j ∧ j ≤ n ∧ Ext w w' ∧ Blk w' bo (row n fun q => .string (if q < j then codeA s i q else ByteArray.mk #[])) 9 ∧ Rd w' (.slice (some ⟨bn, 0, none⟩) i i) ((List.range i).map iv) ∧
          Blk w' b1 [.slice (some ⟨bn, 0, none⟩) i i] 38 ∧ Blk w' b2 (row 9 fun j => iv (belA (List.range i) j)) 48 ∧ Blk w' bn (row i fun q => iv (if q < i then q else 0)) 3) (fun j => n - j) i
        ⟨rfl, rfl, rfl, rfl, rfl, rfl, rfl, rfl, trivial⟩ ⟨by omega, hkn, hwx.trans x4, g3, hnums.ext x4, k5, k6, k4.ext x4⟩ ?_
      clear k3 k4 k5 k6 g3 x4 hnums
      rintro j w5 ⟨hij, hj, hw5, k3, hnums, k5, k6, k4⟩
      have hfrs : Rd w5 (.slice (some ⟨bo, 0, none⟩) j n) (strs (codeL s i j)) := by
        have := Rd.of_row k3 hj hj
        refine (congrArg (Rd w5 _) ?_).mp this
        simp only [strs, codeL, List.map_map]
        apply List.map_congr_left
        intro q hq
        simp [List.mem_range.1 hq]
      by_cases hlt : j < n
      · repeat' (first | apply WL.fold | apply WA.fold | apply WL.nil | apply WX.n_then | apply WC.seq | apply WC.region | refine WL.pa ?_ | refine WL.ga rfl ?_ | refine WL.na rfl ?_ | refine WL.nu rfl rfl ?_ | apply WC.block | apply WC.skip | apply WC.exit | apply WC.ret | apply WX.e_block | refine WX.e_other rfl ?_ | apply WX.e_then | apply WX.e_again | apply WX.n_block | apply WX.r_then | apply WX.r_block | apply WX.r_again | refine WC.cond_yes rfl ?_ | refine WC.cond_no rfl ?_ | refine WC.cond rfl (fun hc => ?_) (fun hc => ?_) | refine WC.cond_b rfl (fun hc => ?_) (fun hc => ?_))
        refine WL.one (W1.callv rfl rfl rfl (weightsAt_fn j (by omega) _ (List.range i) (by simp; omega) (fun q hq => by have := List.mem_range.1 hq; omega) _ (hr.ext hw5) (by simp; omega) hnums b1 b2 k5 k6) ?_)
        rintro _ w6 ⟨rfl, x6⟩
        repeat' (first | apply WL.fold | apply WA.fold | apply WL.nil | apply WX.n_then | apply WC.seq | apply WC.region | refine WL.pa ?_ | refine WL.ga rfl ?_ | refine WL.na rfl ?_ | refine WL.nu rfl rfl ?_ | apply WC.block | apply WC.skip | apply WC.exit | apply WC.ret | apply WX.e_block | refine WX.e_other rfl ?_ | apply WX.e_then | apply WX.e_again | apply WX.n_block | apply WX.r_then | apply WX.r_block | apply WX.r_again | refine WC.cond_yes rfl ?_ | refine WC.cond_no rfl ?_ | refine WC.cond rfl (fun hc => ?_) (fun hc => ?_) | refine WC.cond_b rfl (fun hc => ?_) (fun hc => ?_))
        refine WL.call rfl rfl (computed_fn _ _ (codeL s i j) (List.range i) (wgtA (List.range i) j) M (by simp; omega) (fun q hq => by rw [hlenL]; have := List.mem_range.1 hq; omega) (fun q hq => by have := List.mem_range.1 hq; omega)
          (fun q hq => by rw [codeL_fr s i (by have := List.mem_range.1 hq; omega)]; exact hcs q) hm2 (by simp; omega) ?_ w6 (hr.ext (hw5.trans x6)) (hfrs.ext x6) (hnums.ext x6)) ?_
        · intro q; unfold wgtA; split
          · exact wgt_lt _ _ _
          · decide
        rintro _ w7 ⟨rfl, x7⟩
        have hval : cmpStr (codeL s i j) (List.range i) (wgtA (List.range i) j) M = codeA s i j := by
          have h1 : ¬ j < i := by omega
          simp only [codeA, h1, if_false, hM]
          refine cmpStr_congr _ _ fun q hq => ⟨?_, rfl⟩
          have h2 := List.mem_range.1 hq
          rw [codeL_fr s i (by omega), parts_fr s h2]
        rw [hval]
        repeat' (first | apply WL.fold | apply WA.fold | apply WL.nil | apply WX.n_then | apply WC.seq | apply WC.region | refine WL.pa ?_ | refine WL.ga rfl ?_ | refine WL.na rfl ?_ | refine WL.nu rfl rfl ?_ | apply WC.block | apply WC.skip | apply WC.exit | apply WC.ret | apply WX.e_block | refine WX.e_other rfl ?_ | apply WX.e_then | apply WX.e_again | apply WX.n_block | apply WX.r_then | apply WX.r_block | apply WX.r_again | refine WC.cond_yes rfl ?_ | refine WC.cond_no rfl ?_ | refine WC.cond rfl (fun hc => ?_) (fun hc => ?_) | refine WC.cond_b rfl (fun hc => ?_) (fun hc => ?_))
        refine WL.one (W1.lit1' rfl rfl rfl rfl ?_)
        intro b8 w8 e8 s8 x8 k8
        repeat' (first | apply WL.fold | apply WA.fold | apply WL.nil | apply WX.n_then | apply WC.seq | apply WC.region | refine WL.pa ?_ | refine WL.ga rfl ?_ | refine WL.na rfl ?_ | refine WL.nu rfl rfl ?_ | apply WC.block | apply WC.skip | apply WC.exit | apply WC.ret | apply WX.e_block | refine WX.e_other rfl ?_ | apply WX.e_then | apply WX.e_again | apply WX.n_block | apply WX.r_then | apply WX.r_block | apply WX.r_again | refine WC.cond_yes rfl ?_ | refine WC.cond_no rfl ?_ | refine WC.cond rfl (fun hc => ?_) (fun hc => ?_) | refine WC.cond_b rfl (fun hc => ?_) (fun hc => ?_))
        have x58 := x6.trans (x7.trans x8)
        refine WL.one (W1.append1r rfl rfl (k3.ext x58) (k8.cell (i := 0) rfl) rfl (by omega) (by rw [row_len]; omega) rfl ?_)
        intro w9 u9 g3
        repeat' (first | apply WL.fold | apply WA.fold | apply WL.nil | apply WX.n_then | apply WC.seq | apply WC.region | refine WL.pa ?_ | refine WL.ga rfl ?_ | refine WL.na rfl ?_ | refine WL.nu rfl rfl ?_ | apply WC.block | apply WC.skip | apply WC.exit | apply WC.ret | apply WX.e_block | refine WX.e_other rfl ?_ | apply WX.e_then | apply WX.e_again | apply WX.n_block | apply WX.r_then | apply WX.r_block | apply WX.r_again | refine WC.cond_yes rfl ?_ | refine WC.cond_no rfl ?_ | refine WC.cond rfl (fun hc => ?_) (fun hc => ?_) | refine WC.cond_b rfl (fun hc => ?_) (fun hc => ?_))
        rw [row_set] at g3
        have nbn : bn ≠ bo := fun e => hne e.symm
        have hx9 : Ext w w9 := u9.ext (hw5.trans x58) (by have := x1.size; omega)
        have g4 := (k4.ext x58).keep1 u9 nbn
        refine WX.again (j + 1) ⟨by omega, by omega, hx9, (congrArg (fun l => Blk w9 bo l _) (row_congr fun q hq => ?_)).mp g3, ?_, (k5.ext x58).keep1 u9 n1, (k6.ext x58).keep1 u9 n2, g4⟩ (by omega) ⟨rfl, rfl, rfl, rfl, rfl, rfl, rfl, rfl, trivial⟩
        · by_cases e : q = j
          · subst e; simp
          · have : (q < j + 1) = (q < j) := by simp only [eq_iff_iff]; omega
            simp only [e, if_false, this]
        · have := Rd.of_row g4 (Nat.le_refl _) (Nat.le_refl _)
          refine (congrArg (Rd w9 _) ?_).mp this
          apply List.map_congr_left
          intro q hq
          simp [List.mem_range.1 hq]
      · obtain rfl : j = n := by omega
        repeat' (first | apply WL.fold | apply WA.fold | apply WL.nil | apply WX.n_then | apply WC.seq | apply WC.region | refine WL.pa ?_ | refine WL.ga rfl ?_ | refine WL.na rfl ?_ | refine WL.nu rfl rfl ?_ | apply WC.block | apply WC.skip | apply WC.exit | apply WC.ret | apply WX.e_block | refine WX.e_other rfl ?_ | apply WX.e_then | apply WX.e_again | apply WX.n_block | apply WX.r_then | apply WX.r_block | apply WX.r_again | refine WC.cond_yes rfl ?_ | refine WC.cond_no rfl ?_ | refine WC.cond rfl (fun hc => ?_) (fun hc => ?_) | refine WC.cond_b rfl (fun hc => ?_) (fun hc => ?_))
        exact WX.ret2 rfl rfl rfl ⟨bo, Nat.le_trans x1.size hbo, rfl, hfrs, hw5⟩
theorem split_yes (s : ByteArray) (k n : Nat) (hk : 1 ≤ k) (hkn : k ≤ n) (hn : n ≤ 9) (hs : s.size ≤ 4096 * k) (w : World) (hr : Red w) :
    Fn Tryd.prog 6 #[.string s, .int .i64 (k : Int), .int .i64 (n : Int)] w fun v w' => ∃ c, v = .tuple #[c, .int .i64 0] ∧ Rd w' c (strs (codeL s k n)) ∧ Ext w w' :=
  (split_new s k n hk hkn hn hs w hr).mono fun _ _ ⟨_, _, h1, h2, h3⟩ => ⟨_, h1, h2, h3⟩
end Go.Sx

