/- Chapter 17: the laws' helper made. -/
import Derived.Test.YtfjkdciblblalaaDoorL2
namespace Go.Sx
open Go Go.Proofs
theorem WX.ret4 {P : Program} {N : Nat} {E : Env} {w : World} {fn : Func} {t1 t2 t3 t4 : Nat} {v1 v2 v3 v4 : Value} {R : Value → World → Prop} (hr : fn.results = #[.tmp t1, .tmp t2, .tmp t3, .tmp t4]) (h1 : Env.g E t1 = some v1) (h2 : Env.g E t2 = some v2)
    (h3 : Env.g E t3 = some v3) (h4 : Env.g E t4 = some v4) (h : R (.tuple #[v1, v2, v3, v4]) w) : WX N [] .ret (bodyPost P fn (RetP R)) E w := fun a ha =>
  ⟨ha.defers, _, by simp [results, hr]; rfl, _, rfl, by simp only [ha.get _ _ h1, ha.get _ _ h2, ha.get _ _ h3, ha.get _ _ h4]; exact h⟩
attribute [local irreducible] WC WL WX POp Then Again Fn NX W1 WA WO QL RP RA Yld LoopAt
/-- How many of the first n are there. -/
def cnt (n : Nat) (f : Nat → Bool) : Nat := ((List.range n).filter f).length
theorem cnt_le (n : Nat) (f : Nat → Bool) : cnt n f ≤ n := by
  unfold cnt
  refine Nat.le_trans (List.length_filter_le _ _) ?_
  simp
def upd (f : Nat → Bool) (i : Nat) (b : Bool) : Nat → Bool := fun j => if j = i then b else f j
theorem cnt_congr {n : Nat} {f g : Nat → Bool} (h : ∀ i, i < n → f i = g i) : cnt n f = cnt n g := by
  unfold cnt
  congr 1
  apply List.filter_congr
  intro i hi
  exact h i (List.mem_range.1 hi)
theorem cnt_succ (n : Nat) (f : Nat → Bool) : cnt (n + 1) f = cnt n f + if f n then 1 else 0 := by
  unfold cnt
  rw [List.range_succ, List.filter_append, List.length_append]
  congr 1
  cases h : f n <;> simp [h]
theorem cnt_upd {f : Nat → Bool} {i : Nat} (h : f i = false) : ∀ n, i < n → cnt n (upd f i true) = cnt n f + 1
  | 0, hi => by cases hi
  | n + 1, hi => by
    rw [cnt_succ, cnt_succ]
    by_cases e : i = n
    · subst e
      have h1 : cnt i (upd f i true) = cnt i f := cnt_congr fun j hj => by
        have : ¬ j = i := by omega
        simp [upd, this]
      rw [h1, h]
      simp [upd]
    · have h1 := cnt_upd h n (by omega)
      have : upd f i true n = f n := by
        have : ¬ n = i := fun e' => e e'.symm
        simp [upd, this]
      rw [h1, this]
      omega
theorem cnt_all {n : Nat} {f : Nat → Bool} (h : ∀ i, i < n → f i = true) : cnt n f = n := by
  unfold cnt
  rw [List.filter_eq_self.2 fun i hi => h i (List.mem_range.1 hi)]
  simp
theorem cnt_none {n : Nat} {f : Nat → Bool} (h : ∀ i, i < n → f i = false) : cnt n f = 0 := by
  unfold cnt
  rw [List.filter_eq_nil_iff.2 fun i hi => by rw [h i (List.mem_range.1 hi)]; simp]
  rfl
theorem row_upd {n i : Nat} {f : Nat → Bool} {b : Bool} : (row n fun q => .bool (f q)).set i (.bool b) = row n fun q => .bool (upd f i b q) := by
  rw [row_set]
  apply row_congr
  intro q _
  unfold upd
  split <;> rfl
set_option maxHeartbeats 2000000 in
theorem made_fn (s : ByteArray) (K N T : Int) (hK : -9223372036854775808 ≤ K ∧ K ≤ 9223372036854775807) (hN : -9223372036854775808 ≤ N ∧ N ≤ 9223372036854775807) (hT : -9223372036854775808 ≤ T ∧ T ≤ 9223372036854775807) (least : Nat) (hle : least ≤ 9) (w : World) :
    Fn Tryd.prog 5 #[.agg #[.string s, .int .i64 K, .int .i64 N, .int .i64 T], .int .i64 (least : Int)] w fun v w' => ∃ c k n th, v = .tuple #[.string (s.extract 0 (min s.size 200)), iv k, iv n, c] ∧ Ext w w' ∧ 1 ≤ k ∧ k ≤ n ∧ n ≤ 9 ∧ th.length = n ∧
      Rd w' c (bools th) ∧ min n (k + least) ≤ cnt n (tf th) ∧ n = 1 + (pickI N 9).toNat ∧ k = 1 + (pickI K (1 + (pickI N 9).toNat)).toNat := by
  refine enter (l := [_, _]) rfl Tryd.ntmps5 rfl ?_
  repeat' (first | apply WL.fold | apply WA.fold | apply WL.nil | apply WX.n_then | apply WC.seq | apply WC.region | refine WL.pa ?_ | refine WL.ga rfl ?_ | refine WL.na rfl ?_ | refine WL.nu rfl rfl ?_ | apply WC.block | apply WC.skip | apply WC.exit | apply WC.ret | apply WX.e_block | refine WX.e_other rfl ?_ | apply WX.e_then | apply WX.e_again | apply WX.n_block | apply WX.r_then | apply WX.r_block | apply WX.r_again | refine WC.cond_yes rfl ?_ | refine WC.cond_no rfl ?_ | refine WC.cond rfl (fun hc => ?_) (fun hc => ?_) | refine WC.cond_b rfl (fun hc => ?_) (fun hc => ?_))
  refine WL.one (W1.boxAgg' (cs := [.string s, .int .i64 K, .int .i64 N, .int .i64 T]) rfl rfl ?_)
  intro b1 w1 e1 s1 x1 k1
  repeat' (first | apply WL.fold | apply WA.fold | apply WL.nil | apply WX.n_then | apply WC.seq | apply WC.region | refine WL.pa ?_ | refine WL.ga rfl ?_ | refine WL.na rfl ?_ | refine WL.nu rfl rfl ?_ | apply WC.block | apply WC.skip | apply WC.exit | apply WC.ret | apply WX.e_block | refine WX.e_other rfl ?_ | apply WX.e_then | apply WX.e_again | apply WX.n_block | apply WX.r_then | apply WX.r_block | apply WX.r_again | refine WC.cond_yes rfl ?_ | refine WC.cond_no rfl ?_ | refine WC.cond rfl (fun hc => ?_) (fun hc => ?_) | refine WC.cond_b rfl (fun hc => ?_) (fun hc => ?_))
  refine WL.load rfl (k1.cell rfl) rfl ?_
  repeat' (first | apply WL.fold | apply WA.fold | apply WL.nil | apply WX.n_then | apply WC.seq | apply WC.region | refine WL.pa ?_ | refine WL.ga rfl ?_ | refine WL.na rfl ?_ | refine WL.nu rfl rfl ?_ | apply WC.block | apply WC.skip | apply WC.exit | apply WC.ret | apply WX.e_block | refine WX.e_other rfl ?_ | apply WX.e_then | apply WX.e_again | apply WX.n_block | apply WX.r_then | apply WX.r_block | apply WX.r_again | refine WC.cond_yes rfl ?_ | refine WC.cond_no rfl ?_ | refine WC.cond rfl (fun hc => ?_) (fun hc => ?_) | refine WC.cond_b rfl (fun hc => ?_) (fun hc => ?_))
  refine WL.call (vs := [.int .i64 N, .int .i64 9]) rfl rfl (pick_fn N 9 hN.1 hN.2 (by decide) w1) ?_
  rintro _ _ ⟨rfl, rfl⟩
  obtain ⟨p1, p2⟩ := pickI_lt N (n := 9) (by decide)
  obtain ⟨n0, hn0⟩ : ∃ m : Nat, pickI N 9 = m := ⟨(pickI N 9).toNat, by omega⟩
  rw [hn0] at p1 p2 ⊢
  repeat' (first | apply WL.fold | apply WA.fold | apply WL.nil | apply WX.n_then | apply WC.seq | apply WC.region | refine WL.pa ?_ | refine WL.ga rfl ?_ | refine WL.na rfl ?_ | refine WL.nu rfl rfl ?_ | apply WC.block | apply WC.skip | apply WC.exit | apply WC.ret | apply WX.e_block | refine WX.e_other rfl ?_ | apply WX.e_then | apply WX.e_again | apply WX.n_block | apply WX.r_then | apply WX.r_block | apply WX.r_again | refine WC.cond_yes rfl ?_ | refine WC.cond_no rfl ?_ | refine WC.cond rfl (fun hc => ?_) (fun hc => ?_) | refine WC.cond_b rfl (fun hc => ?_) (fun hc => ?_))
  refine WL.load rfl (k1.cell rfl) rfl ?_
  have hadd : (1 : Int) + (n0 : Int) = ((1 + n0 : Nat) : Int) := by omega
  rw [hadd, Int.toNat_natCast]
  obtain ⟨n, hn⟩ : ∃ n, n = 1 + n0 := ⟨_, rfl⟩
  rw [← hn]
  have hn1 : 1 ≤ n := by omega
  have hn9 : n ≤ 9 := by omega
  repeat' (first | apply WL.fold | apply WA.fold | apply WL.nil | apply WX.n_then | apply WC.seq | apply WC.region | refine WL.pa ?_ | refine WL.ga rfl ?_ | refine WL.na rfl ?_ | refine WL.nu rfl rfl ?_ | apply WC.block | apply WC.skip | apply WC.exit | apply WC.ret | apply WX.e_block | refine WX.e_other rfl ?_ | apply WX.e_then | apply WX.e_again | apply WX.n_block | apply WX.r_then | apply WX.r_block | apply WX.r_again | refine WC.cond_yes rfl ?_ | refine WC.cond_no rfl ?_ | refine WC.cond rfl (fun hc => ?_) (fun hc => ?_) | refine WC.cond_b rfl (fun hc => ?_) (fun hc => ?_))
  refine WL.call (vs := [.int .i64 K, iv n]) rfl rfl (pick_fn K n hK.1 hK.2 (by omega) w1) ?_
  rintro _ _ ⟨rfl, rfl⟩
  obtain ⟨q1, q2⟩ := pickI_lt K (n := (n : Int)) (by omega)
  have hkk : ((1 : Int) + (n0 : Int)) = (n : Int) := by omega
  obtain ⟨k0, hk0⟩ : ∃ m : Nat, pickI K n = m := ⟨(pickI K n).toNat, by omega⟩
  rw [hk0] at q1 q2 ⊢
  have hadd2 : (1 : Int) + (k0 : Int) = ((1 + k0 : Nat) : Int) := by omega
  repeat' (first | apply WL.fold | apply WA.fold | apply WL.nil | apply WX.n_then | apply WC.seq | apply WC.region | refine WL.pa ?_ | refine WL.ga rfl ?_ | refine WL.na rfl ?_ | refine WL.nu rfl rfl ?_ | apply WC.block | apply WC.skip | apply WC.exit | apply WC.ret | apply WX.e_block | refine WX.e_other rfl ?_ | apply WX.e_then | apply WX.e_again | apply WX.n_block | apply WX.r_then | apply WX.r_block | apply WX.r_again | refine WC.cond_yes rfl ?_ | refine WC.cond_no rfl ?_ | refine WC.cond rfl (fun hc => ?_) (fun hc => ?_) | refine WC.cond_b rfl (fun hc => ?_) (fun hc => ?_))
  rw [hadd2]
  obtain ⟨k, hk⟩ : ∃ k, k = 1 + k0 := ⟨_, rfl⟩
  rw [← hk]
  have hk1 : 1 ≤ k := by omega
  have hkn : k ≤ n := by omega
  refine WL.one (W1.make' rfl rfl rfl rfl rfl (Nat.le_refl _) (by omega) (by omega) rfl ?_)
  intro bo w2 e2 s2 x2 k2
  obtain ⟨P, hP⟩ : ∃ m : Nat, pickI T 512 = m := ⟨(pickI T 512).toNat, by have := pickI_lt T (n := 512) (by decide); omega⟩
  have hP5 : P < 512 := by have := pickI_lt T (n := 512) (by decide); omega
  have k1' := k1.ext x2
  repeat' (first | apply WL.fold | apply WA.fold | apply WL.nil | apply WX.n_then | apply WC.seq | apply WC.region | refine WL.pa ?_ | refine WL.ga rfl ?_ | refine WL.na rfl ?_ | refine WL.nu rfl rfl ?_ | apply WC.block | apply WC.skip | apply WC.exit | apply WC.ret | apply WX.e_block | refine WX.e_other rfl ?_ | apply WX.e_then | apply WX.e_again | apply WX.n_block | apply WX.r_then | apply WX.r_block | apply WX.r_again | refine WC.cond_yes rfl ?_ | refine WC.cond_no rfl ?_ | refine WC.cond rfl (fun hc => ?_) (fun hc => ?_) | refine WC.cond_b rfl (fun hc => ?_) (fun hc => ?_))
  refine WC.loop (α := Nat × (Nat → Bool)) (fun z => [(1, iv least), (2, .pointer (some ⟨b1, 0, none⟩)), (8, iv n), (9, iv k), (10, .slice (some ⟨bo, 0, none⟩) n n), (11, iv (cnt n z.2)), (12, iv z.1)])
    (fun z w' => z.1 ≤ n ∧ (∀ q, z.1 ≤ q → z.2 q = false) ∧ Ext w w' ∧ Blk w' b1 [.string s, .int .i64 K, .int .i64 N, .int .i64 T] 23 ∧ Blk w' bo (row n fun q => .bool (z.2 q)) 4) (fun z => n - z.1) (0, fun _ => false)
    ⟨rfl, rfl, rfl, rfl, rfl, ?_, rfl, trivial⟩ ⟨by simp, fun _ _ => rfl, x1.trans x2, k1', (congrArg (fun l => Blk w2 bo l 4) (row_rep n (.bool false))).mp k2⟩ ?_
  · rw [cnt_none fun _ _ => rfl]; rfl
  clear k2 k1'
  rintro ⟨i, f⟩ w3 ⟨hi, hf, x3, k1', k2⟩
  dsimp only at hi hf k2 ⊢
  have hcl := cnt_le n f
  by_cases hlt : i < n
  · repeat' (first | apply WL.fold | apply WA.fold | apply WL.nil | apply WX.n_then | apply WC.seq | apply WC.region | refine WL.pa ?_ | refine WL.ga rfl ?_ | refine WL.na rfl ?_ | refine WL.nu rfl rfl ?_ | apply WC.block | apply WC.skip | apply WC.exit | apply WC.ret | apply WX.e_block | refine WX.e_other rfl ?_ | apply WX.e_then | apply WX.e_again | apply WX.n_block | apply WX.r_then | apply WX.r_block | apply WX.r_again | refine WC.cond_yes rfl ?_ | refine WC.cond_no rfl ?_ | refine WC.cond rfl (fun hc => ?_) (fun hc => ?_) | refine WC.cond_b rfl (fun hc => ?_) (fun hc => ?_))
    refine WL.load rfl (k1'.cell rfl) rfl ?_
    repeat' (first | apply WL.fold | apply WA.fold | apply WL.nil | apply WX.n_then | apply WC.seq | apply WC.region | refine WL.pa ?_ | refine WL.ga rfl ?_ | refine WL.na rfl ?_ | refine WL.nu rfl rfl ?_ | apply WC.block | apply WC.skip | apply WC.exit | apply WC.ret | apply WX.e_block | refine WX.e_other rfl ?_ | apply WX.e_then | apply WX.e_again | apply WX.n_block | apply WX.r_then | apply WX.r_block | apply WX.r_again | refine WC.cond_yes rfl ?_ | refine WC.cond_no rfl ?_ | refine WC.cond rfl (fun hc => ?_) (fun hc => ?_) | refine WC.cond_b rfl (fun hc => ?_) (fun hc => ?_))
    refine WL.call (vs := [.int .i64 T, .int .i64 512]) rfl rfl (pick_fn T 512 hT.1 hT.2 (by decide) w3) ?_
    rintro _ _ ⟨rfl, rfl⟩
    rw [hP]
    repeat' (first | apply WL.fold | apply WA.fold | apply WL.nil | apply WX.n_then | apply WC.seq | apply WC.region | refine WL.pa ?_ | refine WL.ga rfl ?_ | refine WL.na rfl ?_ | refine WL.nu rfl rfl ?_ | apply WC.block | apply WC.skip | apply WC.exit | apply WC.ret | apply WX.e_block | refine WX.e_other rfl ?_ | apply WX.e_then | apply WX.e_again | apply WX.n_block | apply WX.r_then | apply WX.r_block | apply WX.r_again | refine WC.cond_yes rfl ?_ | refine WC.cond_no rfl ?_ | refine WC.cond rfl (fun hc => ?_) (fun hc => ?_) | refine WC.cond_b rfl (fun hc => ?_) (fun hc => ?_))
    generalize P >>> i = y
    repeat' (first | apply WL.fold | apply WA.fold | apply WL.nil | apply WX.n_then | apply WC.seq | apply WC.region | refine WL.pa ?_ | refine WL.ga rfl ?_ | refine WL.na rfl ?_ | refine WL.nu rfl rfl ?_ | apply WC.block | apply WC.skip | apply WC.exit | apply WC.ret | apply WX.e_block | refine WX.e_other rfl ?_ | apply WX.e_then | apply WX.e_again | apply WX.n_block | apply WX.r_then | apply WX.r_block | apply WX.r_again | refine WC.cond_yes rfl ?_ | refine WC.cond_no rfl ?_ | refine WC.cond rfl (fun hc => ?_) (fun hc => ?_) | refine WC.cond_b rfl (fun hc => ?_) (fun hc => ?_))
    obtain ⟨bv, hbv⟩ : ∃ bv, decide (((y : Nat) : Int) % 2 = 1) = bv := ⟨_, rfl⟩
    rw [hbv]
    refine WL.one (W1.store' rfl rfl (by intro _ h; cases h) (by intro _ h; cases h) k2 (by rw [row_len]; omega) fun w4 u4 g2 => ?_)
    rw [row_upd] at g2
    have hb1 : b1 < w1.heap.size := k1.lt
    have hbo : b1 ≠ bo := by omega
    have g1 := k1'.keep1 u4 hbo
    have hx4 : Ext w w4 := u4.ext x3 (by have := x1.size; omega)
    repeat' (first | apply WL.fold | apply WA.fold | apply WL.nil | apply WX.n_then | apply WC.seq | apply WC.region | refine WL.pa ?_ | refine WL.ga rfl ?_ | refine WL.na rfl ?_ | refine WL.nu rfl rfl ?_ | apply WC.block | apply WC.skip | apply WC.exit | apply WC.ret | apply WX.e_block | refine WX.e_other rfl ?_ | apply WX.e_then | apply WX.e_again | apply WX.n_block | apply WX.r_then | apply WX.r_block | apply WX.r_again | refine WC.cond_yes rfl ?_ | refine WC.cond_no rfl ?_ | refine WC.cond rfl (fun hc => ?_) (fun hc => ?_) | refine WC.cond_b rfl (fun hc => ?_) (fun hc => ?_))
    refine WL.load rfl (g2.cell (row_get _ hlt)) rfl ?_
    have hself : upd f i bv i = bv := by simp [upd]
    rw [hself]
    cases bv with
    | true =>
      have hc1 := cnt_upd (hf i (Nat.le_refl _)) n hlt
      have hc2 := cnt_le n (upd f i true)
      repeat' (first | apply WL.fold | apply WA.fold | apply WL.nil | apply WX.n_then | apply WC.seq | apply WC.region | refine WL.pa ?_ | refine WL.ga rfl ?_ | refine WL.na rfl ?_ | refine WL.nu rfl rfl ?_ | apply WC.block | apply WC.skip | apply WC.exit | apply WC.ret | apply WX.e_block | refine WX.e_other rfl ?_ | apply WX.e_then | apply WX.e_again | apply WX.n_block | apply WX.r_then | apply WX.r_block | apply WX.r_again | refine WC.cond_yes rfl ?_ | refine WC.cond_no rfl ?_ | refine WC.cond rfl (fun hc => ?_) (fun hc => ?_) | refine WC.cond_b rfl (fun hc => ?_) (fun hc => ?_))
      refine WX.again (i + 1, upd f i true) ⟨by show i + 1 ≤ n; omega, fun q hq => ?_, hx4, g1, g2⟩ (by show n - (i + 1) < n - i; omega) ⟨rfl, rfl, rfl, rfl, rfl, ?_, rfl, trivial⟩
      · have hq' : i + 1 ≤ q := hq
        have : ¬ q = i := by omega
        simp only [upd, this, if_false]
        exact hf q (by omega)
      · show _ = some (iv (cnt n (upd f i true)))
        rw [hc1]; rfl
    | false =>
      have hc1 : cnt n (upd f i false) = cnt n f := cnt_congr fun q _ => by
        unfold upd
        split
        · rename_i e; subst e; exact (hf q (Nat.le_refl _)).symm
        · rfl
      repeat' (first | apply WL.fold | apply WA.fold | apply WL.nil | apply WX.n_then | apply WC.seq | apply WC.region | refine WL.pa ?_ | refine WL.ga rfl ?_ | refine WL.na rfl ?_ | refine WL.nu rfl rfl ?_ | apply WC.block | apply WC.skip | apply WC.exit | apply WC.ret | apply WX.e_block | refine WX.e_other rfl ?_ | apply WX.e_then | apply WX.e_again | apply WX.n_block | apply WX.r_then | apply WX.r_block | apply WX.r_again | refine WC.cond_yes rfl ?_ | refine WC.cond_no rfl ?_ | refine WC.cond rfl (fun hc => ?_) (fun hc => ?_) | refine WC.cond_b rfl (fun hc => ?_) (fun hc => ?_))
      refine WX.again (i + 1, upd f i false) ⟨by show i + 1 ≤ n; omega, fun q hq => ?_, hx4, g1, g2⟩ (by show n - (i + 1) < n - i; omega) ⟨rfl, rfl, rfl, rfl, rfl, ?_, rfl, trivial⟩
      · have hq' : i + 1 ≤ q := hq
        have : ¬ q = i := by omega
        simp only [upd, this, if_false]
        exact hf q (by omega)
      · show _ = some (iv (cnt n (upd f i false)))
        rw [hc1]; rfl
  · obtain rfl : i = n := by omega
    have hb1 : b1 < w1.heap.size := k1.lt
    have hbo : b1 ≠ bo := by omega
    repeat' (first | apply WL.fold | apply WA.fold | apply WL.nil | apply WX.n_then | apply WC.seq | apply WC.region | refine WL.pa ?_ | refine WL.ga rfl ?_ | refine WL.na rfl ?_ | refine WL.nu rfl rfl ?_ | apply WC.block | apply WC.skip | apply WC.exit | apply WC.ret | apply WX.e_block | refine WX.e_other rfl ?_ | apply WX.e_then | apply WX.e_again | apply WX.n_block | apply WX.r_then | apply WX.r_block | apply WX.r_again | refine WC.cond_yes rfl ?_ | refine WC.cond_no rfl ?_ | refine WC.cond rfl (fun hc => ?_) (fun hc => ?_) | refine WC.cond_b rfl (fun hc => ?_) (fun hc => ?_))
    refine WC.loop (α := Nat × (Nat → Bool)) (fun z => [(1, iv least), (2, .pointer (some ⟨b1, 0, none⟩)), (8, iv i), (9, iv k), (10, .slice (some ⟨bo, 0, none⟩) i i), (11, iv (cnt i z.2)), (13, iv z.1)])
      (fun z w' => z.1 ≤ i ∧ (∀ q, q < z.1 → z.2 q = true) ∧ Ext w w' ∧ Blk w' b1 [.string s, .int .i64 K, .int .i64 N, .int .i64 T] 23 ∧ Blk w' bo (row i fun q => .bool (z.2 q)) 4) (fun z => i - z.1) (0, f)
      ⟨rfl, rfl, rfl, rfl, rfl, rfl, rfl, trivial⟩ ⟨by simp, (fun q hq => absurd hq (Nat.not_lt_zero q)), x3, k1', k2⟩ ?_
    clear k2 k1' x3 hf hcl
    rintro ⟨j, f⟩ w4 ⟨hj, hf, x4, k1', k2⟩
    dsimp only at hj hf k2 ⊢
    have hcl := cnt_le i f
    have fin : ¬ (j < i ∧ cnt i f < min i (k + least)) → min i (k + least) ≤ cnt i f := fun hno => by
      by_cases hji : j < i
      · omega
      · have := cnt_all (n := i) (f := f) fun q hq => hf q (by omega)
        omega
    have done : min i (k + least) ≤ cnt i f → Rd w4 (.slice (some ⟨bo, 0, none⟩) i i) (bools ((List.range i).map f)) ∧ min i (k + least) ≤ cnt i (tf ((List.range i).map f)) := fun h => by
      constructor
      · have := Rd.of_row k2 (Nat.le_refl _) (Nat.le_refl _)
        refine (congrArg (Rd w4 _) ?_).mp this
        simp [bools]
      · rw [cnt_congr (g := f) fun q hq => by simp [tf, hq]]
        exact h
    by_cases hlt2 : j < i
    · by_cases hlt3 : cnt i f < min i (k + least)
      · cases hb : f j with
        | false =>
          have hcell : w4.cell? ⟨bo, j, none⟩ = some (.bool false) := k2.cell (by rw [row_get _ hlt2, hb])
          have hc1 := cnt_upd hb i hlt2
          repeat' (first | apply WL.fold | apply WA.fold | apply WL.nil | apply WX.n_then | apply WC.seq | apply WC.region | refine WL.pa ?_ | refine WL.ga rfl ?_ | refine WL.na rfl ?_ | refine WL.nu rfl rfl ?_ | apply WC.block | apply WC.skip | apply WC.exit | apply WC.ret | apply WX.e_block | refine WX.e_other rfl ?_ | apply WX.e_then | apply WX.e_again | apply WX.n_block | apply WX.r_then | apply WX.r_block | apply WX.r_again | refine WC.cond_yes rfl ?_ | refine WC.cond_no rfl ?_ | refine WC.cond rfl (fun hc => ?_) (fun hc => ?_) | refine WC.cond_b rfl (fun hc => ?_) (fun hc => ?_))
          refine WL.load rfl hcell rfl ?_
          repeat' (first | apply WL.fold | apply WA.fold | apply WL.nil | apply WX.n_then | apply WC.seq | apply WC.region | refine WL.pa ?_ | refine WL.ga rfl ?_ | refine WL.na rfl ?_ | refine WL.nu rfl rfl ?_ | apply WC.block | apply WC.skip | apply WC.exit | apply WC.ret | apply WX.e_block | refine WX.e_other rfl ?_ | apply WX.e_then | apply WX.e_again | apply WX.n_block | apply WX.r_then | apply WX.r_block | apply WX.r_again | refine WC.cond_yes rfl ?_ | refine WC.cond_no rfl ?_ | refine WC.cond rfl (fun hc => ?_) (fun hc => ?_) | refine WC.cond_b rfl (fun hc => ?_) (fun hc => ?_))
          refine WL.one (W1.store' rfl rfl (by intro _ h; cases h) (by intro _ h; cases h) k2 (by rw [row_len]; omega) fun w5 u5 g2 => ?_)
          rw [row_upd] at g2
          repeat' (first | apply WL.fold | apply WA.fold | apply WL.nil | apply WX.n_then | apply WC.seq | apply WC.region | refine WL.pa ?_ | refine WL.ga rfl ?_ | refine WL.na rfl ?_ | refine WL.nu rfl rfl ?_ | apply WC.block | apply WC.skip | apply WC.exit | apply WC.ret | apply WX.e_block | refine WX.e_other rfl ?_ | apply WX.e_then | apply WX.e_again | apply WX.n_block | apply WX.r_then | apply WX.r_block | apply WX.r_again | refine WC.cond_yes rfl ?_ | refine WC.cond_no rfl ?_ | refine WC.cond rfl (fun hc => ?_) (fun hc => ?_) | refine WC.cond_b rfl (fun hc => ?_) (fun hc => ?_))
          refine WX.again (j + 1, upd f j true) ⟨by show j + 1 ≤ i; omega, fun q hq => ?_, u5.ext x4 (by have := x1.size; omega), k1'.keep1 u5 hbo, g2⟩ (by show i - (j + 1) < i - j; omega) ⟨rfl, rfl, rfl, rfl, rfl, ?_, rfl, trivial⟩
          · have hq' : q < j + 1 := hq
            show (if q = j then true else f q) = true
            split
            · rfl
            · exact hf q (by omega)
          · show _ = some (iv (cnt i (upd f j true)))
            rw [hc1]; rfl
        | true =>
          have hcell : w4.cell? ⟨bo, j, none⟩ = some (.bool true) := k2.cell (by rw [row_get _ hlt2, hb])
          repeat' (first | apply WL.fold | apply WA.fold | apply WL.nil | apply WX.n_then | apply WC.seq | apply WC.region | refine WL.pa ?_ | refine WL.ga rfl ?_ | refine WL.na rfl ?_ | refine WL.nu rfl rfl ?_ | apply WC.block | apply WC.skip | apply WC.exit | apply WC.ret | apply WX.e_block | refine WX.e_other rfl ?_ | apply WX.e_then | apply WX.e_again | apply WX.n_block | apply WX.r_then | apply WX.r_block | apply WX.r_again | refine WC.cond_yes rfl ?_ | refine WC.cond_no rfl ?_ | refine WC.cond rfl (fun hc => ?_) (fun hc => ?_) | refine WC.cond_b rfl (fun hc => ?_) (fun hc => ?_))
          refine WL.load rfl hcell rfl ?_
          repeat' (first | apply WL.fold | apply WA.fold | apply WL.nil | apply WX.n_then | apply WC.seq | apply WC.region | refine WL.pa ?_ | refine WL.ga rfl ?_ | refine WL.na rfl ?_ | refine WL.nu rfl rfl ?_ | apply WC.block | apply WC.skip | apply WC.exit | apply WC.ret | apply WX.e_block | refine WX.e_other rfl ?_ | apply WX.e_then | apply WX.e_again | apply WX.n_block | apply WX.r_then | apply WX.r_block | apply WX.r_again | refine WC.cond_yes rfl ?_ | refine WC.cond_no rfl ?_ | refine WC.cond rfl (fun hc => ?_) (fun hc => ?_) | refine WC.cond_b rfl (fun hc => ?_) (fun hc => ?_))
          refine WX.again (j + 1, f) ⟨by show j + 1 ≤ i; omega, fun q hq => ?_, x4, k1', k2⟩ (by show i - (j + 1) < i - j; omega) ⟨rfl, rfl, rfl, rfl, rfl, rfl, rfl, trivial⟩
          have hq' : q < j + 1 := hq
          by_cases e : q = j
          · subst e; exact hb
          · exact hf q (by omega)
      · have hd := done (fin fun h => hlt3 h.2)
        repeat' (first | apply WL.fold | apply WA.fold | apply WL.nil | apply WX.n_then | apply WC.seq | apply WC.region | refine WL.pa ?_ | refine WL.ga rfl ?_ | refine WL.na rfl ?_ | refine WL.nu rfl rfl ?_ | apply WC.block | apply WC.skip | apply WC.exit | apply WC.ret | apply WX.e_block | refine WX.e_other rfl ?_ | apply WX.e_then | apply WX.e_again | apply WX.n_block | apply WX.r_then | apply WX.r_block | apply WX.r_again | refine WC.cond_yes rfl ?_ | refine WC.cond_no rfl ?_ | refine WC.cond rfl (fun hc => ?_) (fun hc => ?_) | refine WC.cond_b rfl (fun hc => ?_) (fun hc => ?_))
        refine WL.load rfl (k1'.cell rfl) rfl ?_
        repeat' (first | apply WL.fold | apply WA.fold | apply WL.nil | apply WX.n_then | apply WC.seq | apply WC.region | refine WL.pa ?_ | refine WL.ga rfl ?_ | refine WL.na rfl ?_ | refine WL.nu rfl rfl ?_ | apply WC.block | apply WC.skip | apply WC.exit | apply WC.ret | apply WX.e_block | refine WX.e_other rfl ?_ | apply WX.e_then | apply WX.e_again | apply WX.n_block | apply WX.r_then | apply WX.r_block | apply WX.r_again | refine WC.cond_yes rfl ?_ | refine WC.cond_no rfl ?_ | refine WC.cond rfl (fun hc => ?_) (fun hc => ?_) | refine WC.cond_b rfl (fun hc => ?_) (fun hc => ?_))
        refine WL.load rfl (k1'.cell rfl) rfl ?_
        repeat' (first | apply WL.fold | apply WA.fold | apply WL.nil | apply WX.n_then | apply WC.seq | apply WC.region | refine WL.pa ?_ | refine WL.ga rfl ?_ | refine WL.na rfl ?_ | refine WL.nu rfl rfl ?_ | apply WC.block | apply WC.skip | apply WC.exit | apply WC.ret | apply WX.e_block | refine WX.e_other rfl ?_ | apply WX.e_then | apply WX.e_again | apply WX.n_block | apply WX.r_then | apply WX.r_block | apply WX.r_again | refine WC.cond_yes rfl ?_ | refine WC.cond_no rfl ?_ | refine WC.cond rfl (fun hc => ?_) (fun hc => ?_) | refine WC.cond_b rfl (fun hc => ?_) (fun hc => ?_))
        have hmin : (min (s.size : Int) 200).toNat = min s.size 200 := by omega
        refine WX.ret4 rfl rfl rfl rfl rfl ⟨_, k, i, (List.range i).map f, by rw [hmin], x4, hk1, hkn, hn9, by simp, hd.1, hd.2, rfl, ?_⟩
        rw [hkk, hk0, Int.toNat_natCast]; exact hk
    · have hd := done (fin fun h => hlt2 h.1)
      repeat' (first | apply WL.fold | apply WA.fold | apply WL.nil | apply WX.n_then | apply WC.seq | apply WC.region | refine WL.pa ?_ | refine WL.ga rfl ?_ | refine WL.na rfl ?_ | refine WL.nu rfl rfl ?_ | apply WC.block | apply WC.skip | apply WC.exit | apply WC.ret | apply WX.e_block | refine WX.e_other rfl ?_ | apply WX.e_then | apply WX.e_again | apply WX.n_block | apply WX.r_then | apply WX.r_block | apply WX.r_again | refine WC.cond_yes rfl ?_ | refine WC.cond_no rfl ?_ | refine WC.cond rfl (fun hc => ?_) (fun hc => ?_) | refine WC.cond_b rfl (fun hc => ?_) (fun hc => ?_))
      refine WL.load rfl (k1'.cell rfl) rfl ?_
      repeat' (first | apply WL.fold | apply WA.fold | apply WL.nil | apply WX.n_then | apply WC.seq | apply WC.region | refine WL.pa ?_ | refine WL.ga rfl ?_ | refine WL.na rfl ?_ | refine WL.nu rfl rfl ?_ | apply WC.block | apply WC.skip | apply WC.exit | apply WC.ret | apply WX.e_block | refine WX.e_other rfl ?_ | apply WX.e_then | apply WX.e_again | apply WX.n_block | apply WX.r_then | apply WX.r_block | apply WX.r_again | refine WC.cond_yes rfl ?_ | refine WC.cond_no rfl ?_ | refine WC.cond rfl (fun hc => ?_) (fun hc => ?_) | refine WC.cond_b rfl (fun hc => ?_) (fun hc => ?_))
      refine WL.load rfl (k1'.cell rfl) rfl ?_
      repeat' (first | apply WL.fold | apply WA.fold | apply WL.nil | apply WX.n_then | apply WC.seq | apply WC.region | refine WL.pa ?_ | refine WL.ga rfl ?_ | refine WL.na rfl ?_ | refine WL.nu rfl rfl ?_ | apply WC.block | apply WC.skip | apply WC.exit | apply WC.ret | apply WX.e_block | refine WX.e_other rfl ?_ | apply WX.e_then | apply WX.e_again | apply WX.n_block | apply WX.r_then | apply WX.r_block | apply WX.r_again | refine WC.cond_yes rfl ?_ | refine WC.cond_no rfl ?_ | refine WC.cond rfl (fun hc => ?_) (fun hc => ?_) | refine WC.cond_b rfl (fun hc => ?_) (fun hc => ?_))
      have hmin : (min (s.size : Int) 200).toNat = min s.size 200 := by omega
      refine WX.ret4 rfl rfl rfl rfl rfl ⟨_, k, i, (List.range i).map f, by rw [hmin], x4, hk1, hkn, hn9, by simp, hd.1, hd.2, rfl, ?_⟩
      rw [hkk, hk0, Int.toNat_natCast]; exact hk
end Go.Sx

