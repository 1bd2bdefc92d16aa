/- Chapter 17: the law CodeLinear. -/
import Derived.Test.YtacamanakmeebaaDoorM3
namespace Go.Sx
open Go Go.Proofs
theorem codes_get (s : ByteArray) (k : Nat) {n i : Nat} (h : i < n) : (strs (codeL s k n))[i]? = some (.string (codeA s k i)) := by
  rw [strs_get (by rw [codeL_len]; exact h), codeL_fr s k h]
attribute [local irreducible] WC WL WX POp Then Again Fn NX W1 WA WO QL RP RA Yld LoopAt HC HL HX HN H1 HA HO HQ A.blk A.grow A.rd A.obj AgainH CutH
set_option maxHeartbeats 4000000 in
theorem codeLinear_fn (s t : ByteArray) (K N T : Int) (hts : t.size ≤ 9223372036854775807) (hK : -9223372036854775808 ≤ K ∧ K ≤ 9223372036854775807) (hN : -9223372036854775808 ≤ N ∧ N ≤ 9223372036854775807) (hT : -9223372036854775808 ≤ T ∧ T ≤ 9223372036854775807) (w : World) (hr : Red w) :
    Fn Tryd.prog 9 #[.agg #[.string s, .int .i64 K, .int .i64 N, .int .i64 T], .string t] w fun v w' => v = .bool true ∧ Ext w w' := by
  refine enterH (l := [_, _]) rfl Tryd.ntmps9 rfl ?_
  repeat' (first
    | apply HL.fold
    | apply HA.fold
    | apply HL.nil
    | apply HX.n_then
    | apply HC.seq
    | apply HC.region
    | refine HL.pa ?_
    | refine HL.ga rfl ?_
    | refine HL.na rfl ?_
    | refine HL.nu rfl rfl ?_
    | apply HC.block
    | apply HC.skip
    | apply HC.exit
    | apply HC.ret
    | apply HX.e_block
    | refine HX.e_other rfl ?_
    | apply HX.e_then
    | apply HX.e_again
    | apply HX.n_block
    | apply HX.r_then
    | apply HX.r_block
    | apply HX.r_again
    | refine HC.cond_yes rfl ?_
    | refine HC.cond_no rfl ?_
    | refine HL.one (H1.ldb rfl (by first | ((repeat (first | with_reducible exact mem_hd | with_reducible apply mem_tl)); done) | (repeat (first | exact List.Mem.head _ | apply List.Mem.tail))) rfl rfl ?_)
    | refine HC.cond rfl (fun hc => ?_) (fun hc => ?_)
    | refine HC.cond_b rfl (fun hc => ?_) (fun hc => ?_))
  refine HL.one (H1.boxAgg (cs := [.string s, .int .i64 K, .int .i64 N, .int .i64 T]) rfl rfl (fun b1 => ?_))
  repeat' (first
    | apply HL.fold
    | apply HA.fold
    | apply HL.nil
    | apply HX.n_then
    | apply HC.seq
    | apply HC.region
    | refine HL.pa ?_
    | refine HL.ga rfl ?_
    | refine HL.na rfl ?_
    | refine HL.nu rfl rfl ?_
    | apply HC.block
    | apply HC.skip
    | apply HC.exit
    | apply HC.ret
    | apply HX.e_block
    | refine HX.e_other rfl ?_
    | apply HX.e_then
    | apply HX.e_again
    | apply HX.n_block
    | apply HX.r_then
    | apply HX.r_block
    | apply HX.r_again
    | refine HC.cond_yes rfl ?_
    | refine HC.cond_no rfl ?_
    | refine HL.one (H1.ldb rfl (by first | ((repeat (first | with_reducible exact mem_hd | with_reducible apply mem_tl)); done) | (repeat (first | exact List.Mem.head _ | apply List.Mem.tail))) rfl rfl ?_)
    | refine HC.cond rfl (fun hc => ?_) (fun hc => ?_)
    | refine HC.cond_b rfl (fun hc => ?_) (fun hc => ?_))
  refine HL.one (H1.callx rfl rfl (fun w hM => sane_x w (hr.ext hM.ext)) ?_)
  repeat' (first
    | apply HL.fold
    | apply HA.fold
    | apply HL.nil
    | apply HX.n_then
    | apply HC.seq
    | apply HC.region
    | refine HL.pa ?_
    | refine HL.ga rfl ?_
    | refine HL.na rfl ?_
    | refine HL.nu rfl rfl ?_
    | apply HC.block
    | apply HC.skip
    | apply HC.exit
    | apply HC.ret
    | apply HX.e_block
    | refine HX.e_other rfl ?_
    | apply HX.e_then
    | apply HX.e_again
    | apply HX.n_block
    | apply HX.r_then
    | apply HX.r_block
    | apply HX.r_again
    | refine HC.cond_yes rfl ?_
    | refine HC.cond_no rfl ?_
    | refine HL.one (H1.ldb rfl (by first | ((repeat (first | with_reducible exact mem_hd | with_reducible apply mem_tl)); done) | (repeat (first | exact List.Mem.head _ | apply List.Mem.tail))) rfl rfl ?_)
    | refine HC.cond rfl (fun hc => ?_) (fun hc => ?_)
    | refine HC.cond_b rfl (fun hc => ?_) (fun hc => ?_))
  refine HL.one (H1.ldAgg (vs := [.string s, .int .i64 K, .int .i64 N, .int .i64 T]) rfl (by first | ((repeat (first | with_reducible exact mem_hd | with_reducible apply mem_tl)); done) | (repeat (first | exact List.Mem.head _ | apply List.Mem.tail))) rfl (fun i v hv => by rw [Nat.zero_add]; exact hv) rfl ?_)
  repeat' (first
    | apply HL.fold
    | apply HA.fold
    | apply HL.nil
    | apply HX.n_then
    | apply HC.seq
    | apply HC.region
    | refine HL.pa ?_
    | refine HL.ga rfl ?_
    | refine HL.na rfl ?_
    | refine HL.nu rfl rfl ?_
    | apply HC.block
    | apply HC.skip
    | apply HC.exit
    | apply HC.ret
    | apply HX.e_block
    | refine HX.e_other rfl ?_
    | apply HX.e_then
    | apply HX.e_again
    | apply HX.n_block
    | apply HX.r_then
    | apply HX.r_block
    | apply HX.r_again
    | refine HC.cond_yes rfl ?_
    | refine HC.cond_no rfl ?_
    | refine HL.one (H1.ldb rfl (by first | ((repeat (first | with_reducible exact mem_hd | with_reducible apply mem_tl)); done) | (repeat (first | exact List.Mem.head _ | apply List.Mem.tail))) rfl rfl ?_)
    | refine HC.cond rfl (fun hc => ?_) (fun hc => ?_)
    | refine HC.cond_b rfl (fun hc => ?_) (fun hc => ?_))
  refine HL.one (H1.callr (vs := [.agg #[.string s, .int .i64 K, .int .i64 N, .int .i64 T], iv 0]) rfl rfl (fun w _ => made_z s K N T hK hN hT 0 (by decide) w) ?_)
  rintro wa va w3 hMa ⟨S, k, n, th, bt, offt, ct, rfl, x3, hS, hS2, hk1, hkn, hn9, hth, hRt, hct, hcnt, -, -⟩
  have x03 : Ext w w3 := hMa.ext.trans x3
  have hr3 := hr.ext x03
  obtain ⟨m, hm⟩ : ∃ m, m = min S.size t.size := ⟨_, rfl⟩
  have hmin : min (S.size : Int) (t.size : Int) = (m : Int) := by omega
  repeat' (first
    | apply HL.fold
    | apply HA.fold
    | apply HL.nil
    | apply HX.n_then
    | apply HC.seq
    | apply HC.region
    | refine HL.pa ?_
    | refine HL.ga rfl ?_
    | refine HL.na rfl ?_
    | refine HL.nu rfl rfl ?_
    | apply HC.skip
    | apply HC.exit
    | apply HC.ret
    | apply HX.e_block
    | refine HX.e_other rfl ?_
    | apply HX.e_then
    | apply HX.e_again
    | apply HX.n_block
    | apply HX.r_then
    | apply HX.r_block
    | apply HX.r_again
    | refine HC.cond_yes rfl ?_
    | refine HC.cond_no rfl ?_
    | refine HL.one (H1.ldb rfl (by first | ((repeat (first | with_reducible exact mem_hd | with_reducible apply mem_tl)); done) | (repeat (first | exact List.Mem.head _ | apply List.Mem.tail))) rfl rfl ?_)
    | refine HC.cond rfl (fun hc => ?_) (fun hc => ?_)
    | refine HC.cond_b rfl (fun hc => ?_) (fun hc => ?_))
  rw [hmin]
  repeat' (first
    | apply HL.fold
    | apply HA.fold
    | apply HL.nil
    | apply HX.n_then
    | apply HC.seq
    | apply HC.region
    | refine HL.pa ?_
    | refine HL.ga rfl ?_
    | refine HL.na rfl ?_
    | refine HL.nu rfl rfl ?_
    | apply HC.skip
    | apply HC.exit
    | apply HC.ret
    | apply HX.e_block
    | refine HX.e_other rfl ?_
    | apply HX.e_then
    | apply HX.e_again
    | apply HX.n_block
    | apply HX.r_then
    | apply HX.r_block
    | apply HX.r_again
    | refine HC.cond_yes rfl ?_
    | refine HC.cond_no rfl ?_
    | refine HL.one (H1.ldb rfl (by first | ((repeat (first | with_reducible exact mem_hd | with_reducible apply mem_tl)); done) | (repeat (first | exact List.Mem.head _ | apply List.Mem.tail))) rfl rfl ?_)
    | refine HC.cond rfl (fun hc => ?_) (fun hc => ?_)
    | refine HC.cond_b rfl (fun hc => ?_) (fun hc => ?_))
  simp only [Int.toNat_natCast]
  obtain ⟨U, hU⟩ : ∃ U, U = S.extract 0 m := ⟨_, rfl⟩
  obtain ⟨V, hV⟩ : ∃ V, V = t.extract 0 m := ⟨_, rfl⟩
  have hUs : U.size = m := by rw [hU, ByteArray.size_extract]; omega
  have hVs : V.size = m := by rw [hV, ByteArray.size_extract]; omega
  rw [← hU, ← hV]
  have hXs : (xorS U V).size = m := by rw [xorS_size]; omega
  refine HL.one (H1.callz1 rfl rfl (fun w hM => split_z U k n hk1 hkn hn9 (by omega) w (hr3.ext hM.ext)) ?_)
  rintro ba -
  repeat' (first
    | apply HL.fold
    | apply HA.fold
    | apply HL.nil
    | apply HX.n_then
    | apply HC.seq
    | apply HC.region
    | refine HL.pa ?_
    | refine HL.ga rfl ?_
    | refine HL.na rfl ?_
    | refine HL.nu rfl rfl ?_
    | apply HC.block
    | apply HC.skip
    | apply HC.exit
    | apply HC.ret
    | apply HX.e_block
    | refine HX.e_other rfl ?_
    | apply HX.e_then
    | apply HX.e_again
    | apply HX.n_block
    | apply HX.r_then
    | apply HX.r_block
    | apply HX.r_again
    | refine HC.cond_yes rfl ?_
    | refine HC.cond_no rfl ?_
    | refine HL.one (H1.ldb rfl (by first | ((repeat (first | with_reducible exact mem_hd | with_reducible apply mem_tl)); done) | (repeat (first | exact List.Mem.head _ | apply List.Mem.tail))) rfl rfl ?_)
    | refine HC.cond rfl (fun hc => ?_) (fun hc => ?_)
    | refine HC.cond_b rfl (fun hc => ?_) (fun hc => ?_))
  refine HL.one (H1.callz1 rfl rfl (fun w hM => split_z V k n hk1 hkn hn9 (by omega) w (hr3.ext hM.ext)) ?_)
  rintro bb -
  repeat' (first
    | apply HL.fold
    | apply HA.fold
    | apply HL.nil
    | apply HX.n_then
    | apply HC.seq
    | apply HC.region
    | refine HL.pa ?_
    | refine HL.ga rfl ?_
    | refine HL.na rfl ?_
    | refine HL.nu rfl rfl ?_
    | apply HC.block
    | apply HC.skip
    | apply HC.exit
    | apply HC.ret
    | apply HX.e_block
    | refine HX.e_other rfl ?_
    | apply HX.e_then
    | apply HX.e_again
    | apply HX.n_block
    | apply HX.r_then
    | apply HX.r_block
    | apply HX.r_again
    | refine HC.cond_yes rfl ?_
    | refine HC.cond_no rfl ?_
    | refine HL.one (H1.ldb rfl (by first | ((repeat (first | with_reducible exact mem_hd | with_reducible apply mem_tl)); done) | (repeat (first | exact List.Mem.head _ | apply List.Mem.tail))) rfl rfl ?_)
    | refine HC.cond rfl (fun hc => ?_) (fun hc => ?_)
    | refine HC.cond_b rfl (fun hc => ?_) (fun hc => ?_))
  refine HL.one (H1.callx rfl rfl (fun w _ => xor_fn U V (by omega) w) ?_)
  repeat' (first
    | apply HL.fold
    | apply HA.fold
    | apply HL.nil
    | apply HX.n_then
    | apply HC.seq
    | apply HC.region
    | refine HL.pa ?_
    | refine HL.ga rfl ?_
    | refine HL.na rfl ?_
    | refine HL.nu rfl rfl ?_
    | apply HC.block
    | apply HC.skip
    | apply HC.exit
    | apply HC.ret
    | apply HX.e_block
    | refine HX.e_other rfl ?_
    | apply HX.e_then
    | apply HX.e_again
    | apply HX.n_block
    | apply HX.r_then
    | apply HX.r_block
    | apply HX.r_again
    | refine HC.cond_yes rfl ?_
    | refine HC.cond_no rfl ?_
    | refine HL.one (H1.ldb rfl (by first | ((repeat (first | with_reducible exact mem_hd | with_reducible apply mem_tl)); done) | (repeat (first | exact List.Mem.head _ | apply List.Mem.tail))) rfl rfl ?_)
    | refine HC.cond rfl (fun hc => ?_) (fun hc => ?_)
    | refine HC.cond_b rfl (fun hc => ?_) (fun hc => ?_))
  refine HL.one (H1.callz1 rfl rfl (fun w hM => split_z (xorS U V) k n hk1 hkn hn9 (by omega) w (hr3.ext hM.ext)) ?_)
  rintro bc -
  repeat' (first
    | apply HL.fold
    | apply HA.fold
    | apply HL.nil
    | apply HX.n_then
    | apply HC.seq
    | apply HC.region
    | refine HL.pa ?_
    | refine HL.ga rfl ?_
    | refine HL.na rfl ?_
    | refine HL.nu rfl rfl ?_
    | apply HC.block
    | apply HC.skip
    | apply HC.exit
    | apply HC.ret
    | apply HX.e_block
    | refine HX.e_other rfl ?_
    | apply HX.e_then
    | apply HX.e_again
    | apply HX.n_block
    | apply HX.r_then
    | apply HX.r_block
    | apply HX.r_again
    | refine HC.cond_yes rfl ?_
    | refine HC.cond_no rfl ?_
    | refine HL.one (H1.ldb rfl (by first | ((repeat (first | with_reducible exact mem_hd | with_reducible apply mem_tl)); done) | (repeat (first | exact List.Mem.head _ | apply List.Mem.tail))) rfl rfl ?_)
    | refine HC.cond rfl (fun hc => ?_) (fun hc => ?_)
    | refine HC.cond_b rfl (fun hc => ?_) (fun hc => ?_))
  refine HC.loop (α := Nat) (fun i => [(5, .bool true), (8, iv n), (11, .slice (some ⟨ba, 0, none⟩) n n), (13, .slice (some ⟨bb, 0, none⟩) n n), (15, .slice (some ⟨bc, 0, none⟩) n n), (17, iv i)])
    (fun _ => [A.rd (.slice (some ⟨ba, 0, none⟩) n n) (strs (codeL U k n)), A.rd (.slice (some ⟨bb, 0, none⟩) n n) (strs (codeL V k n)), A.rd (.slice (some ⟨bc, 0, none⟩) n n) (strs (codeL (xorS U V) k n))]) (fun i => i ≤ n) (fun i => n - i) 0 (by omega)
    (by repeat (first | exact trivial | refine ⟨rfl, ?_⟩)) (by repeat (first | exact Hs.nil _ | (refine Hs.cons (by first | ((repeat (first | with_reducible exact Pick.here | with_reducible apply Pick.there)); done) | (repeat (first | exact Pick.here | apply Pick.there))) ?_))) ?_
  intro i hi
  have e1 : (codeA U k i).size = (codeA V k i).size := by rw [codeA_size, codeA_size, hUs, hVs]
  have e2 : (codeA U k i).size = (codeA (xorS U V) k i).size := by rw [codeA_size, codeA_size, hUs, hXs]
  have e3 : (codeA U k i).size ≤ 100000 := by
    rw [codeA_size, hUs]
    have := mOf_le (l := m) (show 0 < k by omega) (by omega)
    omega
  have e4 := code_xor (s := U) (t := V) (by omega) (show k ≤ 256 by omega) (j := i)
  by_cases hlt : i < n
  · have e4 := e4 (by omega)
    have e5 : decide (¬ xorS (codeA U k i) (codeA V k i) = codeA (xorS U V) k i) = false := by simp [e4]
    repeat' (first
      | apply HL.fold
      | apply HA.fold
      | apply HL.nil
      | apply HX.n_then
      | apply HC.seq
      | apply HC.region
      | refine HL.pa ?_
      | refine HL.ga rfl ?_
      | refine HL.na rfl ?_
      | refine HL.nu rfl rfl ?_
      | apply HC.block
      | apply HC.skip
      | apply HC.exit
      | apply HC.ret
      | apply HX.e_block
      | refine HX.e_other rfl ?_
      | apply HX.e_then
      | apply HX.e_again
      | apply HX.n_block
      | apply HX.r_then
      | apply HX.r_block
      | apply HX.r_again
      | refine HC.cond_yes rfl ?_
      | refine HC.cond_no rfl ?_
      | refine HL.one (H1.ldb rfl (by first | ((repeat (first | with_reducible exact mem_hd | with_reducible apply mem_tl)); done) | (repeat (first | exact List.Mem.head _ | apply List.Mem.tail))) rfl rfl ?_)
      | refine HC.cond rfl (fun hc => ?_) (fun hc => ?_)
      | refine HC.cond_b rfl (fun hc => ?_) (fun hc => ?_))
    refine HC.quietS [(some 93, [11], []), (some 94, [17], []), (some 95, [93, 94], [0, 1]), (some 96, [95], [2]), (some 97, [96], [3]), (some 98, [13], []), (some 99, [17], []), (some 100, [98, 99], [5, 6]), (some 101, [100], [7]), (some 102, [101], [8]), (some 103, [97, 102], [4, 9]), (some 104, [103], [10]), (some 105, [11, 104], [11]), (some 106, [17, 104], [11]), (some 107, [105, 106, 104], [12, 13, 11]), (some 108, [107, 104], [14, 11]), (some 109, [108, 104], [15, 11]), (some 110, [15, 104], [11]), (some 111, [17, 104], [11]), (some 112, [110, 111, 104], [17, 18, 11]), (some 113, [112, 104], [19, 11]), (some 114, [113, 104], [20, 11]), (some 115, [109, 114, 104], [16, 21, 11]), (some 116, [104, 115], [11, 22]), (some 117, [116], [23, 11]), (some 118, [11, 117], [24]), (some 119, [17, 117], [24]), (some 120, [118, 119, 117], [25, 26, 24]), (some 121, [120, 117], [27, 24]), (some 122, [13, 117], [24]), (some 123, [17, 117], [24]), (some 124, [122, 123, 117], [29, 30, 24]), (some 125, [124, 117], [31, 24]), (some 126, [121, 125, 117], [28, 32, 24, 24]), (some 127, [15, 117], [24]), (some 128, [17, 117], [24]), (some 129, [127, 128, 117], [34, 35, 24]), (some 130, [129, 117], [36, 24]), (some 131, [126, 130, 117], [33, 37, 24]), (some 132, [117, 131], [24, 38])] (by kernel_rfl) (by kernel_rfl) (by kernel_rfl) ?_
    repeat' (first
      | refine HQ.pa ?_
      | refine HQ.ga rfl ?_
      | refine HQ.na rfl ?_
      | refine HQ.nu rfl ?_
      | refine HQ.ldb rfl (by first | ((repeat (first | with_reducible exact mem_hd | with_reducible apply mem_tl)); done) | (repeat (first | exact List.Mem.head _ | apply List.Mem.tail))) rfl rfl ?_)
    refine HQ.ld rfl (fun _ hM => (hM.rd (by first | ((repeat (first | with_reducible exact mem_hd | with_reducible apply mem_tl)); done) | (repeat (first | exact List.Mem.head _ | apply List.Mem.tail)))).cell0 (codes_get U k hlt)) rfl ?_
    repeat' (first
      | refine HQ.pa ?_
      | refine HQ.ga rfl ?_
      | refine HQ.na rfl ?_
      | refine HQ.nu rfl ?_
      | refine HQ.ldb rfl (by first | ((repeat (first | with_reducible exact mem_hd | with_reducible apply mem_tl)); done) | (repeat (first | exact List.Mem.head _ | apply List.Mem.tail))) rfl rfl ?_)
    refine HQ.ld rfl (fun _ hM => (hM.rd (by first | ((repeat (first | with_reducible exact mem_hd | with_reducible apply mem_tl)); done) | (repeat (first | exact List.Mem.head _ | apply List.Mem.tail)))).cell0 (codes_get V k hlt)) rfl ?_
    repeat' (first
      | refine HQ.pa ?_
      | refine HQ.ga rfl ?_
      | refine HQ.na rfl ?_
      | refine HQ.nu rfl ?_
      | refine HQ.ldb rfl (by first | ((repeat (first | with_reducible exact mem_hd | with_reducible apply mem_tl)); done) | (repeat (first | exact List.Mem.head _ | apply List.Mem.tail))) rfl rfl ?_)
    refine HQ.ld rfl (fun _ hM => (hM.rd (by first | ((repeat (first | with_reducible exact mem_hd | with_reducible apply mem_tl)); done) | (repeat (first | exact List.Mem.head _ | apply List.Mem.tail)))).cell0 (codes_get U k hlt)) rfl ?_
    repeat' (first
      | refine HQ.pa ?_
      | refine HQ.ga rfl ?_
      | refine HQ.na rfl ?_
      | refine HQ.nu rfl ?_
      | refine HQ.ldb rfl (by first | ((repeat (first | with_reducible exact mem_hd | with_reducible apply mem_tl)); done) | (repeat (first | exact List.Mem.head _ | apply List.Mem.tail))) rfl rfl ?_)
    refine HQ.ld rfl (fun _ hM => (hM.rd (by first | ((repeat (first | with_reducible exact mem_hd | with_reducible apply mem_tl)); done) | (repeat (first | exact List.Mem.head _ | apply List.Mem.tail)))).cell0 (codes_get (xorS U V) k hlt)) rfl ?_
    repeat' (first
      | refine HQ.pa ?_
      | refine HQ.ga rfl ?_
      | refine HQ.na rfl ?_
      | refine HQ.nu rfl ?_
      | refine HQ.ldb rfl (by first | ((repeat (first | with_reducible exact mem_hd | with_reducible apply mem_tl)); done) | (repeat (first | exact List.Mem.head _ | apply List.Mem.tail))) rfl rfl ?_)
    refine HQ.ld rfl (fun _ hM => (hM.rd (by first | ((repeat (first | with_reducible exact mem_hd | with_reducible apply mem_tl)); done) | (repeat (first | exact List.Mem.head _ | apply List.Mem.tail)))).cell0 (codes_get U k hlt)) rfl ?_
    repeat' (first
      | refine HQ.pa ?_
      | refine HQ.ga rfl ?_
      | refine HQ.na rfl ?_
      | refine HQ.nu rfl ?_
      | refine HQ.ldb rfl (by first | ((repeat (first | with_reducible exact mem_hd | with_reducible apply mem_tl)); done) | (repeat (first | exact List.Mem.head _ | apply List.Mem.tail))) rfl rfl ?_)
    refine HQ.ld rfl (fun _ hM => (hM.rd (by first | ((repeat (first | with_reducible exact mem_hd | with_reducible apply mem_tl)); done) | (repeat (first | exact List.Mem.head _ | apply List.Mem.tail)))).cell0 (codes_get V k hlt)) rfl ?_
    repeat' (first
      | refine HQ.pa ?_
      | refine HQ.ga rfl ?_
      | refine HQ.na rfl ?_
      | refine HQ.nu rfl ?_
      | refine HQ.ldb rfl (by first | ((repeat (first | with_reducible exact mem_hd | with_reducible apply mem_tl)); done) | (repeat (first | exact List.Mem.head _ | apply List.Mem.tail))) rfl rfl ?_)
    refine HQ.call rfl rfl (fun w _ => xor_fn _ _ e3 w) ?_
    repeat' (first
      | refine HQ.pa ?_
      | refine HQ.ga rfl ?_
      | refine HQ.na rfl ?_
      | refine HQ.nu rfl ?_
      | refine HQ.ldb rfl (by first | ((repeat (first | with_reducible exact mem_hd | with_reducible apply mem_tl)); done) | (repeat (first | exact List.Mem.head _ | apply List.Mem.tail))) rfl rfl ?_)
    refine HQ.ld rfl (fun _ hM => (hM.rd (by first | ((repeat (first | with_reducible exact mem_hd | with_reducible apply mem_tl)); done) | (repeat (first | exact List.Mem.head _ | apply List.Mem.tail)))).cell0 (codes_get (xorS U V) k hlt)) rfl ?_
    repeat' (first
      | refine HQ.pa ?_
      | refine HQ.ga rfl ?_
      | refine HQ.na rfl ?_
      | refine HQ.nu rfl ?_
      | refine HQ.ldb rfl (by first | ((repeat (first | with_reducible exact mem_hd | with_reducible apply mem_tl)); done) | (repeat (first | exact List.Mem.head _ | apply List.Mem.tail))) rfl rfl ?_)
    refine HQ.nil ?_
    repeat' (first
      | apply HL.fold
      | apply HA.fold
      | apply HL.nil
      | apply HX.n_then
      | apply HC.seq
      | apply HC.region
      | refine HL.pa ?_
      | refine HL.ga rfl ?_
      | refine HL.na rfl ?_
      | refine HL.nu rfl rfl ?_
      | apply HC.block
      | apply HC.skip
      | apply HC.exit
      | apply HC.ret
      | apply HX.e_block
      | refine HX.e_other rfl ?_
      | apply HX.e_then
      | apply HX.e_again
      | apply HX.n_block
      | apply HX.r_then
      | apply HX.r_block
      | apply HX.r_again
      | refine HC.cond_yes rfl ?_
      | refine HC.cond_no rfl ?_
      | refine HL.one (H1.ldb rfl (by first | ((repeat (first | with_reducible exact mem_hd | with_reducible apply mem_tl)); done) | (repeat (first | exact List.Mem.head _ | apply List.Mem.tail))) rfl rfl ?_)
      | refine HC.cond rfl (fun hc => ?_) (fun hc => ?_)
      | refine HC.cond_b rfl (fun hc => ?_) (fun hc => ?_))
    exact HX.again (i + 1) (by omega) (by omega) (by repeat (first | exact trivial | refine ⟨rfl, ?_⟩)) (by repeat (first | exact Hs.nil _ | (refine Hs.cons (by first | ((repeat (first | with_reducible exact Pick.here | with_reducible apply Pick.there)); done) | (repeat (first | exact Pick.here | apply Pick.there))) ?_)))
  · repeat' (first
      | apply HL.fold
      | apply HA.fold
      | apply HL.nil
      | apply HX.n_then
      | apply HC.seq
      | apply HC.region
      | refine HL.pa ?_
      | refine HL.ga rfl ?_
      | refine HL.na rfl ?_
      | refine HL.nu rfl rfl ?_
      | apply HC.block
      | apply HC.skip
      | apply HC.exit
      | apply HC.ret
      | apply HX.e_block
      | refine HX.e_other rfl ?_
      | apply HX.e_then
      | apply HX.e_again
      | apply HX.n_block
      | apply HX.r_then
      | apply HX.r_block
      | apply HX.r_again
      | refine HC.cond_yes rfl ?_
      | refine HC.cond_no rfl ?_
      | refine HL.one (H1.ldb rfl (by first | ((repeat (first | with_reducible exact mem_hd | with_reducible apply mem_tl)); done) | (repeat (first | exact List.Mem.head _ | apply List.Mem.tail))) rfl rfl ?_)
      | refine HC.cond rfl (fun hc => ?_) (fun hc => ?_)
      | refine HC.cond_b rfl (fun hc => ?_) (fun hc => ?_))
    exact HX.ret1 rfl rfl fun w' hM => ⟨rfl, x03.trans hM.ext⟩
end Go.Sx

