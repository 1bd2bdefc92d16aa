/- The law CodeMatchesReference. -/
import Derived.Test.YtfjkdciblblalaaDoorSR
import Derived.Test.YtfjkdciblblalaaDoorM3
namespace Go.Sx
open Go Go.Proofs
attribute [local irreducible] WC WL WX POp Then Again Fn NX W1 WA WO QL RP RA Yld LoopAt HC HL HX HN H1 HA HO HQ HB HP A.blk A.grow A.rd A.obj A.mp AgainH CutH
attribute [local irreducible] codeA codeL cOut tnums joinV fragV
set_option maxHeartbeats 4000000 in
theorem codeMatches_fn (s : ByteArray) (K N T : Int) (v : Value) (raw : List ByteArray) (which length at_ : Int) (c : Nat) (hc : c < 256)
    (hraw : ∀ x ∈ raw, x.size ≤ 9223372036854775807) (hrl : raw.length ≤ 9223372036854775807)
    (hK : -9223372036854775808 ≤ K ∧ K ≤ 9223372036854775807) (hN : -9223372036854775808 ≤ N ∧ N ≤ 9223372036854775807) (hT : -9223372036854775808 ≤ T ∧ T ≤ 9223372036854775807)
    (hw : -9223372036854775808 ≤ which ∧ which ≤ 9223372036854775807) (hl : -9223372036854775808 ≤ length ∧ length ≤ 9223372036854775807) (ha : -9223372036854775808 ≤ at_ ∧ at_ ≤ 9223372036854775807)
    (w : World) (hred : Red w) (hR : Rd w v (strs raw)) :
    Fn Tryd.prog 3 #[.agg #[.string s, .int .i64 K, .int .i64 N, .int .i64 T], v, .int .i64 which, .int .i64 length, .int .i64 at_, u8v c] w fun u w' => u = .bool true ∧ Ext w w' := by
  have hlr : (strs raw).length = raw.length := by simp [strs]
  obtain ⟨ar, cr, rfl⟩ := hR.len
  rw [hlr] at hR ⊢
  refine enterH (l := [_, _, _, _, _, _]) rfl Tryd.ntmps3 rfl ?_
  repeat' (first | apply HL.fold | apply HA.fold | apply HL.nil | apply HX.n_then | apply HC.seq | apply HC.region | refine HL.pa ?_ | refine HL.ga rfl ?_ | refine HL.na rfl ?_ | refine HL.nu rfl rfl ?_ | apply HC.block | apply HC.skip | apply HC.exit | apply HC.ret | apply HX.e_block | refine HX.e_other rfl ?_ | apply HX.e_then | apply HX.e_again | apply HX.n_block | apply HX.r_then | apply HX.r_block | apply HX.r_again | refine HC.cond_yes rfl ?_ | refine HC.cond_no rfl ?_ | refine HL.one (H1.ldb rfl memA rfl rfl ?_) | refine HC.cond rfl (fun hc => ?_) (fun hc => ?_) | refine HC.cond_b rfl (fun hc => ?_) (fun hc => ?_))
  refine HL.one (H1.boxAgg (cs := [.string s, .int .i64 K, .int .i64 N, .int .i64 T]) rfl rfl (fun b6 => ?_))
  repeat' (first | apply HL.fold | apply HA.fold | apply HL.nil | apply HX.n_then | apply HC.seq | apply HC.region | refine HL.pa ?_ | refine HL.ga rfl ?_ | refine HL.na rfl ?_ | refine HL.nu rfl rfl ?_ | apply HC.block | apply HC.skip | apply HC.exit | apply HC.ret | apply HX.e_block | refine HX.e_other rfl ?_ | apply HX.e_then | apply HX.e_again | apply HX.n_block | apply HX.r_then | apply HX.r_block | apply HX.r_again | refine HC.cond_yes rfl ?_ | refine HC.cond_no rfl ?_ | refine HL.one (H1.ldb rfl memA rfl rfl ?_) | refine HC.cond rfl (fun hc => ?_) (fun hc => ?_) | refine HC.cond_b rfl (fun hc => ?_) (fun hc => ?_))
  refine HL.one (H1.callx (vs := []) rfl rfl (fun w' hM => sane_x w' (hred.ext hM.ext)) ?_)
  repeat' (first | apply HL.fold | apply HA.fold | apply HL.nil | apply HX.n_then | apply HC.seq | apply HC.region | refine HL.pa ?_ | refine HL.ga rfl ?_ | refine HL.na rfl ?_ | refine HL.nu rfl rfl ?_ | apply HC.block | apply HC.skip | apply HC.exit | apply HC.ret | apply HX.e_block | refine HX.e_other rfl ?_ | apply HX.e_then | apply HX.e_again | apply HX.n_block | apply HX.r_then | apply HX.r_block | apply HX.r_again | refine HC.cond_yes rfl ?_ | refine HC.cond_no rfl ?_ | refine HL.one (H1.ldb rfl memA rfl rfl ?_) | refine HC.cond rfl (fun hc => ?_) (fun hc => ?_) | refine HC.cond_b rfl (fun hc => ?_) (fun hc => ?_))
  refine HL.one (H1.ldAgg (vs := [.string s, .int .i64 K, .int .i64 N, .int .i64 T]) rfl memA rfl (fun i v hv => by rw [show 0 + i = i from Nat.zero_add i]; exact hv) rfl ?_)
  repeat' (first | apply HL.fold | apply HA.fold | apply HL.nil | apply HX.n_then | apply HC.seq | apply HC.region | refine HL.pa ?_ | refine HL.ga rfl ?_ | refine HL.na rfl ?_ | refine HL.nu rfl rfl ?_ | apply HC.block | apply HC.skip | apply HC.exit | apply HC.ret | apply HX.e_block | refine HX.e_other rfl ?_ | apply HX.e_then | apply HX.e_again | apply HX.n_block | apply HX.r_then | apply HX.r_block | apply HX.r_again | refine HC.cond_yes rfl ?_ | refine HC.cond_no rfl ?_ | refine HL.one (H1.ldb rfl memA rfl rfl ?_) | refine HC.cond rfl (fun hc => ?_) (fun hc => ?_) | refine HC.cond_b rfl (fun hc => ?_) (fun hc => ?_))
  refine HL.one (H1.callr (vs := [.agg #[.string s, .int .i64 K, .int .i64 N, .int .i64 T], iv 0]) rfl rfl (fun w _ => made_z s K N T hK hN hT 0 (by decide) w) ?_)
  rintro wa va w3 hMa ⟨S, k, n, th, bt, offt, ct, rfl, x3, hS, hS2, hk1, hkn, hn9, hth, hRt, hct, hcnt, -, -⟩
  have x03 : Ext w w3 := hMa.ext.trans x3
  have hr3 := hred.ext x03
  have hB := hMa.blk (b := b6) (cs := [.string s, .int .i64 K, .int .i64 N, .int .i64 T]) memA
  have qK : w3.cell? ⟨b6, 1, none⟩ = some (.int .i64 K) := cell_ext x3 (hB.cell rfl)
  have qN : w3.cell? ⟨b6, 2, none⟩ = some (.int .i64 N) := cell_ext x3 (hB.cell rfl)
  have hR3 := hR.ext x03
  clear hMa hB
  obtain ⟨p1, p2⟩ := pickI_lt which (n := (n : Int)) (by omega)
  obtain ⟨q, hq⟩ : ∃ q : Nat, pickI which n = (q : Int) := ⟨(pickI which n).toNat, by omega⟩
  have hlc : (codeL S k n).length = n := codeL_len S k n
  repeat' (first | apply HL.fold | apply HA.fold | apply HL.nil | apply HX.n_then | apply HC.seq | apply HC.region | refine HL.pa ?_ | refine HL.ga rfl ?_ | refine HL.na rfl ?_ | refine HL.nu rfl rfl ?_ | apply HC.block | apply HC.skip | apply HC.exit | apply HC.ret | apply HX.e_block | refine HX.e_other rfl ?_ | apply HX.e_then | apply HX.e_again | apply HX.n_block | apply HX.r_then | apply HX.r_block | apply HX.r_again | refine HC.cond_yes rfl ?_ | refine HC.cond_no rfl ?_ | refine HL.one (H1.ldb rfl memA rfl rfl ?_) | refine HC.cond rfl (fun hc => ?_) (fun hc => ?_) | refine HC.cond_b rfl (fun hc => ?_) (fun hc => ?_))
  refine HL.one (H1.ld0 rfl qK rfl ?_)
  repeat' (first | apply HL.fold | apply HA.fold | apply HL.nil | apply HX.n_then | apply HC.seq | apply HC.region | refine HL.pa ?_ | refine HL.ga rfl ?_ | refine HL.na rfl ?_ | refine HL.nu rfl rfl ?_ | apply HC.block | apply HC.skip | apply HC.exit | apply HC.ret | apply HX.e_block | refine HX.e_other rfl ?_ | apply HX.e_then | apply HX.e_again | apply HX.n_block | apply HX.r_then | apply HX.r_block | apply HX.r_again | refine HC.cond_yes rfl ?_ | refine HC.cond_no rfl ?_ | refine HL.one (H1.ldb rfl memA rfl rfl ?_) | refine HC.cond rfl (fun hc => ?_) (fun hc => ?_) | refine HC.cond_b rfl (fun hc => ?_) (fun hc => ?_))
  refine HL.one (H1.ld0 rfl qN rfl ?_)
  repeat' (first | apply HL.fold | apply HA.fold | apply HL.nil | apply HX.n_then | apply HC.seq | apply HC.region | refine HL.pa ?_ | refine HL.ga rfl ?_ | refine HL.na rfl ?_ | refine HL.nu rfl rfl ?_ | apply HC.block | apply HC.skip | apply HC.exit | apply HC.ret | apply HX.e_block | refine HX.e_other rfl ?_ | apply HX.e_then | apply HX.e_again | apply HX.n_block | apply HX.r_then | apply HX.r_block | apply HX.r_again | refine HC.cond_yes rfl ?_ | refine HC.cond_no rfl ?_ | refine HL.one (H1.ldb rfl memA rfl rfl ?_) | refine HC.cond rfl (fun hc => ?_) (fun hc => ?_) | refine HC.cond_b rfl (fun hc => ?_) (fun hc => ?_))
  refine HL.build (cs := [.int .i64 K, .int .i64 N]) rfl rfl rfl ?_
  repeat' (first | apply HL.fold | apply HA.fold | apply HL.nil | apply HX.n_then | apply HC.seq | apply HC.region | refine HL.pa ?_ | refine HL.ga rfl ?_ | refine HL.na rfl ?_ | refine HL.nu rfl rfl ?_ | apply HC.block | apply HC.skip | apply HC.exit | apply HC.ret | apply HX.e_block | refine HX.e_other rfl ?_ | apply HX.e_then | apply HX.e_again | apply HX.n_block | apply HX.r_then | apply HX.r_block | apply HX.r_again | refine HC.cond_yes rfl ?_ | refine HC.cond_no rfl ?_ | refine HL.one (H1.ldb rfl memA rfl rfl ?_) | refine HC.cond rfl (fun hc => ?_) (fun hc => ?_) | refine HC.cond_b rfl (fun hc => ?_) (fun hc => ?_))
  refine HL.build (cs := [iv k, iv n]) rfl rfl rfl ?_
  repeat' (first | apply HL.fold | apply HA.fold | apply HL.nil | apply HX.n_then | apply HC.seq | apply HC.region | refine HL.pa ?_ | refine HL.ga rfl ?_ | refine HL.na rfl ?_ | refine HL.nu rfl rfl ?_ | apply HC.block | apply HC.skip | apply HC.exit | apply HC.ret | apply HX.e_block | refine HX.e_other rfl ?_ | apply HX.e_then | apply HX.e_again | apply HX.n_block | apply HX.r_then | apply HX.r_block | apply HX.r_again | refine HC.cond_yes rfl ?_ | refine HC.cond_no rfl ?_ | refine HL.one (H1.ldb rfl memA rfl rfl ?_) | refine HC.cond rfl (fun hc => ?_) (fun hc => ?_) | refine HC.cond_b rfl (fun hc => ?_) (fun hc => ?_))
  refine HL.one (H1.lit (cs := [.int .i64 K, .int .i64 N, iv k, iv n]) rfl rfl rfl rfl rfl rfl (fun bY => ?_))
  repeat' (first | apply HL.fold | apply HA.fold | apply HL.nil | apply HX.n_then | apply HC.seq | apply HC.region | refine HL.pa ?_ | refine HL.ga rfl ?_ | refine HL.na rfl ?_ | refine HL.nu rfl rfl ?_ | apply HC.block | apply HC.skip | apply HC.exit | apply HC.ret | apply HX.e_block | refine HX.e_other rfl ?_ | apply HX.e_then | apply HX.e_again | apply HX.n_block | apply HX.r_then | apply HX.r_block | apply HX.r_again | refine HC.cond_yes rfl ?_ | refine HC.cond_no rfl ?_ | refine HL.one (H1.ldb rfl memA rfl rfl ?_) | refine HC.cond rfl (fun hc => ?_) (fun hc => ?_) | refine HC.cond_b rfl (fun hc => ?_) (fun hc => ?_))
  refine HC.loop (α := Nat) (fun i => [(1, .slice ar raw.length cr), (2, .int .i64 which), (3, .int .i64 length), (4, .int .i64 at_), (5, u8v c), (13, .bool true), (14, .string S), (15, iv k), (16, iv n), (17, .slice (some ⟨bt, offt, none⟩) n ct), (61, .slice (some ⟨bY, 0, none⟩) 2 2), (62, .int .i64 2), (63, iv i)])
    (fun _ => [A.blk bY [.int .i64 K, .int .i64 N, iv k, iv n] 29]) (fun i => i ≤ 2) (fun i => 2 - i) 0 (Nat.zero_le _) esA (by repeat (first | exact Hs.nil _ | (refine Hs.cons pickA ?_))) ?_
  intro i hi
  by_cases hlt : i < 2
  · obtain ⟨y0, y1, hy, hy0, hy1⟩ : ∃ y0 y1 : Int, (∀ (j : Nat) (v : Value), ([.int .i64 y0, .int .i64 y1] : List Value)[j]? = some v → ([.int .i64 K, .int .i64 N, iv k, iv n] : List Value)[i * 2 + j]? = some v) ∧ (-9223372036854775808 ≤ y0 ∧ y0 ≤ 9223372036854775807) ∧ (-9223372036854775808 ≤ y1 ∧ y1 ≤ 9223372036854775807) := by
      rcases (show i = 0 ∨ i = 1 by omega) with rfl | rfl
      · exact ⟨K, N, fun j v hv => by
          match j, hv with
          | 0, hv => exact hv
          | 1, hv => exact hv
          | j + 2, hv => simp at hv, hK, hN⟩
      · exact ⟨k, n, fun j v hv => by
          match j, hv with
          | 0, hv => exact hv
          | 1, hv => exact hv
          | j + 2, hv => simp at hv, by omega, by omega⟩
    repeat' (first | apply HL.fold | apply HA.fold | apply HL.nil | apply HX.n_then | apply HC.seq | apply HC.region | refine HL.pa ?_ | refine HL.ga rfl ?_ | refine HL.na rfl ?_ | refine HL.nu rfl rfl ?_ | apply HC.block | apply HC.skip | apply HC.exit | apply HC.ret | apply HX.e_block | refine HX.e_other rfl ?_ | apply HX.e_then | apply HX.e_again | apply HX.n_block | apply HX.r_then | apply HX.r_block | apply HX.r_again | refine HC.cond_yes rfl ?_ | refine HC.cond_no rfl ?_ | refine HL.one (H1.ldb rfl memA rfl rfl ?_) | refine HC.cond rfl (fun hc => ?_) (fun hc => ?_) | refine HC.cond_b rfl (fun hc => ?_) (fun hc => ?_))
    refine HL.one (H1.ldAgg (vs := [.int .i64 y0, .int .i64 y1]) rfl memA rfl hy rfl ?_)
    repeat' (first | apply HL.fold | apply HA.fold | apply HL.nil | apply HX.n_then | apply HC.seq | apply HC.region | refine HL.pa ?_ | refine HL.ga rfl ?_ | refine HL.na rfl ?_ | refine HL.nu rfl rfl ?_ | apply HC.block | apply HC.skip | apply HC.exit | apply HC.ret | apply HX.e_block | refine HX.e_other rfl ?_ | apply HX.e_then | apply HX.e_again | apply HX.n_block | apply HX.r_then | apply HX.r_block | apply HX.r_again | refine HC.cond_yes rfl ?_ | refine HC.cond_no rfl ?_ | refine HL.one (H1.ldb rfl memA rfl rfl ?_) | refine HC.cond rfl (fun hc => ?_) (fun hc => ?_) | refine HC.cond_b rfl (fun hc => ?_) (fun hc => ?_))
    refine HL.one (H1.alloc (cs := [.int .i64 0, .int .i64 0]) rfl rfl (fun b19 => ?_))
    repeat' (first | apply HL.fold | apply HA.fold | apply HL.nil | apply HX.n_then | apply HC.seq | apply HC.region | refine HL.pa ?_ | refine HL.ga rfl ?_ | refine HL.na rfl ?_ | refine HL.nu rfl rfl ?_ | apply HC.block | apply HC.skip | apply HC.exit | apply HC.ret | apply HX.e_block | refine HX.e_other rfl ?_ | apply HX.e_then | apply HX.e_again | apply HX.n_block | apply HX.r_then | apply HX.r_block | apply HX.r_again | refine HC.cond_yes rfl ?_ | refine HC.cond_no rfl ?_ | refine HL.one (H1.ldb rfl memA rfl rfl ?_) | refine HC.cond rfl (fun hc => ?_) (fun hc => ?_) | refine HC.cond_b rfl (fun hc => ?_) (fun hc => ?_))
    refine HL.one (H1.stAgg (cs := [.int .i64 0, .int .i64 0]) (vs := [.int .i64 y0, .int .i64 y1]) rfl rfl rfl (by intro v hv; simp only [List.mem_cons, List.not_mem_nil, or_false] at hv; rcases hv with rfl | rfl <;> rfl) rplA rfl ?_)
    repeat' (first | apply HL.fold | apply HA.fold | apply HL.nil | apply HX.n_then | apply HC.seq | apply HC.region | refine HL.pa ?_ | refine HL.ga rfl ?_ | refine HL.na rfl ?_ | refine HL.nu rfl rfl ?_ | apply HC.block | apply HC.skip | apply HC.exit | apply HC.ret | apply HX.e_block | refine HX.e_other rfl ?_ | apply HX.e_then | apply HX.e_again | apply HX.n_block | apply HX.r_then | apply HX.r_block | apply HX.r_again | refine HC.cond_yes rfl ?_ | refine HC.cond_no rfl ?_ | refine HL.one (H1.ldb rfl memA rfl rfl ?_) | refine HC.cond rfl (fun hc => ?_) (fun hc => ?_) | refine HC.cond_b rfl (fun hc => ?_) (fun hc => ?_))
    by_cases hC : isC y0 y1 ∧ (S.size : Int) ≤ 4096 * y0
    · obtain ⟨⟨c1, c2, c3⟩, c4⟩ := hC
      obtain ⟨a, rfl⟩ : ∃ a : Nat, y0 = (a : Int) := ⟨y0.toNat, by omega⟩
      obtain ⟨m, rfl⟩ : ∃ m : Nat, y1 = (m : Int) := ⟨y1.toNat, by omega⟩
      refine HL.one (H1.callz1 (vs := [.string S, iv a, iv m]) rfl rfl (fun w' hM => split_z S a m (by omega) (by omega) (by omega) (by omega) w' (hr3.ext hM.ext)) ?_)
      rintro bF -
      repeat' (first | apply HL.fold | apply HA.fold | apply HL.nil | apply HX.n_then | apply HC.seq | apply HC.region | refine HL.pa ?_ | refine HL.ga rfl ?_ | refine HL.na rfl ?_ | refine HL.nu rfl rfl ?_ | apply HC.block | apply HC.skip | apply HC.exit | apply HC.ret | apply HX.e_block | refine HX.e_other rfl ?_ | apply HX.e_then | apply HX.e_again | apply HX.n_block | apply HX.r_then | apply HX.r_block | apply HX.r_again | refine HC.cond_yes rfl ?_ | refine HC.cond_no rfl ?_ | refine HL.one (H1.ldb rfl memA rfl rfl ?_) | refine HC.cond rfl (fun hc => ?_) (fun hc => ?_) | refine HC.cond_b rfl (fun hc => ?_) (fun hc => ?_))
      refine HL.one (H1.callz1 (vs := [.string S, iv a, iv m]) rfl rfl (fun w' _ => refSplit_yes S a m (by omega) (by omega) (by omega) (by omega) w') ?_)
      rintro ⟨a', c'⟩ -
      dsimp only
      repeat' (first | apply HL.fold | apply HA.fold | apply HL.nil | apply HX.n_then | apply HC.seq | apply HC.region | refine HL.pa ?_ | refine HL.ga rfl ?_ | refine HL.na rfl ?_ | refine HL.nu rfl rfl ?_ | apply HC.block | apply HC.skip | apply HC.exit | apply HC.ret | apply HX.e_block | refine HX.e_other rfl ?_ | apply HX.e_then | apply HX.e_again | apply HX.n_block | apply HX.r_then | apply HX.r_block | apply HX.r_again | refine HC.cond_yes rfl ?_ | refine HC.cond_no rfl ?_ | refine HL.one (H1.ldb rfl memA rfl rfl ?_) | refine HC.cond rfl (fun hc => ?_) (fun hc => ?_) | refine HC.cond_b rfl (fun hc => ?_) (fun hc => ?_))
      refine HL.one (H1.callx (vs := [.slice (some ⟨bF, 0, none⟩) m m, .slice a' m c']) rfl rfl (fun w' hM => sameS_fn _ _ (codeL S a m) (by rw [codeL_len]; omega) w' (hM.rd memA) (hM.gr memA)) ?_)
      repeat' (first | apply HL.fold | apply HA.fold | apply HL.nil | apply HX.n_then | apply HC.seq | apply HC.region | refine HL.pa ?_ | refine HL.ga rfl ?_ | refine HL.na rfl ?_ | refine HL.nu rfl rfl ?_ | apply HC.block | apply HC.skip | apply HC.exit | apply HC.ret | apply HX.e_block | refine HX.e_other rfl ?_ | apply HX.e_then | apply HX.e_again | apply HX.n_block | apply HX.r_then | apply HX.r_block | apply HX.r_again | refine HC.cond_yes rfl ?_ | refine HC.cond_no rfl ?_ | refine HL.one (H1.ldb rfl memA rfl rfl ?_) | refine HC.cond rfl (fun hc => ?_) (fun hc => ?_) | refine HC.cond_b rfl (fun hc => ?_) (fun hc => ?_))
      exact HX.again (i + 1) (by omega) (by omega) esA (by repeat (first | exact Hs.nil _ | (refine Hs.cons pickA ?_)))
    · refine HL.one (H1.call0 (vs := [.string S, .int .i64 y0, .int .i64 y1]) rfl rfl (fun w' _ => split_no S y0 y1 hC w') ?_)
      repeat' (first | apply HL.fold | apply HA.fold | apply HL.nil | apply HX.n_then | apply HC.seq | apply HC.region | refine HL.pa ?_ | refine HL.ga rfl ?_ | refine HL.na rfl ?_ | refine HL.nu rfl rfl ?_ | apply HC.block | apply HC.skip | apply HC.exit | apply HC.ret | apply HX.e_block | refine HX.e_other rfl ?_ | apply HX.e_then | apply HX.e_again | apply HX.n_block | apply HX.r_then | apply HX.r_block | apply HX.r_again | refine HC.cond_yes rfl ?_ | refine HC.cond_no rfl ?_ | refine HL.one (H1.ldb rfl memA rfl rfl ?_) | refine HC.cond rfl (fun hc => ?_) (fun hc => ?_) | refine HC.cond_b rfl (fun hc => ?_) (fun hc => ?_))
      refine HL.one (H1.callx (vs := [.string S, .int .i64 y0, .int .i64 y1]) rfl rfl (fun w' _ => refSplit_no S y0 y1 hC w') ?_)
      repeat' (first | apply HL.fold | apply HA.fold | apply HL.nil | apply HX.n_then | apply HC.seq | apply HC.region | refine HL.pa ?_ | refine HL.ga rfl ?_ | refine HL.na rfl ?_ | refine HL.nu rfl rfl ?_ | apply HC.block | apply HC.skip | apply HC.exit | apply HC.ret | apply HX.e_block | refine HX.e_other rfl ?_ | apply HX.e_then | apply HX.e_again | apply HX.n_block | apply HX.r_then | apply HX.r_block | apply HX.r_again | refine HC.cond_yes rfl ?_ | refine HC.cond_no rfl ?_ | refine HL.one (H1.ldb rfl memA rfl rfl ?_) | refine HC.cond rfl (fun hc => ?_) (fun hc => ?_) | refine HC.cond_b rfl (fun hc => ?_) (fun hc => ?_))
      refine HL.one (H1.callx (vs := [.slice none 0 0, .slice none 0 0]) rfl rfl (fun w' hM => sameS_fn _ _ [] (by decide) w' ⟨none, 0, rfl, Nat.le_refl _, .inl rfl⟩ ⟨none, 0, rfl, Nat.le_refl _, .inl rfl⟩) ?_)
      repeat' (first | apply HL.fold | apply HA.fold | apply HL.nil | apply HX.n_then | apply HC.seq | apply HC.region | refine HL.pa ?_ | refine HL.ga rfl ?_ | refine HL.na rfl ?_ | refine HL.nu rfl rfl ?_ | apply HC.block | apply HC.skip | apply HC.exit | apply HC.ret | apply HX.e_block | refine HX.e_other rfl ?_ | apply HX.e_then | apply HX.e_again | apply HX.n_block | apply HX.r_then | apply HX.r_block | apply HX.r_again | refine HC.cond_yes rfl ?_ | refine HC.cond_no rfl ?_ | refine HL.one (H1.ldb rfl memA rfl rfl ?_) | refine HC.cond rfl (fun hc => ?_) (fun hc => ?_) | refine HC.cond_b rfl (fun hc => ?_) (fun hc => ?_))
      exact HX.again (i + 1) (by omega) (by omega) esA (by repeat (first | exact Hs.nil _ | (refine Hs.cons pickA ?_)))
  obtain rfl : i = 2 := by omega
  repeat' (first | apply HL.fold | apply HA.fold | apply HL.nil | apply HX.n_then | apply HC.seq | apply HC.region | refine HL.pa ?_ | refine HL.ga rfl ?_ | refine HL.na rfl ?_ | refine HL.nu rfl rfl ?_ | apply HC.block | apply HC.skip | apply HC.exit | apply HC.ret | apply HX.e_block | refine HX.e_other rfl ?_ | apply HX.e_then | apply HX.e_again | apply HX.n_block | apply HX.r_then | apply HX.r_block | apply HX.r_again | refine HC.cond_yes rfl ?_ | refine HC.cond_no rfl ?_ | refine HL.one (H1.ldb rfl memA rfl rfl ?_) | refine HC.cond rfl (fun hc => ?_) (fun hc => ?_) | refine HC.cond_b rfl (fun hc => ?_) (fun hc => ?_))
  refine HL.one (H1.callz1 (vs := [.string S, iv k, iv n]) rfl rfl (fun w' _ => refSplit_yes S k n hk1 hkn hn9 (by omega) w') ?_)
  rintro ⟨al, cl⟩ -
  dsimp only
  repeat' (first | apply HL.fold | apply HA.fold | apply HL.nil | apply HX.n_then | apply HC.seq | apply HC.region | refine HL.pa ?_ | refine HL.ga rfl ?_ | refine HL.na rfl ?_ | refine HL.nu rfl rfl ?_ | apply HC.block | apply HC.skip | apply HC.exit | apply HC.ret | apply HX.e_block | refine HX.e_other rfl ?_ | apply HX.e_then | apply HX.e_again | apply HX.n_block | apply HX.r_then | apply HX.r_block | apply HX.r_again | refine HC.cond_yes rfl ?_ | refine HC.cond_no rfl ?_ | refine HL.one (H1.ldb rfl memA rfl rfl ?_) | refine HC.cond rfl (fun hc => ?_) (fun hc => ?_) | refine HC.cond_b rfl (fun hc => ?_) (fun hc => ?_))
  refine HL.openg (e := 9) (a := al) (xs := strs (codeL S k n)) memA (by omega) ?_
  rintro bl rfl
  refine HL.one (H1.lit0 rfl (fun b2 => ?_))
  repeat' (first | apply HL.fold | apply HA.fold | apply HL.nil | apply HX.n_then | apply HC.seq | apply HC.region | refine HL.pa ?_ | refine HL.ga rfl ?_ | refine HL.na rfl ?_ | refine HL.nu rfl rfl ?_ | apply HC.block | apply HC.skip | apply HC.exit | apply HC.ret | apply HX.e_block | refine HX.e_other rfl ?_ | apply HX.e_then | apply HX.e_again | apply HX.n_block | apply HX.r_then | apply HX.r_block | apply HX.r_again | refine HC.cond_yes rfl ?_ | refine HC.cond_no rfl ?_ | refine HL.one (H1.ldb rfl memA rfl rfl ?_) | refine HC.cond rfl (fun hc => ?_) (fun hc => ?_) | refine HC.cond_b rfl (fun hc => ?_) (fun hc => ?_))
  refine HL.one (H1.app (sz := 1) (news := strs (codeL S k n)) rfl (by decide) rfl rfl (fun _ _ => by first | ((repeat (first | with_reducible exact Rpl.here | with_reducible apply Rpl.there)); done) | (repeat (first | exact Rpl.here | apply Rpl.there))) (by simp [strs, hlc]) (fun w hM j u hu => by
    have h1 : Rd w (.slice (some ⟨bl, 0, none⟩) n cl) (strs (codeL S k n)) := hM.gr memA
    rw [add_lit]; exact h1.cell hu) (fun u hu => by
    obtain ⟨x, -, rfl⟩ := List.mem_map.1 hu; rfl) (by omega) (by decide) rfl (fun a' cg hg => ?_))
  obtain ⟨bg, rfl⟩ : ∃ b, a' = some ⟨b, 0, none⟩ := hg.resolve_left (by omega)
  rw [List.nil_append, Nat.zero_add]
  have hmk := mOf_le (l := S.size) (show 0 < k by omega) (by omega)
  have hFs : (codeA S k q).size ≤ 4096 := by rw [codeA_size]; exact hmk
  have hlq : (strs (codeL S k n))[q]? = some (.string (codeA S k q)) := by rw [strs_code]; exact row_get _ (by omega)
  repeat' (first | apply HL.fold | apply HA.fold | apply HL.nil | apply HX.n_then | apply HC.seq | apply HC.region | refine HL.pa ?_ | refine HL.ga rfl ?_ | refine HL.na rfl ?_ | refine HL.nu rfl rfl ?_ | apply HC.block | apply HC.skip | apply HC.exit | apply HC.ret | apply HX.e_block | refine HX.e_other rfl ?_ | apply HX.e_then | apply HX.e_again | apply HX.n_block | apply HX.r_then | apply HX.r_block | apply HX.r_again | refine HC.cond_yes rfl ?_ | refine HC.cond_no rfl ?_ | refine HL.one (H1.ldb rfl memA rfl rfl ?_) | refine HC.cond rfl (fun hc => ?_) (fun hc => ?_) | refine HC.cond_b rfl (fun hc => ?_) (fun hc => ?_))
  refine HL.cut (α := Unit) (fun _ => [(1, .slice ar raw.length cr), (2, .int .i64 which), (3, .int .i64 length), (4, .int .i64 at_), (5, u8v c), (13, .bool true), (14, .string S), (15, iv k), (16, iv n), (17, .slice (some ⟨bt, offt, none⟩) n ct), (24, .slice (some ⟨bl, 0, none⟩) n cl), (26, .slice (some ⟨bg, 0, none⟩) n cg), (27, iv q)])
    (fun _ => [A.grow 9 1 (some ⟨bg, 0, none⟩) cg n (strs (codeL S k n)), A.grow 9 1 (some ⟨bl, 0, none⟩) cl n (strs (codeL S k n))]) (fun _ => True) ?_ ?_
  · refine HL.one (H1.call0 (vs := [.int .i64 which, iv n]) rfl rfl (fun w' _ => pick_fn which n hw.1 hw.2 (by omega) w') ?_)
    rw [hq]
    repeat' (first | apply HL.fold | apply HA.fold | apply HL.nil | apply HX.n_then | apply HC.seq | apply HC.region | refine HL.pa ?_ | refine HL.ga rfl ?_ | refine HL.na rfl ?_ | refine HL.nu rfl rfl ?_ | apply HC.block | apply HC.skip | apply HC.exit | apply HC.ret | apply HX.e_block | refine HX.e_other rfl ?_ | apply HX.e_then | apply HX.e_again | apply HX.n_block | apply HX.r_then | apply HX.r_block | apply HX.r_again | refine HC.cond_yes rfl ?_ | refine HC.cond_no rfl ?_ | refine HL.one (H1.ldb rfl memA rfl rfl ?_) | refine HC.cond rfl (fun hc => ?_) (fun hc => ?_) | refine HC.cond_b rfl (fun hc => ?_) (fun hc => ?_))
    exact HX.cut () trivial esA (by repeat (first | exact Hs.nil _ | (refine Hs.cons pickA ?_)))
  rintro - -
  refine HC.seq ?_
  refine HC.cut (α := List ByteArray) (fun _ => [(1, .slice ar raw.length cr), (2, .int .i64 which), (3, .int .i64 length), (13, .bool true), (14, .string S), (15, iv k), (16, iv n), (17, .slice (some ⟨bt, offt, none⟩) n ct), (24, .slice (some ⟨bl, 0, none⟩) n cl), (26, .slice (some ⟨bg, 0, none⟩) n cg), (27, iv q)])
    (fun z => [A.grow 9 1 (some ⟨bg, 0, none⟩) cg n (strs z), A.grow 9 1 (some ⟨bl, 0, none⟩) cl n (strs (codeL S k n))]) (fun z => z.length = n) ?_ ?_
  · generalize codeA S k q = F at *
    by_cases hz : 0 < F.size
    rotate_left
    · repeat' (first | apply HL.fold | apply HA.fold | apply HL.nil | apply HX.n_then | apply HC.seq | apply HC.region | refine HL.pa ?_ | refine HL.ga rfl ?_ | refine HL.na rfl ?_ | refine HL.nu rfl rfl ?_ | apply HC.block | apply HC.skip | apply HC.exit | apply HC.ret | apply HX.e_block | refine HX.e_other rfl ?_ | apply HX.e_then | apply HX.e_again | apply HX.n_block | apply HX.r_then | apply HX.r_block | apply HX.r_again | refine HC.cond_yes rfl ?_ | refine HC.cond_no rfl ?_ | refine HL.one (H1.ldb rfl memA rfl rfl ?_) | refine HC.cond rfl (fun hc => ?_) (fun hc => ?_) | refine HC.cond_b rfl (fun hc => ?_) (fun hc => ?_))
      refine HL.one (H1.ldg (vs := strs (codeL S k n)) rfl memA hlq rfl ?_)
      repeat' (first | apply HL.fold | apply HA.fold | apply HL.nil | apply HX.n_then | apply HC.seq | apply HC.region | refine HL.pa ?_ | refine HL.ga rfl ?_ | refine HL.na rfl ?_ | refine HL.nu rfl rfl ?_ | apply HC.block | apply HC.skip | apply HC.exit | apply HC.ret | apply HX.e_block | refine HX.e_other rfl ?_ | apply HX.e_then | apply HX.e_again | apply HX.n_block | apply HX.r_then | apply HX.r_block | apply HX.r_again | refine HC.cond_yes rfl ?_ | refine HC.cond_no rfl ?_ | refine HL.one (H1.ldb rfl memA rfl rfl ?_) | refine HC.cond rfl (fun hc => ?_) (fun hc => ?_) | refine HC.cond_b rfl (fun hc => ?_) (fun hc => ?_))
      exact HX.cut (codeL S k n) hlc esA (by repeat (first | exact Hs.nil _ | (refine Hs.cons pickA ?_)))
    obtain ⟨r1, r2⟩ := pickI_lt at_ (n := (F.size : Int)) (by omega)
    obtain ⟨p, hp⟩ : ∃ p : Nat, pickI at_ F.size = (p : Int) := ⟨(pickI at_ F.size).toNat, by omega⟩
    have hz' : (0 : Int) < (F.size : Int) := by omega
    repeat' (first | apply HL.fold | apply HA.fold | apply HL.nil | apply HX.n_then | apply HC.seq | apply HC.region | refine HL.pa ?_ | refine HL.ga rfl ?_ | refine HL.na rfl ?_ | refine HL.nu rfl rfl ?_ | apply HC.block | apply HC.skip | apply HC.exit | apply HC.ret | apply HX.e_block | refine HX.e_other rfl ?_ | apply HX.e_then | apply HX.e_again | apply HX.n_block | apply HX.r_then | apply HX.r_block | apply HX.r_again | refine HC.cond_yes rfl ?_ | refine HC.cond_no rfl ?_ | refine HL.one (H1.ldb rfl memA rfl rfl ?_) | refine HC.cond rfl (fun hc => ?_) (fun hc => ?_) | refine HC.cond_b rfl (fun hc => ?_) (fun hc => ?_))
    refine HL.one (H1.ldg (vs := strs (codeL S k n)) rfl memA hlq rfl ?_)
    repeat' (first | apply HL.fold | apply HA.fold | apply HL.nil | apply HX.n_then | apply HC.seq | apply HC.region | refine HL.pa ?_ | refine HL.ga rfl ?_ | refine HL.na rfl ?_ | refine HL.nu rfl rfl ?_ | apply HC.block | apply HC.skip | apply HC.exit | apply HC.ret | apply HX.e_block | refine HX.e_other rfl ?_ | apply HX.e_then | apply HX.e_again | apply HX.n_block | apply HX.r_then | apply HX.r_block | apply HX.r_again | refine HC.cond_yes rfl ?_ | refine HC.cond_no rfl ?_ | refine HL.one (H1.ldb rfl memA rfl rfl ?_) | refine HC.cond rfl (fun hc => ?_) (fun hc => ?_) | refine HC.cond_b rfl (fun hc => ?_) (fun hc => ?_))
    refine HL.one (H1.ldg (vs := strs (codeL S k n)) rfl memA hlq rfl ?_)
    repeat' (first | apply HL.fold | apply HA.fold | apply HL.nil | apply HX.n_then | apply HC.seq | apply HC.region | refine HL.pa ?_ | refine HL.ga rfl ?_ | refine HL.na rfl ?_ | refine HL.nu rfl rfl ?_ | apply HC.block | apply HC.skip | apply HC.exit | apply HC.ret | apply HX.e_block | refine HX.e_other rfl ?_ | apply HX.e_then | apply HX.e_again | apply HX.n_block | apply HX.r_then | apply HX.r_block | apply HX.r_again | refine HC.cond_yes rfl ?_ | refine HC.cond_no rfl ?_ | refine HL.one (H1.ldb rfl memA rfl rfl ?_) | refine HC.cond rfl (fun hc => ?_) (fun hc => ?_) | refine HC.cond_b rfl (fun hc => ?_) (fun hc => ?_))
    refine HL.one (H1.call0 (vs := [.int .i64 at_, iv F.size]) rfl rfl (fun w' _ => pick_fn at_ F.size ha.1 ha.2 (by omega) w') ?_)
    rw [hp]
    repeat' (first | apply HL.fold | apply HA.fold | apply HL.nil | apply HX.n_then | apply HC.seq | apply HC.region | refine HL.pa ?_ | refine HL.ga rfl ?_ | refine HL.na rfl ?_ | refine HL.nu rfl rfl ?_ | apply HC.block | apply HC.skip | apply HC.exit | apply HC.ret | apply HX.e_block | refine HX.e_other rfl ?_ | apply HX.e_then | apply HX.e_again | apply HX.n_block | apply HX.r_then | apply HX.r_block | apply HX.r_again | refine HC.cond_yes rfl ?_ | refine HC.cond_no rfl ?_ | refine HL.one (H1.ldb rfl memA rfl rfl ?_) | refine HC.cond rfl (fun hc => ?_) (fun hc => ?_) | refine HC.cond_b rfl (fun hc => ?_) (fun hc => ?_))
    have hG : ∀ G : ByteArray, (strs (codeL S k n)).set q (.string G) = strs ((codeL S k n).set q G) := fun G => by simp [strs, List.map_set]
    refine HC.any rfl ?_
    refine HA.pa 0 rfl ?_
    refine HA.pa 1 rfl ?_
    refine HA.pa 2 rfl ?_
    refine HA.pa 3 rfl ?_
    refine HA.pa 4 rfl ?_
    refine HA.pa 6 rfl ?_
    refine HA.pa 8 rfl ?_
    refine HA.pa 12 rfl ?_
    refine HA.pa 13 rfl ?_
    refine HA.pa 14 rfl ?_
    refine HA.pa 16 rfl ?_
    refine HA.pa 17 rfl ?_
    refine HA.all [5, 9, 15] (by kernel_rfl) rfl ⟨⟨_, rfl, ?_⟩, ⟨_, rfl, ?_⟩, ⟨_, rfl, ?_⟩, trivial⟩
    · refine HO.one ?_
      refine H1.ldg (vs := strs (codeL S k n)) rfl memA hlq rfl ?_
      apply HA.fold
      refine HA.pa 7 rfl ?_
      refine HA.all [9, 15] (by kernel_rfl) rfl ⟨⟨_, rfl, ?_⟩, ⟨_, rfl, ?_⟩, trivial⟩
      · refine HO.one ?_
        refine H1.lit (cs := [u8v c]) rfl rfl rfl rfl rfl rfl (fun b9 => ?_)
        apply HA.fold
        refine HA.all [10, 15] (by kernel_rfl) rfl ⟨⟨_, rfl, ?_⟩, ⟨_, rfl, ?_⟩, trivial⟩
        · refine HO.one ?_
          refine H1.bstr (n := 1) (f := fun _ => c) rfl memD (fun _ _ => hc) rfl ?_
          apply HA.fold
          refine HA.all [11, 15] (by kernel_rfl) rfl ⟨⟨_, rfl, ?_⟩, ⟨_, rfl, ?_⟩, trivial⟩
          · refine HO.one ?_
            refine H1.pa ?_ (by apply POp.cat; rfl; rfl; (rw [ByteArray.size_extract, mkS_size]; omega))
            apply HA.fold
            refine HA.all [15] (by kernel_rfl) rfl ⟨⟨_, rfl, ?_⟩, trivial⟩
            refine HO.one ?_
            refine H1.ldg (vs := strs (codeL S k n)) rfl memA hlq rfl ?_
            apply HA.fold
            refine HA.pa 18 rfl ?_
            refine HA.all [19] (by kernel_rfl) rfl ⟨⟨_, rfl, ?_⟩, trivial⟩
            refine HO.one ?_
            refine H1.pa ?_ (by apply POp.cat; rfl; rfl; (rw [ByteArray.size_append, ByteArray.size_extract, ByteArray.size_extract, mkS_size]; omega))
            apply HA.fold
            refine HA.pa 20 rfl ?_
            refine HA.all [21] (by kernel_rfl) rfl ⟨⟨_, rfl, ?_⟩, trivial⟩
            refine HO.one ?_
            refine H1.stg rfl rfl (by intro _ h; cases h) (by intro _ h; cases h) rplA (by simp [strs, hlc]; omega) ?_
            apply HA.fold
            refine HA.done (by kernel_rfl) ?_
            rw [hG]
            repeat' (first | apply HL.fold | apply HA.fold | apply HL.nil | apply HX.n_then | apply HC.seq | apply HC.region | refine HL.pa ?_ | refine HL.ga rfl ?_ | refine HL.na rfl ?_ | refine HL.nu rfl rfl ?_ | apply HC.block | apply HC.skip | apply HC.exit | apply HC.ret | apply HX.e_block | refine HX.e_other rfl ?_ | apply HX.e_then | apply HX.e_again | apply HX.n_block | apply HX.r_then | apply HX.r_block | apply HX.r_again | refine HC.cond_yes rfl ?_ | refine HC.cond_no rfl ?_ | refine HL.one (H1.ldb rfl memA rfl rfl ?_) | refine HC.cond rfl (fun hc => ?_) (fun hc => ?_) | refine HC.cond_b rfl (fun hc => ?_) (fun hc => ?_))
            exact HX.cut ((codeL S k n).set q (F.extract 0 (p : Int).toNat ++ mkS 1 (fun _ => c) ++ F.extract ((p : Int) + 1).toNat F.size)) (by rw [List.length_set]; exact hlc) esA (by repeat (first | exact Hs.nil _ | (refine Hs.cons pickA ?_)))
          · refine HO.one ?_
            refine H1.ldg (vs := strs (codeL S k n)) rfl memA hlq rfl ?_
            apply HA.fold
            refine HA.pa 18 rfl ?_
            refine HA.all [11] (by kernel_rfl) rfl ⟨⟨_, rfl, ?_⟩, trivial⟩
            refine HO.one ?_
            refine H1.pa ?_ (by apply POp.cat; rfl; rfl; (rw [ByteArray.size_extract, mkS_size]; omega))
            apply HA.fold
            refine HA.all [19] (by kernel_rfl) rfl ⟨⟨_, rfl, ?_⟩, trivial⟩
            refine HO.one ?_
            refine H1.pa ?_ (by apply POp.cat; rfl; rfl; (rw [ByteArray.size_append, ByteArray.size_extract, ByteArray.size_extract, mkS_size]; omega))
            apply HA.fold
            refine HA.pa 20 rfl ?_
            refine HA.all [21] (by kernel_rfl) rfl ⟨⟨_, rfl, ?_⟩, trivial⟩
            refine HO.one ?_
            refine H1.stg rfl rfl (by intro _ h; cases h) (by intro _ h; cases h) rplA (by simp [strs, hlc]; omega) ?_
            apply HA.fold
            refine HA.done (by kernel_rfl) ?_
            rw [hG]
            repeat' (first | apply HL.fold | apply HA.fold | apply HL.nil | apply HX.n_then | apply HC.seq | apply HC.region | refine HL.pa ?_ | refine HL.ga rfl ?_ | refine HL.na rfl ?_ | refine HL.nu rfl rfl ?_ | apply HC.block | apply HC.skip | apply HC.exit | apply HC.ret | apply HX.e_block | refine HX.e_other rfl ?_ | apply HX.e_then | apply HX.e_again | apply HX.n_block | apply HX.r_then | apply HX.r_block | apply HX.r_again | refine HC.cond_yes rfl ?_ | refine HC.cond_no rfl ?_ | refine HL.one (H1.ldb rfl memA rfl rfl ?_) | refine HC.cond rfl (fun hc => ?_) (fun hc => ?_) | refine HC.cond_b rfl (fun hc => ?_) (fun hc => ?_))
            exact HX.cut ((codeL S k n).set q (F.extract 0 (p : Int).toNat ++ mkS 1 (fun _ => c) ++ F.extract ((p : Int) + 1).toNat F.size)) (by rw [List.length_set]; exact hlc) esA (by repeat (first | exact Hs.nil _ | (refine Hs.cons pickA ?_)))
        · refine HO.one ?_
          refine H1.ldg (vs := strs (codeL S k n)) rfl memA hlq rfl ?_
          apply HA.fold
          refine HA.pa 18 rfl ?_
          refine HA.all [10] (by kernel_rfl) rfl ⟨⟨_, rfl, ?_⟩, trivial⟩
          refine HO.one ?_
          refine H1.bstr (n := 1) (f := fun _ => c) rfl memD (fun _ _ => hc) rfl ?_
          apply HA.fold
          refine HA.all [11] (by kernel_rfl) rfl ⟨⟨_, rfl, ?_⟩, trivial⟩
          refine HO.one ?_
          refine H1.pa ?_ (by apply POp.cat; rfl; rfl; (rw [ByteArray.size_extract, mkS_size]; omega))
          apply HA.fold
          refine HA.all [19] (by kernel_rfl) rfl ⟨⟨_, rfl, ?_⟩, trivial⟩
          refine HO.one ?_
          refine H1.pa ?_ (by apply POp.cat; rfl; rfl; (rw [ByteArray.size_append, ByteArray.size_extract, ByteArray.size_extract, mkS_size]; omega))
          apply HA.fold
          refine HA.pa 20 rfl ?_
          refine HA.all [21] (by kernel_rfl) rfl ⟨⟨_, rfl, ?_⟩, trivial⟩
          refine HO.one ?_
          refine H1.stg rfl rfl (by intro _ h; cases h) (by intro _ h; cases h) rplA (by simp [strs, hlc]; omega) ?_
          apply HA.fold
          refine HA.done (by kernel_rfl) ?_
          rw [hG]
          repeat' (first | apply HL.fold | apply HA.fold | apply HL.nil | apply HX.n_then | apply HC.seq | apply HC.region | refine HL.pa ?_ | refine HL.ga rfl ?_ | refine HL.na rfl ?_ | refine HL.nu rfl rfl ?_ | apply HC.block | apply HC.skip | apply HC.exit | apply HC.ret | apply HX.e_block | refine HX.e_other rfl ?_ | apply HX.e_then | apply HX.e_again | apply HX.n_block | apply HX.r_then | apply HX.r_block | apply HX.r_again | refine HC.cond_yes rfl ?_ | refine HC.cond_no rfl ?_ | refine HL.one (H1.ldb rfl memA rfl rfl ?_) | refine HC.cond rfl (fun hc => ?_) (fun hc => ?_) | refine HC.cond_b rfl (fun hc => ?_) (fun hc => ?_))
          exact HX.cut ((codeL S k n).set q (F.extract 0 (p : Int).toNat ++ mkS 1 (fun _ => c) ++ F.extract ((p : Int) + 1).toNat F.size)) (by rw [List.length_set]; exact hlc) esA (by repeat (first | exact Hs.nil _ | (refine Hs.cons pickA ?_)))
      · refine HO.one ?_
        refine H1.ldg (vs := strs (codeL S k n)) rfl memA hlq rfl ?_
        apply HA.fold
        refine HA.pa 18 rfl ?_
        refine HA.all [9] (by kernel_rfl) rfl ⟨⟨_, rfl, ?_⟩, trivial⟩
        refine HO.one ?_
        refine H1.lit (cs := [u8v c]) rfl rfl rfl rfl rfl rfl (fun b9 => ?_)
        apply HA.fold
        refine HA.all [10] (by kernel_rfl) rfl ⟨⟨_, rfl, ?_⟩, trivial⟩
        refine HO.one ?_
        refine H1.bstr (n := 1) (f := fun _ => c) rfl memD (fun _ _ => hc) rfl ?_
        apply HA.fold
        refine HA.all [11] (by kernel_rfl) rfl ⟨⟨_, rfl, ?_⟩, trivial⟩
        refine HO.one ?_
        refine H1.pa ?_ (by apply POp.cat; rfl; rfl; (rw [ByteArray.size_extract, mkS_size]; omega))
        apply HA.fold
        refine HA.all [19] (by kernel_rfl) rfl ⟨⟨_, rfl, ?_⟩, trivial⟩
        refine HO.one ?_
        refine H1.pa ?_ (by apply POp.cat; rfl; rfl; (rw [ByteArray.size_append, ByteArray.size_extract, ByteArray.size_extract, mkS_size]; omega))
        apply HA.fold
        refine HA.pa 20 rfl ?_
        refine HA.all [21] (by kernel_rfl) rfl ⟨⟨_, rfl, ?_⟩, trivial⟩
        refine HO.one ?_
        refine H1.stg rfl rfl (by intro _ h; cases h) (by intro _ h; cases h) rplA (by simp [strs, hlc]; omega) ?_
        apply HA.fold
        refine HA.done (by kernel_rfl) ?_
        rw [hG]
        repeat' (first | apply HL.fold | apply HA.fold | apply HL.nil | apply HX.n_then | apply HC.seq | apply HC.region | refine HL.pa ?_ | refine HL.ga rfl ?_ | refine HL.na rfl ?_ | refine HL.nu rfl rfl ?_ | apply HC.block | apply HC.skip | apply HC.exit | apply HC.ret | apply HX.e_block | refine HX.e_other rfl ?_ | apply HX.e_then | apply HX.e_again | apply HX.n_block | apply HX.r_then | apply HX.r_block | apply HX.r_again | refine HC.cond_yes rfl ?_ | refine HC.cond_no rfl ?_ | refine HL.one (H1.ldb rfl memA rfl rfl ?_) | refine HC.cond rfl (fun hc => ?_) (fun hc => ?_) | refine HC.cond_b rfl (fun hc => ?_) (fun hc => ?_))
        exact HX.cut ((codeL S k n).set q (F.extract 0 (p : Int).toNat ++ mkS 1 (fun _ => c) ++ F.extract ((p : Int) + 1).toNat F.size)) (by rw [List.length_set]; exact hlc) esA (by repeat (first | exact Hs.nil _ | (refine Hs.cons pickA ?_)))
    · refine HO.one ?_
      refine H1.lit (cs := [u8v c]) rfl rfl rfl rfl rfl rfl (fun b9 => ?_)
      apply HA.fold
      refine HA.all [5, 10, 15] (by kernel_rfl) rfl ⟨⟨_, rfl, ?_⟩, ⟨_, rfl, ?_⟩, ⟨_, rfl, ?_⟩, trivial⟩
      · refine HO.one ?_
        refine H1.ldg (vs := strs (codeL S k n)) rfl memA hlq rfl ?_
        apply HA.fold
        refine HA.pa 7 rfl ?_
        refine HA.all [10, 15] (by kernel_rfl) rfl ⟨⟨_, rfl, ?_⟩, ⟨_, rfl, ?_⟩, trivial⟩
        · refine HO.one ?_
          refine H1.bstr (n := 1) (f := fun _ => c) rfl memD (fun _ _ => hc) rfl ?_
          apply HA.fold
          refine HA.all [11, 15] (by kernel_rfl) rfl ⟨⟨_, rfl, ?_⟩, ⟨_, rfl, ?_⟩, trivial⟩
          · refine HO.one ?_
            refine H1.pa ?_ (by apply POp.cat; rfl; rfl; (rw [ByteArray.size_extract, mkS_size]; omega))
            apply HA.fold
            refine HA.all [15] (by kernel_rfl) rfl ⟨⟨_, rfl, ?_⟩, trivial⟩
            refine HO.one ?_
            refine H1.ldg (vs := strs (codeL S k n)) rfl memA hlq rfl ?_
            apply HA.fold
            refine HA.pa 18 rfl ?_
            refine HA.all [19] (by kernel_rfl) rfl ⟨⟨_, rfl, ?_⟩, trivial⟩
            refine HO.one ?_
            refine H1.pa ?_ (by apply POp.cat; rfl; rfl; (rw [ByteArray.size_append, ByteArray.size_extract, ByteArray.size_extract, mkS_size]; omega))
            apply HA.fold
            refine HA.pa 20 rfl ?_
            refine HA.all [21] (by kernel_rfl) rfl ⟨⟨_, rfl, ?_⟩, trivial⟩
            refine HO.one ?_
            refine H1.stg rfl rfl (by intro _ h; cases h) (by intro _ h; cases h) rplA (by simp [strs, hlc]; omega) ?_
            apply HA.fold
            refine HA.done (by kernel_rfl) ?_
            rw [hG]
            repeat' (first | apply HL.fold | apply HA.fold | apply HL.nil | apply HX.n_then | apply HC.seq | apply HC.region | refine HL.pa ?_ | refine HL.ga rfl ?_ | refine HL.na rfl ?_ | refine HL.nu rfl rfl ?_ | apply HC.block | apply HC.skip | apply HC.exit | apply HC.ret | apply HX.e_block | refine HX.e_other rfl ?_ | apply HX.e_then | apply HX.e_again | apply HX.n_block | apply HX.r_then | apply HX.r_block | apply HX.r_again | refine HC.cond_yes rfl ?_ | refine HC.cond_no rfl ?_ | refine HL.one (H1.ldb rfl memA rfl rfl ?_) | refine HC.cond rfl (fun hc => ?_) (fun hc => ?_) | refine HC.cond_b rfl (fun hc => ?_) (fun hc => ?_))
            exact HX.cut ((codeL S k n).set q (F.extract 0 (p : Int).toNat ++ mkS 1 (fun _ => c) ++ F.extract ((p : Int) + 1).toNat F.size)) (by rw [List.length_set]; exact hlc) esA (by repeat (first | exact Hs.nil _ | (refine Hs.cons pickA ?_)))
          · refine HO.one ?_
            refine H1.ldg (vs := strs (codeL S k n)) rfl memA hlq rfl ?_
            apply HA.fold
            refine HA.pa 18 rfl ?_
            refine HA.all [11] (by kernel_rfl) rfl ⟨⟨_, rfl, ?_⟩, trivial⟩
            refine HO.one ?_
            refine H1.pa ?_ (by apply POp.cat; rfl; rfl; (rw [ByteArray.size_extract, mkS_size]; omega))
            apply HA.fold
            refine HA.all [19] (by kernel_rfl) rfl ⟨⟨_, rfl, ?_⟩, trivial⟩
            refine HO.one ?_
            refine H1.pa ?_ (by apply POp.cat; rfl; rfl; (rw [ByteArray.size_append, ByteArray.size_extract, ByteArray.size_extract, mkS_size]; omega))
            apply HA.fold
            refine HA.pa 20 rfl ?_
            refine HA.all [21] (by kernel_rfl) rfl ⟨⟨_, rfl, ?_⟩, trivial⟩
            refine HO.one ?_
            refine H1.stg rfl rfl (by intro _ h; cases h) (by intro _ h; cases h) rplA (by simp [strs, hlc]; omega) ?_
            apply HA.fold
            refine HA.done (by kernel_rfl) ?_
            rw [hG]
            repeat' (first | apply HL.fold | apply HA.fold | apply HL.nil | apply HX.n_then | apply HC.seq | apply HC.region | refine HL.pa ?_ | refine HL.ga rfl ?_ | refine HL.na rfl ?_ | refine HL.nu rfl rfl ?_ | apply HC.block | apply HC.skip | apply HC.exit | apply HC.ret | apply HX.e_block | refine HX.e_other rfl ?_ | apply HX.e_then | apply HX.e_again | apply HX.n_block | apply HX.r_then | apply HX.r_block | apply HX.r_again | refine HC.cond_yes rfl ?_ | refine HC.cond_no rfl ?_ | refine HL.one (H1.ldb rfl memA rfl rfl ?_) | refine HC.cond rfl (fun hc => ?_) (fun hc => ?_) | refine HC.cond_b rfl (fun hc => ?_) (fun hc => ?_))
            exact HX.cut ((codeL S k n).set q (F.extract 0 (p : Int).toNat ++ mkS 1 (fun _ => c) ++ F.extract ((p : Int) + 1).toNat F.size)) (by rw [List.length_set]; exact hlc) esA (by repeat (first | exact Hs.nil _ | (refine Hs.cons pickA ?_)))
        · refine HO.one ?_
          refine H1.ldg (vs := strs (codeL S k n)) rfl memA hlq rfl ?_
          apply HA.fold
          refine HA.pa 18 rfl ?_
          refine HA.all [10] (by kernel_rfl) rfl ⟨⟨_, rfl, ?_⟩, trivial⟩
          refine HO.one ?_
          refine H1.bstr (n := 1) (f := fun _ => c) rfl memD (fun _ _ => hc) rfl ?_
          apply HA.fold
          refine HA.all [11] (by kernel_rfl) rfl ⟨⟨_, rfl, ?_⟩, trivial⟩
          refine HO.one ?_
          refine H1.pa ?_ (by apply POp.cat; rfl; rfl; (rw [ByteArray.size_extract, mkS_size]; omega))
          apply HA.fold
          refine HA.all [19] (by kernel_rfl) rfl ⟨⟨_, rfl, ?_⟩, trivial⟩
          refine HO.one ?_
          refine H1.pa ?_ (by apply POp.cat; rfl; rfl; (rw [ByteArray.size_append, ByteArray.size_extract, ByteArray.size_extract, mkS_size]; omega))
          apply HA.fold
          refine HA.pa 20 rfl ?_
          refine HA.all [21] (by kernel_rfl) rfl ⟨⟨_, rfl, ?_⟩, trivial⟩
          refine HO.one ?_
          refine H1.stg rfl rfl (by intro _ h; cases h) (by intro _ h; cases h) rplA (by simp [strs, hlc]; omega) ?_
          apply HA.fold
          refine HA.done (by kernel_rfl) ?_
          rw [hG]
          repeat' (first | apply HL.fold | apply HA.fold | apply HL.nil | apply HX.n_then | apply HC.seq | apply HC.region | refine HL.pa ?_ | refine HL.ga rfl ?_ | refine HL.na rfl ?_ | refine HL.nu rfl rfl ?_ | apply HC.block | apply HC.skip | apply HC.exit | apply HC.ret | apply HX.e_block | refine HX.e_other rfl ?_ | apply HX.e_then | apply HX.e_again | apply HX.n_block | apply HX.r_then | apply HX.r_block | apply HX.r_again | refine HC.cond_yes rfl ?_ | refine HC.cond_no rfl ?_ | refine HL.one (H1.ldb rfl memA rfl rfl ?_) | refine HC.cond rfl (fun hc => ?_) (fun hc => ?_) | refine HC.cond_b rfl (fun hc => ?_) (fun hc => ?_))
          exact HX.cut ((codeL S k n).set q (F.extract 0 (p : Int).toNat ++ mkS 1 (fun _ => c) ++ F.extract ((p : Int) + 1).toNat F.size)) (by rw [List.length_set]; exact hlc) esA (by repeat (first | exact Hs.nil _ | (refine Hs.cons pickA ?_)))
      · refine HO.one ?_
        refine H1.bstr (n := 1) (f := fun _ => c) rfl memD (fun _ _ => hc) rfl ?_
        apply HA.fold
        refine HA.all [5, 15] (by kernel_rfl) rfl ⟨⟨_, rfl, ?_⟩, ⟨_, rfl, ?_⟩, trivial⟩
        · refine HO.one ?_
          refine H1.ldg (vs := strs (codeL S k n)) rfl memA hlq rfl ?_
          apply HA.fold
          refine HA.pa 7 rfl ?_
          refine HA.all [11, 15] (by kernel_rfl) rfl ⟨⟨_, rfl, ?_⟩, ⟨_, rfl, ?_⟩, trivial⟩
          · refine HO.one ?_
            refine H1.pa ?_ (by apply POp.cat; rfl; rfl; (rw [ByteArray.size_extract, mkS_size]; omega))
            apply HA.fold
            refine HA.all [15] (by kernel_rfl) rfl ⟨⟨_, rfl, ?_⟩, trivial⟩
            refine HO.one ?_
            refine H1.ldg (vs := strs (codeL S k n)) rfl memA hlq rfl ?_
            apply HA.fold
            refine HA.pa 18 rfl ?_
            refine HA.all [19] (by kernel_rfl) rfl ⟨⟨_, rfl, ?_⟩, trivial⟩
            refine HO.one ?_
            refine H1.pa ?_ (by apply POp.cat; rfl; rfl; (rw [ByteArray.size_append, ByteArray.size_extract, ByteArray.size_extract, mkS_size]; omega))
            apply HA.fold
            refine HA.pa 20 rfl ?_
            refine HA.all [21] (by kernel_rfl) rfl ⟨⟨_, rfl, ?_⟩, trivial⟩
            refine HO.one ?_
            refine H1.stg rfl rfl (by intro _ h; cases h) (by intro _ h; cases h) rplA (by simp [strs, hlc]; omega) ?_
            apply HA.fold
            refine HA.done (by kernel_rfl) ?_
            rw [hG]
            repeat' (first | apply HL.fold | apply HA.fold | apply HL.nil | apply HX.n_then | apply HC.seq | apply HC.region | refine HL.pa ?_ | refine HL.ga rfl ?_ | refine HL.na rfl ?_ | refine HL.nu rfl rfl ?_ | apply HC.block | apply HC.skip | apply HC.exit | apply HC.ret | apply HX.e_block | refine HX.e_other rfl ?_ | apply HX.e_then | apply HX.e_again | apply HX.n_block | apply HX.r_then | apply HX.r_block | apply HX.r_again | refine HC.cond_yes rfl ?_ | refine HC.cond_no rfl ?_ | refine HL.one (H1.ldb rfl memA rfl rfl ?_) | refine HC.cond rfl (fun hc => ?_) (fun hc => ?_) | refine HC.cond_b rfl (fun hc => ?_) (fun hc => ?_))
            exact HX.cut ((codeL S k n).set q (F.extract 0 (p : Int).toNat ++ mkS 1 (fun _ => c) ++ F.extract ((p : Int) + 1).toNat F.size)) (by rw [List.length_set]; exact hlc) esA (by repeat (first | exact Hs.nil _ | (refine Hs.cons pickA ?_)))
          · refine HO.one ?_
            refine H1.ldg (vs := strs (codeL S k n)) rfl memA hlq rfl ?_
            apply HA.fold
            refine HA.pa 18 rfl ?_
            refine HA.all [11] (by kernel_rfl) rfl ⟨⟨_, rfl, ?_⟩, trivial⟩
            refine HO.one ?_
            refine H1.pa ?_ (by apply POp.cat; rfl; rfl; (rw [ByteArray.size_extract, mkS_size]; omega))
            apply HA.fold
            refine HA.all [19] (by kernel_rfl) rfl ⟨⟨_, rfl, ?_⟩, trivial⟩
            refine HO.one ?_
            refine H1.pa ?_ (by apply POp.cat; rfl; rfl; (rw [ByteArray.size_append, ByteArray.size_extract, ByteArray.size_extract, mkS_size]; omega))
            apply HA.fold
            refine HA.pa 20 rfl ?_
            refine HA.all [21] (by kernel_rfl) rfl ⟨⟨_, rfl, ?_⟩, trivial⟩
            refine HO.one ?_
            refine H1.stg rfl rfl (by intro _ h; cases h) (by intro _ h; cases h) rplA (by simp [strs, hlc]; omega) ?_
            apply HA.fold
            refine HA.done (by kernel_rfl) ?_
            rw [hG]
            repeat' (first | apply HL.fold | apply HA.fold | apply HL.nil | apply HX.n_then | apply HC.seq | apply HC.region | refine HL.pa ?_ | refine HL.ga rfl ?_ | refine HL.na rfl ?_ | refine HL.nu rfl rfl ?_ | apply HC.block | apply HC.skip | apply HC.exit | apply HC.ret | apply HX.e_block | refine HX.e_other rfl ?_ | apply HX.e_then | apply HX.e_again | apply HX.n_block | apply HX.r_then | apply HX.r_block | apply HX.r_again | refine HC.cond_yes rfl ?_ | refine HC.cond_no rfl ?_ | refine HL.one (H1.ldb rfl memA rfl rfl ?_) | refine HC.cond rfl (fun hc => ?_) (fun hc => ?_) | refine HC.cond_b rfl (fun hc => ?_) (fun hc => ?_))
            exact HX.cut ((codeL S k n).set q (F.extract 0 (p : Int).toNat ++ mkS 1 (fun _ => c) ++ F.extract ((p : Int) + 1).toNat F.size)) (by rw [List.length_set]; exact hlc) esA (by repeat (first | exact Hs.nil _ | (refine Hs.cons pickA ?_)))
        · refine HO.one ?_
          refine H1.ldg (vs := strs (codeL S k n)) rfl memA hlq rfl ?_
          apply HA.fold
          refine HA.pa 18 rfl ?_
          refine HA.all [5] (by kernel_rfl) rfl ⟨⟨_, rfl, ?_⟩, trivial⟩
          refine HO.one ?_
          refine H1.ldg (vs := strs (codeL S k n)) rfl memA hlq rfl ?_
          apply HA.fold
          refine HA.pa 7 rfl ?_
          refine HA.all [11] (by kernel_rfl) rfl ⟨⟨_, rfl, ?_⟩, trivial⟩
          refine HO.one ?_
          refine H1.pa ?_ (by apply POp.cat; rfl; rfl; (rw [ByteArray.size_extract, mkS_size]; omega))
          apply HA.fold
          refine HA.all [19] (by kernel_rfl) rfl ⟨⟨_, rfl, ?_⟩, trivial⟩
          refine HO.one ?_
          refine H1.pa ?_ (by apply POp.cat; rfl; rfl; (rw [ByteArray.size_append, ByteArray.size_extract, ByteArray.size_extract, mkS_size]; omega))
          apply HA.fold
          refine HA.pa 20 rfl ?_
          refine HA.all [21] (by kernel_rfl) rfl ⟨⟨_, rfl, ?_⟩, trivial⟩
          refine HO.one ?_
          refine H1.stg rfl rfl (by intro _ h; cases h) (by intro _ h; cases h) rplA (by simp [strs, hlc]; omega) ?_
          apply HA.fold
          refine HA.done (by kernel_rfl) ?_
          rw [hG]
          repeat' (first | apply HL.fold | apply HA.fold | apply HL.nil | apply HX.n_then | apply HC.seq | apply HC.region | refine HL.pa ?_ | refine HL.ga rfl ?_ | refine HL.na rfl ?_ | refine HL.nu rfl rfl ?_ | apply HC.block | apply HC.skip | apply HC.exit | apply HC.ret | apply HX.e_block | refine HX.e_other rfl ?_ | apply HX.e_then | apply HX.e_again | apply HX.n_block | apply HX.r_then | apply HX.r_block | apply HX.r_again | refine HC.cond_yes rfl ?_ | refine HC.cond_no rfl ?_ | refine HL.one (H1.ldb rfl memA rfl rfl ?_) | refine HC.cond rfl (fun hc => ?_) (fun hc => ?_) | refine HC.cond_b rfl (fun hc => ?_) (fun hc => ?_))
          exact HX.cut ((codeL S k n).set q (F.extract 0 (p : Int).toNat ++ mkS 1 (fun _ => c) ++ F.extract ((p : Int) + 1).toNat F.size)) (by rw [List.length_set]; exact hlc) esA (by repeat (first | exact Hs.nil _ | (refine Hs.cons pickA ?_)))
      · refine HO.one ?_
        refine H1.ldg (vs := strs (codeL S k n)) rfl memA hlq rfl ?_
        apply HA.fold
        refine HA.pa 18 rfl ?_
        refine HA.all [5, 10] (by kernel_rfl) rfl ⟨⟨_, rfl, ?_⟩, ⟨_, rfl, ?_⟩, trivial⟩
        · refine HO.one ?_
          refine H1.ldg (vs := strs (codeL S k n)) rfl memA hlq rfl ?_
          apply HA.fold
          refine HA.pa 7 rfl ?_
          refine HA.all [10] (by kernel_rfl) rfl ⟨⟨_, rfl, ?_⟩, trivial⟩
          refine HO.one ?_
          refine H1.bstr (n := 1) (f := fun _ => c) rfl memD (fun _ _ => hc) rfl ?_
          apply HA.fold
          refine HA.all [11] (by kernel_rfl) rfl ⟨⟨_, rfl, ?_⟩, trivial⟩
          refine HO.one ?_
          refine H1.pa ?_ (by apply POp.cat; rfl; rfl; (rw [ByteArray.size_extract, mkS_size]; omega))
          apply HA.fold
          refine HA.all [19] (by kernel_rfl) rfl ⟨⟨_, rfl, ?_⟩, trivial⟩
          refine HO.one ?_
          refine H1.pa ?_ (by apply POp.cat; rfl; rfl; (rw [ByteArray.size_append, ByteArray.size_extract, ByteArray.size_extract, mkS_size]; omega))
          apply HA.fold
          refine HA.pa 20 rfl ?_
          refine HA.all [21] (by kernel_rfl) rfl ⟨⟨_, rfl, ?_⟩, trivial⟩
          refine HO.one ?_
          refine H1.stg rfl rfl (by intro _ h; cases h) (by intro _ h; cases h) rplA (by simp [strs, hlc]; omega) ?_
          apply HA.fold
          refine HA.done (by kernel_rfl) ?_
          rw [hG]
          repeat' (first | apply HL.fold | apply HA.fold | apply HL.nil | apply HX.n_then | apply HC.seq | apply HC.region | refine HL.pa ?_ | refine HL.ga rfl ?_ | refine HL.na rfl ?_ | refine HL.nu rfl rfl ?_ | apply HC.block | apply HC.skip | apply HC.exit | apply HC.ret | apply HX.e_block | refine HX.e_other rfl ?_ | apply HX.e_then | apply HX.e_again | apply HX.n_block | apply HX.r_then | apply HX.r_block | apply HX.r_again | refine HC.cond_yes rfl ?_ | refine HC.cond_no rfl ?_ | refine HL.one (H1.ldb rfl memA rfl rfl ?_) | refine HC.cond rfl (fun hc => ?_) (fun hc => ?_) | refine HC.cond_b rfl (fun hc => ?_) (fun hc => ?_))
          exact HX.cut ((codeL S k n).set q (F.extract 0 (p : Int).toNat ++ mkS 1 (fun _ => c) ++ F.extract ((p : Int) + 1).toNat F.size)) (by rw [List.length_set]; exact hlc) esA (by repeat (first | exact Hs.nil _ | (refine Hs.cons pickA ?_)))
        · refine HO.one ?_
          refine H1.bstr (n := 1) (f := fun _ => c) rfl memD (fun _ _ => hc) rfl ?_
          apply HA.fold
          refine HA.all [5] (by kernel_rfl) rfl ⟨⟨_, rfl, ?_⟩, trivial⟩
          refine HO.one ?_
          refine H1.ldg (vs := strs (codeL S k n)) rfl memA hlq rfl ?_
          apply HA.fold
          refine HA.pa 7 rfl ?_
          refine HA.all [11] (by kernel_rfl) rfl ⟨⟨_, rfl, ?_⟩, trivial⟩
          refine HO.one ?_
          refine H1.pa ?_ (by apply POp.cat; rfl; rfl; (rw [ByteArray.size_extract, mkS_size]; omega))
          apply HA.fold
          refine HA.all [19] (by kernel_rfl) rfl ⟨⟨_, rfl, ?_⟩, trivial⟩
          refine HO.one ?_
          refine H1.pa ?_ (by apply POp.cat; rfl; rfl; (rw [ByteArray.size_append, ByteArray.size_extract, ByteArray.size_extract, mkS_size]; omega))
          apply HA.fold
          refine HA.pa 20 rfl ?_
          refine HA.all [21] (by kernel_rfl) rfl ⟨⟨_, rfl, ?_⟩, trivial⟩
          refine HO.one ?_
          refine H1.stg rfl rfl (by intro _ h; cases h) (by intro _ h; cases h) rplA (by simp [strs, hlc]; omega) ?_
          apply HA.fold
          refine HA.done (by kernel_rfl) ?_
          rw [hG]
          repeat' (first | apply HL.fold | apply HA.fold | apply HL.nil | apply HX.n_then | apply HC.seq | apply HC.region | refine HL.pa ?_ | refine HL.ga rfl ?_ | refine HL.na rfl ?_ | refine HL.nu rfl rfl ?_ | apply HC.block | apply HC.skip | apply HC.exit | apply HC.ret | apply HX.e_block | refine HX.e_other rfl ?_ | apply HX.e_then | apply HX.e_again | apply HX.n_block | apply HX.r_then | apply HX.r_block | apply HX.r_again | refine HC.cond_yes rfl ?_ | refine HC.cond_no rfl ?_ | refine HL.one (H1.ldb rfl memA rfl rfl ?_) | refine HC.cond rfl (fun hc => ?_) (fun hc => ?_) | refine HC.cond_b rfl (fun hc => ?_) (fun hc => ?_))
          exact HX.cut ((codeL S k n).set q (F.extract 0 (p : Int).toNat ++ mkS 1 (fun _ => c) ++ F.extract ((p : Int) + 1).toNat F.size)) (by rw [List.length_set]; exact hlc) esA (by repeat (first | exact Hs.nil _ | (refine Hs.cons pickA ?_)))
    · refine HO.one ?_
      refine H1.ldg (vs := strs (codeL S k n)) rfl memA hlq rfl ?_
      apply HA.fold
      refine HA.pa 18 rfl ?_
      refine HA.all [5, 9] (by kernel_rfl) rfl ⟨⟨_, rfl, ?_⟩, ⟨_, rfl, ?_⟩, trivial⟩
      · refine HO.one ?_
        refine H1.ldg (vs := strs (codeL S k n)) rfl memA hlq rfl ?_
        apply HA.fold
        refine HA.pa 7 rfl ?_
        refine HA.all [9] (by kernel_rfl) rfl ⟨⟨_, rfl, ?_⟩, trivial⟩
        refine HO.one ?_
        refine H1.lit (cs := [u8v c]) rfl rfl rfl rfl rfl rfl (fun b9 => ?_)
        apply HA.fold
        refine HA.all [10] (by kernel_rfl) rfl ⟨⟨_, rfl, ?_⟩, trivial⟩
        refine HO.one ?_
        refine H1.bstr (n := 1) (f := fun _ => c) rfl memD (fun _ _ => hc) rfl ?_
        apply HA.fold
        refine HA.all [11] (by kernel_rfl) rfl ⟨⟨_, rfl, ?_⟩, trivial⟩
        refine HO.one ?_
        refine H1.pa ?_ (by apply POp.cat; rfl; rfl; (rw [ByteArray.size_extract, mkS_size]; omega))
        apply HA.fold
        refine HA.all [19] (by kernel_rfl) rfl ⟨⟨_, rfl, ?_⟩, trivial⟩
        refine HO.one ?_
        refine H1.pa ?_ (by apply POp.cat; rfl; rfl; (rw [ByteArray.size_append, ByteArray.size_extract, ByteArray.size_extract, mkS_size]; omega))
        apply HA.fold
        refine HA.pa 20 rfl ?_
        refine HA.all [21] (by kernel_rfl) rfl ⟨⟨_, rfl, ?_⟩, trivial⟩
        refine HO.one ?_
        refine H1.stg rfl rfl (by intro _ h; cases h) (by intro _ h; cases h) rplA (by simp [strs, hlc]; omega) ?_
        apply HA.fold
        refine HA.done (by kernel_rfl) ?_
        rw [hG]
        repeat' (first | apply HL.fold | apply HA.fold | apply HL.nil | apply HX.n_then | apply HC.seq | apply HC.region | refine HL.pa ?_ | refine HL.ga rfl ?_ | refine HL.na rfl ?_ | refine HL.nu rfl rfl ?_ | apply HC.block | apply HC.skip | apply HC.exit | apply HC.ret | apply HX.e_block | refine HX.e_other rfl ?_ | apply HX.e_then | apply HX.e_again | apply HX.n_block | apply HX.r_then | apply HX.r_block | apply HX.r_again | refine HC.cond_yes rfl ?_ | refine HC.cond_no rfl ?_ | refine HL.one (H1.ldb rfl memA rfl rfl ?_) | refine HC.cond rfl (fun hc => ?_) (fun hc => ?_) | refine HC.cond_b rfl (fun hc => ?_) (fun hc => ?_))
        exact HX.cut ((codeL S k n).set q (F.extract 0 (p : Int).toNat ++ mkS 1 (fun _ => c) ++ F.extract ((p : Int) + 1).toNat F.size)) (by rw [List.length_set]; exact hlc) esA (by repeat (first | exact Hs.nil _ | (refine Hs.cons pickA ?_)))
      · refine HO.one ?_
        refine H1.lit (cs := [u8v c]) rfl rfl rfl rfl rfl rfl (fun b9 => ?_)
        apply HA.fold
        refine HA.all [5, 10] (by kernel_rfl) rfl ⟨⟨_, rfl, ?_⟩, ⟨_, rfl, ?_⟩, trivial⟩
        · refine HO.one ?_
          refine H1.ldg (vs := strs (codeL S k n)) rfl memA hlq rfl ?_
          apply HA.fold
          refine HA.pa 7 rfl ?_
          refine HA.all [10] (by kernel_rfl) rfl ⟨⟨_, rfl, ?_⟩, trivial⟩
          refine HO.one ?_
          refine H1.bstr (n := 1) (f := fun _ => c) rfl memD (fun _ _ => hc) rfl ?_
          apply HA.fold
          refine HA.all [11] (by kernel_rfl) rfl ⟨⟨_, rfl, ?_⟩, trivial⟩
          refine HO.one ?_
          refine H1.pa ?_ (by apply POp.cat; rfl; rfl; (rw [ByteArray.size_extract, mkS_size]; omega))
          apply HA.fold
          refine HA.all [19] (by kernel_rfl) rfl ⟨⟨_, rfl, ?_⟩, trivial⟩
          refine HO.one ?_
          refine H1.pa ?_ (by apply POp.cat; rfl; rfl; (rw [ByteArray.size_append, ByteArray.size_extract, ByteArray.size_extract, mkS_size]; omega))
          apply HA.fold
          refine HA.pa 20 rfl ?_
          refine HA.all [21] (by kernel_rfl) rfl ⟨⟨_, rfl, ?_⟩, trivial⟩
          refine HO.one ?_
          refine H1.stg rfl rfl (by intro _ h; cases h) (by intro _ h; cases h) rplA (by simp [strs, hlc]; omega) ?_
          apply HA.fold
          refine HA.done (by kernel_rfl) ?_
          rw [hG]
          repeat' (first | apply HL.fold | apply HA.fold | apply HL.nil | apply HX.n_then | apply HC.seq | apply HC.region | refine HL.pa ?_ | refine HL.ga rfl ?_ | refine HL.na rfl ?_ | refine HL.nu rfl rfl ?_ | apply HC.block | apply HC.skip | apply HC.exit | apply HC.ret | apply HX.e_block | refine HX.e_other rfl ?_ | apply HX.e_then | apply HX.e_again | apply HX.n_block | apply HX.r_then | apply HX.r_block | apply HX.r_again | refine HC.cond_yes rfl ?_ | refine HC.cond_no rfl ?_ | refine HL.one (H1.ldb rfl memA rfl rfl ?_) | refine HC.cond rfl (fun hc => ?_) (fun hc => ?_) | refine HC.cond_b rfl (fun hc => ?_) (fun hc => ?_))
          exact HX.cut ((codeL S k n).set q (F.extract 0 (p : Int).toNat ++ mkS 1 (fun _ => c) ++ F.extract ((p : Int) + 1).toNat F.size)) (by rw [List.length_set]; exact hlc) esA (by repeat (first | exact Hs.nil _ | (refine Hs.cons pickA ?_)))
        · refine HO.one ?_
          refine H1.bstr (n := 1) (f := fun _ => c) rfl memD (fun _ _ => hc) rfl ?_
          apply HA.fold
          refine HA.all [5] (by kernel_rfl) rfl ⟨⟨_, rfl, ?_⟩, trivial⟩
          refine HO.one ?_
          refine H1.ldg (vs := strs (codeL S k n)) rfl memA hlq rfl ?_
          apply HA.fold
          refine HA.pa 7 rfl ?_
          refine HA.all [11] (by kernel_rfl) rfl ⟨⟨_, rfl, ?_⟩, trivial⟩
          refine HO.one ?_
          refine H1.pa ?_ (by apply POp.cat; rfl; rfl; (rw [ByteArray.size_extract, mkS_size]; omega))
          apply HA.fold
          refine HA.all [19] (by kernel_rfl) rfl ⟨⟨_, rfl, ?_⟩, trivial⟩
          refine HO.one ?_
          refine H1.pa ?_ (by apply POp.cat; rfl; rfl; (rw [ByteArray.size_append, ByteArray.size_extract, ByteArray.size_extract, mkS_size]; omega))
          apply HA.fold
          refine HA.pa 20 rfl ?_
          refine HA.all [21] (by kernel_rfl) rfl ⟨⟨_, rfl, ?_⟩, trivial⟩
          refine HO.one ?_
          refine H1.stg rfl rfl (by intro _ h; cases h) (by intro _ h; cases h) rplA (by simp [strs, hlc]; omega) ?_
          apply HA.fold
          refine HA.done (by kernel_rfl) ?_
          rw [hG]
          repeat' (first | apply HL.fold | apply HA.fold | apply HL.nil | apply HX.n_then | apply HC.seq | apply HC.region | refine HL.pa ?_ | refine HL.ga rfl ?_ | refine HL.na rfl ?_ | refine HL.nu rfl rfl ?_ | apply HC.block | apply HC.skip | apply HC.exit | apply HC.ret | apply HX.e_block | refine HX.e_other rfl ?_ | apply HX.e_then | apply HX.e_again | apply HX.n_block | apply HX.r_then | apply HX.r_block | apply HX.r_again | refine HC.cond_yes rfl ?_ | refine HC.cond_no rfl ?_ | refine HL.one (H1.ldb rfl memA rfl rfl ?_) | refine HC.cond rfl (fun hc => ?_) (fun hc => ?_) | refine HC.cond_b rfl (fun hc => ?_) (fun hc => ?_))
          exact HX.cut ((codeL S k n).set q (F.extract 0 (p : Int).toNat ++ mkS 1 (fun _ => c) ++ F.extract ((p : Int) + 1).toNat F.size)) (by rw [List.length_set]; exact hlc) esA (by repeat (first | exact Hs.nil _ | (refine Hs.cons pickA ?_)))
  rintro z hzl
  repeat' (first | apply HL.fold | apply HA.fold | apply HL.nil | apply HX.n_then | apply HC.seq | apply HC.region | refine HL.pa ?_ | refine HL.ga rfl ?_ | refine HL.na rfl ?_ | refine HL.nu rfl rfl ?_ | apply HC.block | apply HC.skip | apply HC.exit | apply HC.ret | apply HX.e_block | refine HX.e_other rfl ?_ | apply HX.e_then | apply HX.e_again | apply HX.n_block | apply HX.r_then | apply HX.r_block | apply HX.r_again | refine HC.cond_yes rfl ?_ | refine HC.cond_no rfl ?_ | refine HL.one (H1.ldb rfl memA rfl rfl ?_) | refine HC.cond rfl (fun hc => ?_) (fun hc => ?_) | refine HC.cond_b rfl (fun hc => ?_) (fun hc => ?_))
  obtain ⟨sh, hsh⟩ : ∃ sh : Nat → List ByteArray, sh = fun i => (raw.take i).map fun x => x.extract 0 (min (x.size : Int) 60).toNat := ⟨_, rfl⟩
  have hsh0 : strs (sh 0) = [] := by rw [hsh]; rfl
  have hshl : ∀ i, i ≤ raw.length → (sh i).length = i := fun i hi => by rw [hsh]; simp; omega
  have hshs : ∀ i, i < raw.length → strs (sh i) ++ [.string ((fr raw i).extract 0 (min ((fr raw i).size : Int) 60).toNat)] = strs (sh (i + 1)) := fun i hi => by
    rw [hsh]
    dsimp only
    rw [List.take_add_one, List.getElem?_eq_getElem hi, List.map_append]
    simp [strs, fr, hi]
  clear hsh
  refine HC.grow0 9 1 ?_
  refine HC.loop (α := Nat × Option Addr × Nat) (fun z => [(1, .slice ar raw.length cr), (2, .int .i64 which), (3, .int .i64 length), (13, .bool true), (14, .string S), (15, iv k), (16, iv n), (17, .slice (some ⟨bt, offt, none⟩) n ct), (24, .slice (some ⟨bl, 0, none⟩) n cl), (26, .slice (some ⟨bg, 0, none⟩) n cg), (27, iv q), (29, .slice z.2.1 z.1 z.2.2), (30, iv z.1)])
    (fun y => [A.grow 9 1 y.2.1 y.2.2 y.1 (strs (sh y.1)), A.grow 9 1 (some ⟨bg, 0, none⟩) cg n (strs z), A.grow 9 1 (some ⟨bl, 0, none⟩) cl n (strs (codeL S k n))]) (fun z => z.1 ≤ raw.length ∧ z.1 ≤ 10) (fun z => 10 - z.1) (0, none, 0) ⟨Nat.zero_le _, Nat.zero_le _⟩ esA (by rw [hsh0]; repeat (first | exact Hs.nil _ | (refine Hs.cons pickA ?_))) ?_
  rintro ⟨i, a, ca⟩ ⟨hi1, hi2⟩
  dsimp only at hi1 hi2 ⊢
  by_cases hlt : i < raw.length ∧ i < 10
  · obtain ⟨hl1, hl2⟩ := hlt
    have hl1' : (i : Int) < (raw.length : Int) := by omega
    obtain ⟨br, offr, c2, e1, -, -, -⟩ := hR3.at (by intro e; rw [e] at hlr; simp at hlr; omega)
    obtain rfl := (Value.slice.inj e1).1
    have hci := hR3.cell (strs_get hl1)
    have hrs : (fr raw i).size ≤ 9223372036854775807 := hraw _ (by unfold fr; rw [List.getD_eq_getElem?_getD, List.getElem?_eq_getElem hl1]; exact List.getElem_mem hl1)
    have hshi := hshs i hl1
    generalize fr raw i = F at *
    repeat' (first | apply HL.fold | apply HA.fold | apply HL.nil | apply HX.n_then | apply HC.seq | apply HC.region | refine HL.pa ?_ | refine HL.ga rfl ?_ | refine HL.na rfl ?_ | refine HL.nu rfl rfl ?_ | apply HC.block | apply HC.skip | apply HC.exit | apply HC.ret | apply HX.e_block | refine HX.e_other rfl ?_ | apply HX.e_then | apply HX.e_again | apply HX.n_block | apply HX.r_then | apply HX.r_block | apply HX.r_again | refine HC.cond_yes rfl ?_ | refine HC.cond_no rfl ?_ | refine HL.one (H1.ldb rfl memA rfl rfl ?_) | refine HC.cond rfl (fun hc => ?_) (fun hc => ?_) | refine HC.cond_b rfl (fun hc => ?_) (fun hc => ?_))
    refine HC.any rfl ?_
    refine HA.pa 0 rfl ?_
    refine HA.pa 1 rfl ?_
    refine HA.pa 2 rfl ?_
    refine HA.pa 3 rfl ?_
    refine HA.pa 5 rfl ?_
    refine HA.pa 6 rfl ?_
    refine HA.pa 7 rfl ?_
    refine HA.all [4, 8] (by kernel_rfl) rfl ⟨⟨_, rfl, ?_⟩, ⟨_, rfl, ?_⟩, trivial⟩
    · refine HO.one ?_
      refine H1.ld0 rfl hci rfl ?_
      apply HA.fold
      refine HA.all [8] (by kernel_rfl) rfl ⟨⟨_, rfl, ?_⟩, trivial⟩
      refine HO.one ?_
      refine H1.ld0 rfl hci rfl ?_
      apply HA.fold
      refine HA.pa 9 rfl ?_
      refine HA.pa 10 rfl ?_
      refine HA.pa 11 rfl ?_
      refine HA.all [12] (by kernel_rfl) rfl ⟨⟨_, rfl, ?_⟩, trivial⟩
      refine HO.one ?_
      refine H1.lit (cs := [.string (F.extract 0 (min (F.size : Int) 60).toNat)]) rfl rfl rfl rfl rfl rfl (fun b9 => ?_)
      apply HA.fold
      refine HA.all [13] (by kernel_rfl) rfl ⟨⟨_, rfl, ?_⟩, trivial⟩
      refine HO.one ?_
      refine H1.app1 (u := .string (F.extract 0 (min (F.size : Int) 60).toNat)) rfl rfl (fun _ _ => by first | ((repeat (first | with_reducible exact Rpl.here | with_reducible apply Rpl.there)); done) | (repeat (first | exact Rpl.here | apply Rpl.there))) memA rfl rfl (by omega) rfl rfl (fun a' c' => ?_)
      apply HA.fold
      refine HA.pa 14 rfl ?_
      refine HA.done (by kernel_rfl) ?_
      rw [hshi]
      repeat' (first | apply HL.fold | apply HA.fold | apply HL.nil | apply HX.n_then | apply HC.seq | apply HC.region | refine HL.pa ?_ | refine HL.ga rfl ?_ | refine HL.na rfl ?_ | refine HL.nu rfl rfl ?_ | apply HC.block | apply HC.skip | apply HC.exit | apply HC.ret | apply HX.e_block | refine HX.e_other rfl ?_ | apply HX.e_then | apply HX.e_again | apply HX.n_block | apply HX.r_then | apply HX.r_block | apply HX.r_again | refine HC.cond_yes rfl ?_ | refine HC.cond_no rfl ?_ | refine HL.one (H1.ldb rfl memA rfl rfl ?_) | refine HC.cond rfl (fun hc => ?_) (fun hc => ?_) | refine HC.cond_b rfl (fun hc => ?_) (fun hc => ?_))
      exact HX.again (i + 1, some ⟨a', 0, none⟩, c') ⟨by show i + 1 ≤ raw.length; omega, by show i + 1 ≤ 10; omega⟩ (by show 10 - (i + 1) < 10 - i; omega) esA (by repeat (first | exact Hs.nil _ | (refine Hs.cons pickA ?_)))
    · refine HO.one ?_
      refine H1.ld0 rfl hci rfl ?_
      apply HA.fold
      refine HA.pa 9 rfl ?_
      refine HA.pa 10 rfl ?_
      refine HA.all [4] (by kernel_rfl) rfl ⟨⟨_, rfl, ?_⟩, trivial⟩
      refine HO.one ?_
      refine H1.ld0 rfl hci rfl ?_
      apply HA.fold
      refine HA.pa 11 rfl ?_
      refine HA.all [12] (by kernel_rfl) rfl ⟨⟨_, rfl, ?_⟩, trivial⟩
      refine HO.one ?_
      refine H1.lit (cs := [.string (F.extract 0 (min (F.size : Int) 60).toNat)]) rfl rfl rfl rfl rfl rfl (fun b9 => ?_)
      apply HA.fold
      refine HA.all [13] (by kernel_rfl) rfl ⟨⟨_, rfl, ?_⟩, trivial⟩
      refine HO.one ?_
      refine H1.app1 (u := .string (F.extract 0 (min (F.size : Int) 60).toNat)) rfl rfl (fun _ _ => by first | ((repeat (first | with_reducible exact Rpl.here | with_reducible apply Rpl.there)); done) | (repeat (first | exact Rpl.here | apply Rpl.there))) memA rfl rfl (by omega) rfl rfl (fun a' c' => ?_)
      apply HA.fold
      refine HA.pa 14 rfl ?_
      refine HA.done (by kernel_rfl) ?_
      rw [hshi]
      repeat' (first | apply HL.fold | apply HA.fold | apply HL.nil | apply HX.n_then | apply HC.seq | apply HC.region | refine HL.pa ?_ | refine HL.ga rfl ?_ | refine HL.na rfl ?_ | refine HL.nu rfl rfl ?_ | apply HC.block | apply HC.skip | apply HC.exit | apply HC.ret | apply HX.e_block | refine HX.e_other rfl ?_ | apply HX.e_then | apply HX.e_again | apply HX.n_block | apply HX.r_then | apply HX.r_block | apply HX.r_again | refine HC.cond_yes rfl ?_ | refine HC.cond_no rfl ?_ | refine HL.one (H1.ldb rfl memA rfl rfl ?_) | refine HC.cond rfl (fun hc => ?_) (fun hc => ?_) | refine HC.cond_b rfl (fun hc => ?_) (fun hc => ?_))
      exact HX.again (i + 1, some ⟨a', 0, none⟩, c') ⟨by show i + 1 ≤ raw.length; omega, by show i + 1 ≤ 10; omega⟩ (by show 10 - (i + 1) < 10 - i; omega) esA (by repeat (first | exact Hs.nil _ | (refine Hs.cons pickA ?_)))
  refine HC.seq ?_
  refine HC.seq ?_
  refine HC.cut (α := Unit) (fun _ => [(2, .int .i64 which), (3, .int .i64 length), (13, .bool true), (14, .string S), (15, iv k), (16, iv n), (17, .slice (some ⟨bt, offt, none⟩) n ct), (24, .slice (some ⟨bl, 0, none⟩) n cl), (26, .slice (some ⟨bg, 0, none⟩) n cg), (27, iv q), (29, .slice a i ca), (149, .bool false)])
    (fun y => [A.grow 9 1 a ca i (strs (sh i)), A.grow 9 1 (some ⟨bg, 0, none⟩) cg n (strs z), A.grow 9 1 (some ⟨bl, 0, none⟩) cl n (strs (codeL S k n))]) (fun _ => True) ?_ ?_
  · by_cases hl1 : i < raw.length
    · have hl1' : (i : Int) < (raw.length : Int) := by omega
      have hl2 : i = 10 := by omega
      subst hl2
      repeat' (first | apply HL.fold | apply HA.fold | apply HL.nil | apply HX.n_then | apply HC.seq | apply HC.region | refine HL.pa ?_ | refine HL.ga rfl ?_ | refine HL.na rfl ?_ | refine HL.nu rfl rfl ?_ | apply HC.block | apply HC.skip | apply HC.exit | apply HC.ret | apply HX.e_block | refine HX.e_other rfl ?_ | apply HX.e_then | apply HX.e_again | apply HX.n_block | apply HX.r_then | apply HX.r_block | apply HX.r_again | refine HC.cond_yes rfl ?_ | refine HC.cond_no rfl ?_ | refine HL.one (H1.ldb rfl memA rfl rfl ?_) | refine HC.cond rfl (fun hc => ?_) (fun hc => ?_) | refine HC.cond_b rfl (fun hc => ?_) (fun hc => ?_))
      exact HX.cut () trivial esA (by repeat (first | exact Hs.nil _ | (refine Hs.cons pickA ?_)))
    · have hl1' : ¬ (i : Int) < (raw.length : Int) := by omega
      repeat' (first | apply HL.fold | apply HA.fold | apply HL.nil | apply HX.n_then | apply HC.seq | apply HC.region | refine HL.pa ?_ | refine HL.ga rfl ?_ | refine HL.na rfl ?_ | refine HL.nu rfl rfl ?_ | apply HC.block | apply HC.skip | apply HC.exit | apply HC.ret | apply HX.e_block | refine HX.e_other rfl ?_ | apply HX.e_then | apply HX.e_again | apply HX.n_block | apply HX.r_then | apply HX.r_block | apply HX.r_again | refine HC.cond_yes rfl ?_ | refine HC.cond_no rfl ?_ | refine HL.one (H1.ldb rfl memA rfl rfl ?_) | refine HC.cond rfl (fun hc => ?_) (fun hc => ?_) | refine HC.cond_b rfl (fun hc => ?_) (fun hc => ?_))
      exact HX.cut () trivial esA (by repeat (first | exact Hs.nil _ | (refine Hs.cons pickA ?_)))
  rintro - -
  have hshn := hshl i hi1
  repeat' (first | apply HL.fold | apply HA.fold | apply HL.nil | apply HX.n_then | apply HC.seq | apply HC.region | refine HL.pa ?_ | refine HL.ga rfl ?_ | refine HL.na rfl ?_ | refine HL.nu rfl rfl ?_ | apply HC.block | apply HC.skip | apply HC.exit | apply HC.ret | apply HX.e_block | refine HX.e_other rfl ?_ | apply HX.e_then | apply HX.e_again | apply HX.n_block | apply HX.r_then | apply HX.r_block | apply HX.r_again | refine HC.cond_yes rfl ?_ | refine HC.cond_no rfl ?_ | refine HL.one (H1.ldb rfl memA rfl rfl ?_) | refine HC.cond rfl (fun hc => ?_) (fun hc => ?_) | refine HC.cond_b rfl (fun hc => ?_) (fun hc => ?_))
  refine HL.rebase fun w4 hM4 => ?_
  have hE4 := hM4.ext
  have hr4 := hr3.ext hE4
  have hT4 := hRt.ext hE4
  have hA0 : Rd w4 (.slice (some ⟨bl, 0, none⟩) n cl) (strs (codeL S k n)) := hM4.gr memD
  have hA1 : Rd w4 (.slice (some ⟨bg, 0, none⟩) n cg) (strs z) := hM4.gr memD
  have hA2 : Rd w4 (.slice a i ca) (strs (sh i)) := hM4.gr memD
  clear hM4
  refine HL.one (H1.lit (cs := [.slice (some ⟨bl, 0, none⟩) n cl, .slice (some ⟨bg, 0, none⟩) n cg, .slice a i ca]) rfl rfl rfl rfl rfl rfl (fun bY => ?_))
  repeat' (first | apply HL.fold | apply HA.fold | apply HL.nil | apply HX.n_then | apply HC.seq | apply HC.region | refine HL.pa ?_ | refine HL.ga rfl ?_ | refine HL.na rfl ?_ | refine HL.nu rfl rfl ?_ | apply HC.block | apply HC.skip | apply HC.exit | apply HC.ret | apply HX.e_block | refine HX.e_other rfl ?_ | apply HX.e_then | apply HX.e_again | apply HX.n_block | apply HX.r_then | apply HX.r_block | apply HX.r_again | refine HC.cond_yes rfl ?_ | refine HC.cond_no rfl ?_ | refine HL.one (H1.ldb rfl memA rfl rfl ?_) | refine HC.cond rfl (fun hc => ?_) (fun hc => ?_) | refine HC.cond_b rfl (fun hc => ?_) (fun hc => ?_))
  refine HC.loop (α := Nat) (fun i => [(2, .int .i64 which), (3, .int .i64 length), (13, .bool true), (14, .string S), (15, iv k), (17, .slice (some ⟨bt, offt, none⟩) n ct), (27, iv q), (169, .slice (some ⟨bY, 0, none⟩) 3 3), (170, .int .i64 3), (171, iv i)])
    (fun _ => [A.blk bY [.slice (some ⟨bl, 0, none⟩) n cl, .slice (some ⟨bg, 0, none⟩) n cg, .slice a i ca] 24]) (fun i => i ≤ 3) (fun i => 3 - i) 0 (Nat.zero_le _) esA (by repeat (first | exact Hs.nil _ | (refine Hs.cons pickA ?_))) ?_
  intro y hy
  by_cases hlt3 : y < 3
  rotate_left
  · obtain rfl : y = 3 := by omega
    repeat' (first | apply HL.fold | apply HA.fold | apply HL.nil | apply HX.n_then | apply HC.seq | apply HC.region | refine HL.pa ?_ | refine HL.ga rfl ?_ | refine HL.na rfl ?_ | refine HL.nu rfl rfl ?_ | apply HC.block | apply HC.skip | apply HC.exit | apply HC.ret | apply HX.e_block | refine HX.e_other rfl ?_ | apply HX.e_then | apply HX.e_again | apply HX.n_block | apply HX.r_then | apply HX.r_block | apply HX.r_again | refine HC.cond_yes rfl ?_ | refine HC.cond_no rfl ?_ | refine HL.one (H1.ldb rfl memA rfl rfl ?_) | refine HC.cond rfl (fun hc => ?_) (fun hc => ?_) | refine HC.cond_b rfl (fun hc => ?_) (fun hc => ?_))
    exact HX.ret1 rfl rfl fun w' hM => ⟨rfl, x03.trans (hE4.trans hM.ext)⟩
  obtain ⟨vy, fy, hvy, hRy, hfy⟩ : ∃ (vy : Value) (fy : List ByteArray), ([.slice (some ⟨bl, 0, none⟩) n cl, .slice (some ⟨bg, 0, none⟩) n cg, .slice a i ca] : List Value)[y]? = some vy ∧ Rd w4 vy (strs fy) ∧ fy.length ≤ 100 := by
    rcases (show y = 0 ∨ y = 1 ∨ y = 2 by omega) with rfl | rfl | rfl
    · exact ⟨_, _, rfl, hA0, by omega⟩
    · exact ⟨_, _, rfl, hA1, by omega⟩
    · exact ⟨_, _, rfl, hA2, by omega⟩
  have hthl : th.length ≤ 100 := by omega
  repeat' (first | apply HL.fold | apply HA.fold | apply HL.nil | apply HX.n_then | apply HC.seq | apply HC.region | refine HL.pa ?_ | refine HL.ga rfl ?_ | refine HL.na rfl ?_ | refine HL.nu rfl rfl ?_ | apply HC.block | apply HC.skip | apply HC.exit | apply HC.ret | apply HX.e_block | refine HX.e_other rfl ?_ | apply HX.e_then | apply HX.e_again | apply HX.n_block | apply HX.r_then | apply HX.r_block | apply HX.r_again | refine HC.cond_yes rfl ?_ | refine HC.cond_no rfl ?_ | refine HL.one (H1.ldb rfl memA rfl rfl ?_) | refine HC.cond rfl (fun hc => ?_) (fun hc => ?_) | refine HC.cond_b rfl (fun hc => ?_) (fun hc => ?_))
  refine HL.one (H1.ldb (v := vy) rfl memA hvy rfl ?_)
  repeat' (first | apply HL.fold | apply HA.fold | apply HL.nil | apply HX.n_then | apply HC.seq | apply HC.region | refine HL.pa ?_ | refine HL.ga rfl ?_ | refine HL.na rfl ?_ | refine HL.nu rfl rfl ?_ | apply HC.block | apply HC.skip | apply HC.exit | apply HC.ret | apply HX.e_block | refine HX.e_other rfl ?_ | apply HX.e_then | apply HX.e_again | apply HX.n_block | apply HX.r_then | apply HX.r_block | apply HX.r_again | refine HC.cond_yes rfl ?_ | refine HC.cond_no rfl ?_ | refine HL.one (H1.ldb rfl memA rfl rfl ?_) | refine HC.cond rfl (fun hc => ?_) (fun hc => ?_) | refine HC.cond_b rfl (fun hc => ?_) (fun hc => ?_))
  refine HL.one (H1.lit (cs := [iv S.size, .int .i64 length]) rfl rfl rfl rfl rfl rfl (fun b2 => ?_))
  repeat' (first | apply HL.fold | apply HA.fold | apply HL.nil | apply HX.n_then | apply HC.seq | apply HC.region | refine HL.pa ?_ | refine HL.ga rfl ?_ | refine HL.na rfl ?_ | refine HL.nu rfl rfl ?_ | apply HC.block | apply HC.skip | apply HC.exit | apply HC.ret | apply HX.e_block | refine HX.e_other rfl ?_ | apply HX.e_then | apply HX.e_again | apply HX.n_block | apply HX.r_then | apply HX.r_block | apply HX.r_again | refine HC.cond_yes rfl ?_ | refine HC.cond_no rfl ?_ | refine HL.one (H1.ldb rfl memA rfl rfl ?_) | refine HC.cond rfl (fun hc => ?_) (fun hc => ?_) | refine HC.cond_b rfl (fun hc => ?_) (fun hc => ?_))
  refine HC.loop (α := Nat) (fun j => [(2, .int .i64 which), (3, .int .i64 length), (13, .bool true), (14, .string S), (15, iv k), (17, .slice (some ⟨bt, offt, none⟩) n ct), (27, iv q), (169, .slice (some ⟨bY, 0, none⟩) 3 3), (170, .int .i64 3), (171, iv y), (32, vy), (178, .slice (some ⟨b2, 0, none⟩) 2 2), (179, .int .i64 2), (180, iv j)])
    (fun _ => [A.blk b2 [iv S.size, .int .i64 length] 3, A.blk bY [.slice (some ⟨bl, 0, none⟩) n cl, .slice (some ⟨bg, 0, none⟩) n cg, .slice a i ca] 24]) (fun j => j ≤ 2) (fun j => 2 - j) 0 (Nat.zero_le _) esA (by repeat (first | exact Hs.nil _ | (refine Hs.cons pickA ?_))) ?_
  intro j hj
  by_cases hj2 : j < 2
  · obtain ⟨x, hx, hx1, hx2⟩ : ∃ x : Int, ([iv S.size, .int .i64 length] : List Value)[j]? = some (.int .i64 x) ∧ -9223372036854775808 ≤ x ∧ x ≤ 9223372036854775807 := by
      rcases (show j = 0 ∨ j = 1 by omega) with rfl | rfl
      · exact ⟨_, rfl, by omega, by omega⟩
      · exact ⟨_, rfl, hl.1, hl.2⟩
    repeat' (first | apply HL.fold | apply HA.fold | apply HL.nil | apply HX.n_then | apply HC.seq | apply HC.region | refine HL.pa ?_ | refine HL.ga rfl ?_ | refine HL.na rfl ?_ | refine HL.nu rfl rfl ?_ | apply HC.block | apply HC.skip | apply HC.exit | apply HC.ret | apply HX.e_block | refine HX.e_other rfl ?_ | apply HX.e_then | apply HX.e_again | apply HX.n_block | apply HX.r_then | apply HX.r_block | apply HX.r_again | refine HC.cond_yes rfl ?_ | refine HC.cond_no rfl ?_ | refine HL.one (H1.ldb rfl memA rfl rfl ?_) | refine HC.cond rfl (fun hc => ?_) (fun hc => ?_) | refine HC.cond_b rfl (fun hc => ?_) (fun hc => ?_))
    refine HL.one (H1.ldb (v := .int .i64 x) rfl memA hx rfl ?_)
    repeat' (first | apply HL.fold | apply HA.fold | apply HL.nil | apply HX.n_then | apply HC.seq | apply HC.region | refine HL.pa ?_ | refine HL.ga rfl ?_ | refine HL.na rfl ?_ | refine HL.nu rfl rfl ?_ | apply HC.block | apply HC.skip | apply HC.exit | apply HC.ret | apply HX.e_block | refine HX.e_other rfl ?_ | apply HX.e_then | apply HX.e_again | apply HX.n_block | apply HX.r_then | apply HX.r_block | apply HX.r_again | refine HC.cond_yes rfl ?_ | refine HC.cond_no rfl ?_ | refine HL.one (H1.ldb rfl memA rfl rfl ?_) | refine HC.cond rfl (fun hc => ?_) (fun hc => ?_) | refine HC.cond_b rfl (fun hc => ?_) (fun hc => ?_))
    refine HL.one (H1.callx (vs := [vy, .slice (some ⟨bt, offt, none⟩) n ct, iv k, .int .i64 x]) rfl rfl (fun w' hM => join_any hfy hthl w' (hr4.ext hM.ext) (hRy.ext hM.ext) (hT4.ext hM.ext)) ?_)
    repeat' (first | apply HL.fold | apply HA.fold | apply HL.nil | apply HX.n_then | apply HC.seq | apply HC.region | refine HL.pa ?_ | refine HL.ga rfl ?_ | refine HL.na rfl ?_ | refine HL.nu rfl rfl ?_ | apply HC.block | apply HC.skip | apply HC.exit | apply HC.ret | apply HX.e_block | refine HX.e_other rfl ?_ | apply HX.e_then | apply HX.e_again | apply HX.n_block | apply HX.r_then | apply HX.r_block | apply HX.r_again | refine HC.cond_yes rfl ?_ | refine HC.cond_no rfl ?_ | refine HL.one (H1.ldb rfl memA rfl rfl ?_) | refine HC.cond rfl (fun hc => ?_) (fun hc => ?_) | refine HC.cond_b rfl (fun hc => ?_) (fun hc => ?_))
    refine HL.one (H1.callx (vs := [vy, .slice (some ⟨bt, offt, none⟩) n ct, iv k, .int .i64 x]) rfl rfl (fun w' hM => refJoin_fn _ _ fy th k x ⟨hx1, hx2⟩ hfy hthl w' (hRy.ext hM.ext) (hT4.ext hM.ext)) ?_)
    generalize joinV fy th (k : Int) x = jv at *
    repeat' (first | apply HL.fold | apply HA.fold | apply HL.nil | apply HX.n_then | apply HC.seq | apply HC.region | refine HL.pa ?_ | refine HL.ga rfl ?_ | refine HL.na rfl ?_ | refine HL.nu rfl rfl ?_ | apply HC.block | apply HC.skip | apply HC.exit | apply HC.ret | apply HX.e_block | refine HX.e_other rfl ?_ | apply HX.e_then | apply HX.e_again | apply HX.n_block | apply HX.r_then | apply HX.r_block | apply HX.r_again | refine HC.cond_yes rfl ?_ | refine HC.cond_no rfl ?_ | refine HL.one (H1.ldb rfl memA rfl rfl ?_) | refine HC.cond rfl (fun hc => ?_) (fun hc => ?_) | refine HC.cond_b rfl (fun hc => ?_) (fun hc => ?_))
    exact HX.again (j + 1) (by omega) (by omega) esA (by repeat (first | exact Hs.nil _ | (refine Hs.cons pickA ?_)))
  obtain rfl : j = 2 := by omega
  repeat' (first | apply HL.fold | apply HA.fold | apply HL.nil | apply HX.n_then | apply HC.seq | apply HC.region | refine HL.pa ?_ | refine HL.ga rfl ?_ | refine HL.na rfl ?_ | refine HL.nu rfl rfl ?_ | apply HC.block | apply HC.skip | apply HC.exit | apply HC.ret | apply HX.e_block | refine HX.e_other rfl ?_ | apply HX.e_then | apply HX.e_again | apply HX.n_block | apply HX.r_then | apply HX.r_block | apply HX.r_again | refine HC.cond_yes rfl ?_ | refine HC.cond_no rfl ?_ | refine HL.one (H1.ldb rfl memA rfl rfl ?_) | refine HC.cond rfl (fun hc => ?_) (fun hc => ?_) | refine HC.cond_b rfl (fun hc => ?_) (fun hc => ?_))
  refine HL.one (H1.lit (cs := [iv q, .int .i64 which]) rfl rfl rfl rfl rfl rfl (fun b3 => ?_))
  repeat' (first | apply HL.fold | apply HA.fold | apply HL.nil | apply HX.n_then | apply HC.seq | apply HC.region | refine HL.pa ?_ | refine HL.ga rfl ?_ | refine HL.na rfl ?_ | refine HL.nu rfl rfl ?_ | apply HC.block | apply HC.skip | apply HC.exit | apply HC.ret | apply HX.e_block | refine HX.e_other rfl ?_ | apply HX.e_then | apply HX.e_again | apply HX.n_block | apply HX.r_then | apply HX.r_block | apply HX.r_again | refine HC.cond_yes rfl ?_ | refine HC.cond_no rfl ?_ | refine HL.one (H1.ldb rfl memA rfl rfl ?_) | refine HC.cond rfl (fun hc => ?_) (fun hc => ?_) | refine HC.cond_b rfl (fun hc => ?_) (fun hc => ?_))
  refine HC.loop (α := Nat) (fun j => [(2, .int .i64 which), (3, .int .i64 length), (13, .bool true), (14, .string S), (15, iv k), (17, .slice (some ⟨bt, offt, none⟩) n ct), (27, iv q), (169, .slice (some ⟨bY, 0, none⟩) 3 3), (170, .int .i64 3), (171, iv y), (32, vy), (211, .slice (some ⟨b3, 0, none⟩) 2 2), (212, .int .i64 2), (213, iv j)])
    (fun _ => [A.blk b3 [iv q, .int .i64 which] 3, A.blk bY [.slice (some ⟨bl, 0, none⟩) n cl, .slice (some ⟨bg, 0, none⟩) n cg, .slice a i ca] 24]) (fun j => j ≤ 2) (fun j => 2 - j) 0 (Nat.zero_le _) esA (by repeat (first | exact Hs.nil _ | (refine Hs.cons pickA ?_))) ?_
  intro j hj
  by_cases hj2 : j < 2
  · obtain ⟨x, hx, hx1, hx2⟩ : ∃ x : Int, ([iv q, .int .i64 which] : List Value)[j]? = some (.int .i64 x) ∧ -9223372036854775808 ≤ x ∧ x ≤ 9223372036854775807 := by
      rcases (show j = 0 ∨ j = 1 by omega) with rfl | rfl
      · exact ⟨_, rfl, by omega, by omega⟩
      · exact ⟨_, rfl, hw.1, hw.2⟩
    repeat' (first | apply HL.fold | apply HA.fold | apply HL.nil | apply HX.n_then | apply HC.seq | apply HC.region | refine HL.pa ?_ | refine HL.ga rfl ?_ | refine HL.na rfl ?_ | refine HL.nu rfl rfl ?_ | apply HC.block | apply HC.skip | apply HC.exit | apply HC.ret | apply HX.e_block | refine HX.e_other rfl ?_ | apply HX.e_then | apply HX.e_again | apply HX.n_block | apply HX.r_then | apply HX.r_block | apply HX.r_again | refine HC.cond_yes rfl ?_ | refine HC.cond_no rfl ?_ | refine HL.one (H1.ldb rfl memA rfl rfl ?_) | refine HC.cond rfl (fun hc => ?_) (fun hc => ?_) | refine HC.cond_b rfl (fun hc => ?_) (fun hc => ?_))
    refine HL.one (H1.ldb (v := .int .i64 x) rfl memA hx rfl ?_)
    repeat' (first | apply HL.fold | apply HA.fold | apply HL.nil | apply HX.n_then | apply HC.seq | apply HC.region | refine HL.pa ?_ | refine HL.ga rfl ?_ | refine HL.na rfl ?_ | refine HL.nu rfl rfl ?_ | apply HC.block | apply HC.skip | apply HC.exit | apply HC.ret | apply HX.e_block | refine HX.e_other rfl ?_ | apply HX.e_then | apply HX.e_again | apply HX.n_block | apply HX.r_then | apply HX.r_block | apply HX.r_again | refine HC.cond_yes rfl ?_ | refine HC.cond_no rfl ?_ | refine HL.one (H1.ldb rfl memA rfl rfl ?_) | refine HC.cond rfl (fun hc => ?_) (fun hc => ?_) | refine HC.cond_b rfl (fun hc => ?_) (fun hc => ?_))
    refine HL.one (H1.callx (vs := [vy, .slice (some ⟨bt, offt, none⟩) n ct, iv k, .int .i64 x]) rfl rfl (fun w' hM => frag_any hfy hthl w' (hr4.ext hM.ext) (hRy.ext hM.ext) (hT4.ext hM.ext)) ?_)
    repeat' (first | apply HL.fold | apply HA.fold | apply HL.nil | apply HX.n_then | apply HC.seq | apply HC.region | refine HL.pa ?_ | refine HL.ga rfl ?_ | refine HL.na rfl ?_ | refine HL.nu rfl rfl ?_ | apply HC.block | apply HC.skip | apply HC.exit | apply HC.ret | apply HX.e_block | refine HX.e_other rfl ?_ | apply HX.e_then | apply HX.e_again | apply HX.n_block | apply HX.r_then | apply HX.r_block | apply HX.r_again | refine HC.cond_yes rfl ?_ | refine HC.cond_no rfl ?_ | refine HL.one (H1.ldb rfl memA rfl rfl ?_) | refine HC.cond rfl (fun hc => ?_) (fun hc => ?_) | refine HC.cond_b rfl (fun hc => ?_) (fun hc => ?_))
    refine HL.one (H1.callx (vs := [vy, .slice (some ⟨bt, offt, none⟩) n ct, iv k, .int .i64 x]) rfl rfl (fun w' hM => refFrag_fn _ _ fy th k x ⟨hx1, hx2⟩ hfy hthl w' (hRy.ext hM.ext) (hT4.ext hM.ext)) ?_)
    generalize fragV fy th (k : Int) x = jv at *
    repeat' (first | apply HL.fold | apply HA.fold | apply HL.nil | apply HX.n_then | apply HC.seq | apply HC.region | refine HL.pa ?_ | refine HL.ga rfl ?_ | refine HL.na rfl ?_ | refine HL.nu rfl rfl ?_ | apply HC.block | apply HC.skip | apply HC.exit | apply HC.ret | apply HX.e_block | refine HX.e_other rfl ?_ | apply HX.e_then | apply HX.e_again | apply HX.n_block | apply HX.r_then | apply HX.r_block | apply HX.r_again | refine HC.cond_yes rfl ?_ | refine HC.cond_no rfl ?_ | refine HL.one (H1.ldb rfl memA rfl rfl ?_) | refine HC.cond rfl (fun hc => ?_) (fun hc => ?_) | refine HC.cond_b rfl (fun hc => ?_) (fun hc => ?_))
    exact HX.again (j + 1) (by omega) (by omega) esA (by repeat (first | exact Hs.nil _ | (refine Hs.cons pickA ?_)))
  obtain rfl : j = 2 := by omega
  repeat' (first | apply HL.fold | apply HA.fold | apply HL.nil | apply HX.n_then | apply HC.seq | apply HC.region | refine HL.pa ?_ | refine HL.ga rfl ?_ | refine HL.na rfl ?_ | refine HL.nu rfl rfl ?_ | apply HC.block | apply HC.skip | apply HC.exit | apply HC.ret | apply HX.e_block | refine HX.e_other rfl ?_ | apply HX.e_then | apply HX.e_again | apply HX.n_block | apply HX.r_then | apply HX.r_block | apply HX.r_again | refine HC.cond_yes rfl ?_ | refine HC.cond_no rfl ?_ | refine HL.one (H1.ldb rfl memA rfl rfl ?_) | refine HC.cond rfl (fun hc => ?_) (fun hc => ?_) | refine HC.cond_b rfl (fun hc => ?_) (fun hc => ?_))
  exact HX.again (y + 1) (by omega) (by omega) esA (by repeat (first | exact Hs.nil _ | (refine Hs.cons pickA ?_)))
end Go.Sx

