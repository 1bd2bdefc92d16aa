/- Chapter 17: the law CodeNoticed. -/
import Derived.Test.YtacamanakmeebaaDoorL5
import Derived.Test.YtacamanakmeebaaDoorGN
namespace Go.Sx
open Go Go.Proofs
attribute [local irreducible] WC WL WX POp Then Again Fn NX W1 WA WO QL RP RA Yld LoopAt HC HL HX HN H1 HA HO HQ A.blk A.grow A.rd A.obj AgainH CutH
set_option maxHeartbeats 4000000 in
theorem codeNoticed_fn (s : ByteArray) (K N T which : Int) (vc : Value) (nc : Nat) (x : Nat → Nat → Int) (hw : -9223372036854775808 ≤ which ∧ which ≤ 9223372036854775807) (hx : ∀ i j, -9223372036854775808 ≤ x i j ∧ x i j ≤ 9223372036854775807) (hnc : nc ≤ 9223372036854775807)
    (hK : -9223372036854775808 ≤ K ∧ K ≤ 9223372036854775807) (hN : -9223372036854775808 ≤ N ∧ N ≤ 9223372036854775807) (hT : -9223372036854775808 ≤ T ∧ T ≤ 9223372036854775807) (w : World) (hr : Red w) (hRc : RdK 3 w vc nc x) :
    Fn Tryd.prog 7 #[.agg #[.string s, .int .i64 K, .int .i64 N, .int .i64 T], .int .i64 which, vc] w fun v w' => v = .bool true ∧ Ext w w' := by
  refine enterH (l := [_, _, _]) rfl Tryd.ntmps7 rfl ?_
  repeat' (first
    | apply HL.fold
    | apply HA.fold
    | apply HL.nil
    | apply HX.n_then
    | apply HC.seq
    | apply HC.region
    | refine HL.pa ?_
    | refine HL.ga rfl ?_
    | refine HL.na rfl ?_
    | refine HL.nu rfl rfl ?_
    | apply HC.block
    | apply HC.skip
    | apply HC.exit
    | apply HC.ret
    | apply HX.e_block
    | refine HX.e_other rfl ?_
    | apply HX.e_then
    | apply HX.e_again
    | apply HX.n_block
    | apply HX.r_then
    | apply HX.r_block
    | apply HX.r_again
    | refine HC.cond_yes rfl ?_
    | refine HC.cond_no rfl ?_
    | refine HL.one (H1.ldb rfl (by first | ((repeat (first | with_reducible exact mem_hd | with_reducible apply mem_tl)); done) | (repeat (first | exact List.Mem.head _ | apply List.Mem.tail))) rfl rfl ?_)
    | refine HC.cond rfl (fun hc => ?_) (fun hc => ?_)
    | refine HC.cond_b rfl (fun hc => ?_) (fun hc => ?_))
  refine HL.one (H1.boxAgg (cs := [.string s, .int .i64 K, .int .i64 N, .int .i64 T]) rfl rfl (fun b1 => ?_))
  repeat' (first
    | apply HL.fold
    | apply HA.fold
    | apply HL.nil
    | apply HX.n_then
    | apply HC.seq
    | apply HC.region
    | refine HL.pa ?_
    | refine HL.ga rfl ?_
    | refine HL.na rfl ?_
    | refine HL.nu rfl rfl ?_
    | apply HC.block
    | apply HC.skip
    | apply HC.exit
    | apply HC.ret
    | apply HX.e_block
    | refine HX.e_other rfl ?_
    | apply HX.e_then
    | apply HX.e_again
    | apply HX.n_block
    | apply HX.r_then
    | apply HX.r_block
    | apply HX.r_again
    | refine HC.cond_yes rfl ?_
    | refine HC.cond_no rfl ?_
    | refine HL.one (H1.ldb rfl (by first | ((repeat (first | with_reducible exact mem_hd | with_reducible apply mem_tl)); done) | (repeat (first | exact List.Mem.head _ | apply List.Mem.tail))) rfl rfl ?_)
    | refine HC.cond rfl (fun hc => ?_) (fun hc => ?_)
    | refine HC.cond_b rfl (fun hc => ?_) (fun hc => ?_))
  refine HL.one (H1.callx rfl rfl (fun w hM => sane_x w (hr.ext hM.ext)) ?_)
  repeat' (first
    | apply HL.fold
    | apply HA.fold
    | apply HL.nil
    | apply HX.n_then
    | apply HC.seq
    | apply HC.region
    | refine HL.pa ?_
    | refine HL.ga rfl ?_
    | refine HL.na rfl ?_
    | refine HL.nu rfl rfl ?_
    | apply HC.block
    | apply HC.skip
    | apply HC.exit
    | apply HC.ret
    | apply HX.e_block
    | refine HX.e_other rfl ?_
    | apply HX.e_then
    | apply HX.e_again
    | apply HX.n_block
    | apply HX.r_then
    | apply HX.r_block
    | apply HX.r_again
    | refine HC.cond_yes rfl ?_
    | refine HC.cond_no rfl ?_
    | refine HL.one (H1.ldb rfl (by first | ((repeat (first | with_reducible exact mem_hd | with_reducible apply mem_tl)); done) | (repeat (first | exact List.Mem.head _ | apply List.Mem.tail))) rfl rfl ?_)
    | refine HC.cond rfl (fun hc => ?_) (fun hc => ?_)
    | refine HC.cond_b rfl (fun hc => ?_) (fun hc => ?_))
  refine HL.one (H1.ldAgg (vs := [.string s, .int .i64 K, .int .i64 N, .int .i64 T]) rfl (by first | ((repeat (first | with_reducible exact mem_hd | with_reducible apply mem_tl)); done) | (repeat (first | exact List.Mem.head _ | apply List.Mem.tail))) rfl (fun i v hv => by rw [Nat.zero_add]; exact hv) rfl ?_)
  repeat' (first
    | apply HL.fold
    | apply HA.fold
    | apply HL.nil
    | apply HX.n_then
    | apply HC.seq
    | apply HC.region
    | refine HL.pa ?_
    | refine HL.ga rfl ?_
    | refine HL.na rfl ?_
    | refine HL.nu rfl rfl ?_
    | apply HC.block
    | apply HC.skip
    | apply HC.exit
    | apply HC.ret
    | apply HX.e_block
    | refine HX.e_other rfl ?_
    | apply HX.e_then
    | apply HX.e_again
    | apply HX.n_block
    | apply HX.r_then
    | apply HX.r_block
    | apply HX.r_again
    | refine HC.cond_yes rfl ?_
    | refine HC.cond_no rfl ?_
    | refine HL.one (H1.ldb rfl (by first | ((repeat (first | with_reducible exact mem_hd | with_reducible apply mem_tl)); done) | (repeat (first | exact List.Mem.head _ | apply List.Mem.tail))) rfl rfl ?_)
    | refine HC.cond rfl (fun hc => ?_) (fun hc => ?_)
    | refine HC.cond_b rfl (fun hc => ?_) (fun hc => ?_))
  refine HL.one (H1.callr (vs := [.agg #[.string s, .int .i64 K, .int .i64 N, .int .i64 T], iv 1]) rfl rfl (fun w _ => made_z s K N T hK hN hT 1 (by decide) w) ?_)
  rintro wa va w3 hMa ⟨S, k, n, th, bt, offt, ct, rfl, x3, hS, hS2, hk1, hkn, hn9, hth, hRt, hct, hcnt, -, -⟩
  have x03 : Ext w w3 := hMa.ext.trans x3
  have hr3 := hr.ext x03
  obtain ⟨ac, cc, rfl, hcc, hcells⟩ := hRc.ext x03
  repeat' (first
    | apply HL.fold
    | apply HA.fold
    | apply HL.nil
    | apply HX.n_then
    | apply HC.seq
    | apply HC.region
    | refine HL.pa ?_
    | refine HL.ga rfl ?_
    | refine HL.na rfl ?_
    | refine HL.nu rfl rfl ?_
    | apply HC.block
    | apply HC.skip
    | apply HC.exit
    | apply HC.ret
    | apply HX.e_block
    | refine HX.e_other rfl ?_
    | apply HX.e_then
    | apply HX.e_again
    | apply HX.n_block
    | apply HX.r_then
    | apply HX.r_block
    | apply HX.r_again
    | refine HC.cond_yes rfl ?_
    | refine HC.cond_no rfl ?_
    | refine HL.one (H1.ldb rfl (by first | ((repeat (first | with_reducible exact mem_hd | with_reducible apply mem_tl)); done) | (repeat (first | exact List.Mem.head _ | apply List.Mem.tail))) rfl rfl ?_)
    | refine HC.cond rfl (fun hc => ?_) (fun hc => ?_)
    | refine HC.cond_b rfl (fun hc => ?_) (fun hc => ?_))
  refine HL.one (H1.callz1 rfl rfl (fun w hM => split_z S k n hk1 hkn hn9 (by omega) w (hr3.ext hM.ext)) ?_)
  rintro ba -
  have hlc : (codeL S k n).length = n := codeL_len S k n
  by_cases hkn2 : k = n
  · have hkn3 : (k : Int) = (n : Int) := by omega
    repeat' (first
      | apply HL.fold
      | apply HA.fold
      | apply HL.nil
      | apply HX.n_then
      | apply HC.seq
      | apply HC.region
      | refine HL.pa ?_
      | refine HL.ga rfl ?_
      | refine HL.na rfl ?_
      | refine HL.nu rfl rfl ?_
      | apply HC.block
      | apply HC.skip
      | apply HC.exit
      | apply HC.ret
      | apply HX.e_block
      | refine HX.e_other rfl ?_
      | apply HX.e_then
      | apply HX.e_again
      | apply HX.n_block
      | apply HX.r_then
      | apply HX.r_block
      | apply HX.r_again
      | refine HC.cond_yes rfl ?_
      | refine HC.cond_no rfl ?_
      | refine HL.one (H1.ldb rfl (by first | ((repeat (first | with_reducible exact mem_hd | with_reducible apply mem_tl)); done) | (repeat (first | exact List.Mem.head _ | apply List.Mem.tail))) rfl rfl ?_)
      | refine HC.cond rfl (fun hc => ?_) (fun hc => ?_)
      | refine HC.cond_b rfl (fun hc => ?_) (fun hc => ?_))
    exact HX.ret1 rfl rfl fun w' hM => ⟨rfl, x03.trans hM.ext⟩
  by_cases hSe : S = ByteArray.mk #[]
  · repeat' (first
      | apply HL.fold
      | apply HA.fold
      | apply HL.nil
      | apply HX.n_then
      | apply HC.seq
      | apply HC.region
      | refine HL.pa ?_
      | refine HL.ga rfl ?_
      | refine HL.na rfl ?_
      | refine HL.nu rfl rfl ?_
      | apply HC.block
      | apply HC.skip
      | apply HC.exit
      | apply HC.ret
      | apply HX.e_block
      | refine HX.e_other rfl ?_
      | apply HX.e_then
      | apply HX.e_again
      | apply HX.n_block
      | apply HX.r_then
      | apply HX.r_block
      | apply HX.r_again
      | refine HC.cond_yes rfl ?_
      | refine HC.cond_no rfl ?_
      | refine HL.one (H1.ldb rfl (by first | ((repeat (first | with_reducible exact mem_hd | with_reducible apply mem_tl)); done) | (repeat (first | exact List.Mem.head _ | apply List.Mem.tail))) rfl rfl ?_)
      | refine HC.cond rfl (fun hc => ?_) (fun hc => ?_)
      | refine HC.cond_b rfl (fun hc => ?_) (fun hc => ?_))
    exact HX.ret1 rfl rfl fun w' hM => ⟨rfl, x03.trans hM.ext⟩
  have hSp : 0 < S.size := by
    rcases Nat.eq_zero_or_pos S.size with h | h
    · exfalso; apply hSe
      apply ByteArray.ext
      exact Array.eq_empty_of_size_eq_zero h
    · exact h
  have hkn3 : ¬ (k : Int) = (n : Int) := by omega
  have hmk := mOf_le (l := S.size) (show 0 < k by omega) (by omega)
  have hmk2 := mOf_ge S.size (show 0 < k by omega)
  have hmp : 0 < mOf S.size k := by
    rcases Nat.eq_zero_or_pos (mOf S.size k) with h | h
    · rw [h, Nat.mul_zero] at hmk2; omega
    · exact h
  have hsz : ∀ q, (codeA S k q).size = mOf S.size k := fun q => codeA_size S k q
  obtain ⟨p1, p2⟩ := pickI_lt which (n := (n : Int)) (by omega)
  obtain ⟨wh, hwh⟩ : ∃ i : Nat, pickI which n = i := ⟨(pickI which n).toNat, by omega⟩
  have hq : ∃ q, q < n ∧ tf th q = true := by
    apply Classical.byContradiction
    intro hno
    have : cnt n (tf th) = 0 := cnt_none fun q hq => by
      cases h : tf th q with
      | false => rfl
      | true => exact absurd ⟨q, hq, h⟩ hno
    omega
  obtain ⟨q0, hq0, hq1⟩ := hq
  obtain ⟨d, hd1, hd2⟩ := first_there (f := tf th) (n := n) (w := wh) (by omega) hq0 hq1
  repeat' (first
    | apply HL.fold
    | apply HA.fold
    | apply HL.nil
    | apply HX.n_then
    | apply HC.seq
    | apply HC.region
    | refine HL.pa ?_
    | refine HL.ga rfl ?_
    | refine HL.na rfl ?_
    | refine HL.nu rfl rfl ?_
    | apply HC.block
    | apply HC.skip
    | apply HC.exit
    | apply HC.ret
    | apply HX.e_block
    | refine HX.e_other rfl ?_
    | apply HX.e_then
    | apply HX.e_again
    | apply HX.n_block
    | apply HX.r_then
    | apply HX.r_block
    | apply HX.r_again
    | refine HC.cond_yes rfl ?_
    | refine HC.cond_no rfl ?_
    | refine HL.one (H1.ldb rfl (by first | ((repeat (first | with_reducible exact mem_hd | with_reducible apply mem_tl)); done) | (repeat (first | exact List.Mem.head _ | apply List.Mem.tail))) rfl rfl ?_)
    | refine HC.cond rfl (fun hc => ?_) (fun hc => ?_)
    | refine HC.cond_b rfl (fun hc => ?_) (fun hc => ?_))
  refine HL.one (H1.lit0 rfl (fun b2 => ?_))
  repeat' (first
    | apply HL.fold
    | apply HA.fold
    | apply HL.nil
    | apply HX.n_then
    | apply HC.seq
    | apply HC.region
    | refine HL.pa ?_
    | refine HL.ga rfl ?_
    | refine HL.na rfl ?_
    | refine HL.nu rfl rfl ?_
    | apply HC.block
    | apply HC.skip
    | apply HC.exit
    | apply HC.ret
    | apply HX.e_block
    | refine HX.e_other rfl ?_
    | apply HX.e_then
    | apply HX.e_again
    | apply HX.n_block
    | apply HX.r_then
    | apply HX.r_block
    | apply HX.r_again
    | refine HC.cond_yes rfl ?_
    | refine HC.cond_no rfl ?_
    | refine HL.one (H1.ldb rfl (by first | ((repeat (first | with_reducible exact mem_hd | with_reducible apply mem_tl)); done) | (repeat (first | exact List.Mem.head _ | apply List.Mem.tail))) rfl rfl ?_)
    | refine HC.cond rfl (fun hc => ?_) (fun hc => ?_)
    | refine HC.cond_b rfl (fun hc => ?_) (fun hc => ?_))
  refine HL.one (H1.app (sz := 1) (news := strs (codeL S k n)) rfl (by decide) rfl rfl (fun _ _ => by first | ((repeat (first | with_reducible exact Rpl.here | with_reducible apply Rpl.there)); done) | (repeat (first | exact Rpl.here | apply Rpl.there))) (by simp [strs, hlc]) (fun w hM j u hu => by rw [add_lit]; exact (hM.rd (by first | ((repeat (first | with_reducible exact mem_hd | with_reducible apply mem_tl)); done) | (repeat (first | exact List.Mem.head _ | apply List.Mem.tail)))).cell hu) (fun u hu => by
    obtain ⟨x, -, rfl⟩ := List.mem_map.1 hu; rfl) (by omega) (by decide) rfl (fun a' cg hg => ?_))
  obtain ⟨bg, rfl⟩ : ∃ b, a' = some ⟨b, 0, none⟩ := hg.resolve_left (by omega)
  rw [List.nil_append, Nat.zero_add]
  repeat' (first
    | apply HL.fold
    | apply HA.fold
    | apply HL.nil
    | apply HX.n_then
    | apply HC.seq
    | apply HC.region
    | refine HL.pa ?_
    | refine HL.ga rfl ?_
    | refine HL.na rfl ?_
    | refine HL.nu rfl rfl ?_
    | apply HC.block
    | apply HC.skip
    | apply HC.exit
    | apply HC.ret
    | apply HX.e_block
    | refine HX.e_other rfl ?_
    | apply HX.e_then
    | apply HX.e_again
    | apply HX.n_block
    | apply HX.r_then
    | apply HX.r_block
    | apply HX.r_again
    | refine HC.cond_yes rfl ?_
    | refine HC.cond_no rfl ?_
    | refine HL.one (H1.ldb rfl (by first | ((repeat (first | with_reducible exact mem_hd | with_reducible apply mem_tl)); done) | (repeat (first | exact List.Mem.head _ | apply List.Mem.tail))) rfl rfl ?_)
    | refine HC.cond rfl (fun hc => ?_) (fun hc => ?_)
    | refine HC.cond_b rfl (fun hc => ?_) (fun hc => ?_))
  refine HL.one (H1.call0 (vs := [.int .i64 which, iv n]) rfl rfl (fun w _ => pick_fn which n hw.1 hw.2 (by omega) w) ?_)
  rw [hwh]
  repeat' (first
    | apply HL.fold
    | apply HA.fold
    | apply HL.nil
    | apply HX.n_then
    | apply HC.seq
    | apply HC.region
    | refine HL.pa ?_
    | refine HL.ga rfl ?_
    | refine HL.na rfl ?_
    | refine HL.nu rfl rfl ?_
    | apply HC.skip
    | apply HC.exit
    | apply HC.ret
    | apply HX.e_block
    | refine HX.e_other rfl ?_
    | apply HX.e_then
    | apply HX.e_again
    | apply HX.n_block
    | apply HX.r_then
    | apply HX.r_block
    | apply HX.r_again
    | refine HC.cond_yes rfl ?_
    | refine HC.cond_no rfl ?_
    | refine HL.one (H1.ldb rfl (by first | ((repeat (first | with_reducible exact mem_hd | with_reducible apply mem_tl)); done) | (repeat (first | exact List.Mem.head _ | apply List.Mem.tail))) rfl rfl ?_)
    | refine HC.cond rfl (fun hc => ?_) (fun hc => ?_)
    | refine HC.cond_b rfl (fun hc => ?_) (fun hc => ?_))
  have hwn : (wh + d) % n < n := Nat.mod_lt _ (by omega)
  refine HC.cut (α := Unit) (fun _ => [(1, .int .i64 which), (2, .slice ac nc cc), (7, .bool true), (8, .string S), (9, iv k), (10, iv n), (11, .slice (some ⟨bt, offt, none⟩) n ct), (12, .slice (some ⟨ba, 0, none⟩) n n), (14, .slice (some ⟨bg, 0, none⟩) n cg), (15, iv ((wh + d) % n))])
    (fun _ => [A.grow 9 1 (some ⟨bg, 0, none⟩) cg n (strs (codeL S k n)), A.rd (.slice (some ⟨ba, 0, none⟩) n n) (strs (codeL S k n))]) (fun _ => True) ?_ ?_
  · repeat' (first
      | apply HL.fold
      | apply HA.fold
      | apply HL.nil
      | apply HX.n_then
      | apply HC.seq
      | apply HC.region
      | refine HL.pa ?_
      | refine HL.ga rfl ?_
      | refine HL.na rfl ?_
      | refine HL.nu rfl rfl ?_
      | apply HC.block
      | apply HC.skip
      | apply HC.exit
      | apply HC.ret
      | apply HX.e_block
      | refine HX.e_other rfl ?_
      | apply HX.e_then
      | apply HX.e_again
      | apply HX.n_block
      | apply HX.r_then
      | apply HX.r_block
      | apply HX.r_again
      | refine HC.cond_yes rfl ?_
      | refine HC.cond_no rfl ?_
      | refine HL.one (H1.ldb rfl (by first | ((repeat (first | with_reducible exact mem_hd | with_reducible apply mem_tl)); done) | (repeat (first | exact List.Mem.head _ | apply List.Mem.tail))) rfl rfl ?_)
      | refine HC.cond rfl (fun hc => ?_) (fun hc => ?_)
      | refine HC.cond_b rfl (fun hc => ?_) (fun hc => ?_))
    refine HC.loop (α := Nat) (fun t => [(1, .int .i64 which), (2, .slice ac nc cc), (7, .bool true), (8, .string S), (9, iv k), (10, iv n), (11, .slice (some ⟨bt, offt, none⟩) n ct), (12, .slice (some ⟨ba, 0, none⟩) n n), (14, .slice (some ⟨bg, 0, none⟩) n cg), (15, iv ((wh + t) % n))])
      (fun _ => [A.grow 9 1 (some ⟨bg, 0, none⟩) cg n (strs (codeL S k n)), A.rd (.slice (some ⟨ba, 0, none⟩) n n) (strs (codeL S k n))]) (fun t => t ≤ d) (fun t => d - t) 0 (Nat.zero_le _)
      ⟨rfl, rfl, rfl, rfl, rfl, rfl, rfl, rfl, rfl, (by rw [Nat.add_zero, Nat.mod_eq_of_lt (show wh < n by omega)]; rfl), trivial⟩ (by repeat (first | exact Hs.nil _ | (refine Hs.cons (by first | ((repeat (first | with_reducible exact Pick.here | with_reducible apply Pick.there)); done) | (repeat (first | exact Pick.here | apply Pick.there))) ?_))) ?_
    intro t ht
    have htn : (wh + t) % n < n := Nat.mod_lt _ (by omega)
    have hcell := hRt.cell (bools_get (i := (wh + t) % n) (by omega))
    by_cases htd : t = d
    · subst htd
      rw [hd1] at hcell
      repeat' (first
        | apply HL.fold
        | apply HA.fold
        | apply HL.nil
        | apply HX.n_then
        | apply HC.seq
        | apply HC.region
        | refine HL.pa ?_
        | refine HL.ga rfl ?_
        | refine HL.na rfl ?_
        | refine HL.nu rfl rfl ?_
        | apply HC.block
        | apply HC.skip
        | apply HC.exit
        | apply HC.ret
        | apply HX.e_block
        | refine HX.e_other rfl ?_
        | apply HX.e_then
        | apply HX.e_again
        | apply HX.n_block
        | apply HX.r_then
        | apply HX.r_block
        | apply HX.r_again
        | refine HC.cond_yes rfl ?_
        | refine HC.cond_no rfl ?_
        | refine HL.one (H1.ldb rfl (by first | ((repeat (first | with_reducible exact mem_hd | with_reducible apply mem_tl)); done) | (repeat (first | exact List.Mem.head _ | apply List.Mem.tail))) rfl rfl ?_)
        | refine HC.cond rfl (fun hc => ?_) (fun hc => ?_)
        | refine HC.cond_b rfl (fun hc => ?_) (fun hc => ?_))
      refine HL.one (H1.ld0 rfl hcell rfl ?_)
      repeat' (first
        | apply HL.fold
        | apply HA.fold
        | apply HL.nil
        | apply HX.n_then
        | apply HC.seq
        | apply HC.region
        | refine HL.pa ?_
        | refine HL.ga rfl ?_
        | refine HL.na rfl ?_
        | refine HL.nu rfl rfl ?_
        | apply HC.block
        | apply HC.skip
        | apply HC.exit
        | apply HC.ret
        | apply HX.e_block
        | refine HX.e_other rfl ?_
        | apply HX.e_then
        | apply HX.e_again
        | apply HX.n_block
        | apply HX.r_then
        | apply HX.r_block
        | apply HX.r_again
        | refine HC.cond_yes rfl ?_
        | refine HC.cond_no rfl ?_
        | refine HL.one (H1.ldb rfl (by first | ((repeat (first | with_reducible exact mem_hd | with_reducible apply mem_tl)); done) | (repeat (first | exact List.Mem.head _ | apply List.Mem.tail))) rfl rfl ?_)
        | refine HC.cond rfl (fun hc => ?_) (fun hc => ?_)
        | refine HC.cond_b rfl (fun hc => ?_) (fun hc => ?_))
      exact HX.cut () trivial (by repeat (first | exact trivial | refine ⟨rfl, ?_⟩)) (by repeat (first | exact Hs.nil _ | (refine Hs.cons (by first | ((repeat (first | with_reducible exact Pick.here | with_reducible apply Pick.there)); done) | (repeat (first | exact Pick.here | apply Pick.there))) ?_)))
    · rw [hd2 t (by omega)] at hcell
      have hstep : (((wh + t) % n : Nat) : Int) + 1 = (((wh + t) % n + 1 : Nat) : Int) := by omega
      have hstep2 : ((wh + t) % n + 1) % n = (wh + (t + 1)) % n := by rw [Nat.mod_add_mod, Nat.add_assoc]
      repeat' (first
        | apply HL.fold
        | apply HA.fold
        | apply HL.nil
        | apply HX.n_then
        | apply HC.seq
        | apply HC.region
        | refine HL.pa ?_
        | refine HL.ga rfl ?_
        | refine HL.na rfl ?_
        | refine HL.nu rfl rfl ?_
        | apply HC.block
        | apply HC.skip
        | apply HC.exit
        | apply HC.ret
        | apply HX.e_block
        | refine HX.e_other rfl ?_
        | apply HX.e_then
        | apply HX.e_again
        | apply HX.n_block
        | apply HX.r_then
        | apply HX.r_block
        | apply HX.r_again
        | refine HC.cond_yes rfl ?_
        | refine HC.cond_no rfl ?_
        | refine HL.one (H1.ldb rfl (by first | ((repeat (first | with_reducible exact mem_hd | with_reducible apply mem_tl)); done) | (repeat (first | exact List.Mem.head _ | apply List.Mem.tail))) rfl rfl ?_)
        | refine HC.cond rfl (fun hc => ?_) (fun hc => ?_)
        | refine HC.cond_b rfl (fun hc => ?_) (fun hc => ?_))
      refine HL.one (H1.ld0 rfl hcell rfl ?_)
      repeat' (first
        | apply HL.fold
        | apply HA.fold
        | apply HL.nil
        | apply HX.n_then
        | apply HC.seq
        | apply HC.region
        | refine HL.pa ?_
        | refine HL.ga rfl ?_
        | refine HL.na rfl ?_
        | refine HL.nu rfl rfl ?_
        | apply HC.block
        | apply HC.skip
        | apply HC.exit
        | apply HC.ret
        | apply HX.e_block
        | refine HX.e_other rfl ?_
        | apply HX.e_then
        | apply HX.e_again
        | apply HX.n_block
        | apply HX.r_then
        | apply HX.r_block
        | apply HX.r_again
        | refine HC.cond_yes rfl ?_
        | refine HC.cond_no rfl ?_
        | refine HL.one (H1.ldb rfl (by first | ((repeat (first | with_reducible exact mem_hd | with_reducible apply mem_tl)); done) | (repeat (first | exact List.Mem.head _ | apply List.Mem.tail))) rfl rfl ?_)
        | refine HC.cond rfl (fun hc => ?_) (fun hc => ?_)
        | refine HC.cond_b rfl (fun hc => ?_) (fun hc => ?_))
      refine HX.again (t + 1) (by omega) (by omega) ⟨rfl, rfl, rfl, rfl, rfl, rfl, rfl, rfl, rfl, ?_, trivial⟩ (by repeat (first | exact Hs.nil _ | (refine Hs.cons (by first | ((repeat (first | with_reducible exact Pick.here | with_reducible apply Pick.there)); done) | (repeat (first | exact Pick.here | apply Pick.there))) ?_)))
      show some (Value.int .i64 (((((wh + t) % n : Nat) : Int) + 1) % (n : Int))) = _
      rw [hstep, ← Int.natCast_emod, hstep2]
  · rintro - -
    obtain ⟨W, hW⟩ : ∃ W, W = (wh + d) % n := ⟨_, rfl⟩
    rw [← hW] at hwn hd1 ⊢
    obtain ⟨C, hC⟩ : ∃ C, C = chgS (codeA S k W) (pickI which (codeA S k W).size).toNat (1 + (pickI which 255).toNat) := ⟨_, rfl⟩
    have hne : ∀ (c e : Int) (q : Nat), chgS (codeA S k q) (pickI c (codeA S k q).size).toNat (1 + (pickI e 255).toNat) ≠ codeA S k q := fun c e q => by
      have h1 := pickI_lt c (n := ((codeA S k q).size : Int)) (by rw [hsz]; omega)
      have h2 := pickI_lt e (n := 255) (by decide)
      exact chgS_ne (by omega) (by omega) (by omega)
    have hCne : C ≠ codeA S k W := by rw [hC]; exact hne which which W
    obtain ⟨G, hG⟩ : ∃ G, G = (codeL S k n).set W C := ⟨_, rfl⟩
    have hGl : G.length = n := by rw [hG, List.length_set, hlc]
    have hGf : ∀ q, q < n → fr G q = if q = W then C else codeA S k q := fun q hq => by rw [hG, fr_set (by omega), codeL_fr S k hq]
    have hno : ¬ CompOK G th k := by
      refine noticed hGl (upd (tf th) W false) (fun q hq hu => ?_) ?_ hwn hd1 (by rw [hGf W hwn, if_pos rfl]; exact hCne)
      · by_cases e : q = W
        · subst e; simp [upd] at hu
        · simp only [upd, e, if_false] at hu
          exact ⟨hu, by rw [hGf q hq, if_neg e]⟩
      · have := cnt_upd_false (tf th) W n
        omega
    repeat' (first
      | apply HL.fold
      | apply HA.fold
      | apply HL.nil
      | apply HX.n_then
      | apply HC.seq
      | apply HC.region
      | refine HL.pa ?_
      | refine HL.ga rfl ?_
      | refine HL.na rfl ?_
      | refine HL.nu rfl rfl ?_
      | apply HC.block
      | apply HC.skip
      | apply HC.exit
      | apply HC.ret
      | apply HX.e_block
      | refine HX.e_other rfl ?_
      | apply HX.e_then
      | apply HX.e_again
      | apply HX.n_block
      | apply HX.r_then
      | apply HX.r_block
      | apply HX.r_again
      | refine HC.cond_yes rfl ?_
      | refine HC.cond_no rfl ?_
      | refine HL.one (H1.ldb rfl (by first | ((repeat (first | with_reducible exact mem_hd | with_reducible apply mem_tl)); done) | (repeat (first | exact List.Mem.head _ | apply List.Mem.tail))) rfl rfl ?_)
      | refine HC.cond rfl (fun hc => ?_) (fun hc => ?_)
      | refine HC.cond_b rfl (fun hc => ?_) (fun hc => ?_))
    refine HL.one (H1.ldr (by rw [Nat.zero_add]; rfl) (by first | ((repeat (first | with_reducible exact mem_hd | with_reducible apply mem_tl)); done) | (repeat (first | exact List.Mem.head _ | apply List.Mem.tail))) (codes_get S k hwn) rfl ?_)
    repeat' (first
      | apply HL.fold
      | apply HA.fold
      | apply HL.nil
      | apply HX.n_then
      | apply HC.seq
      | apply HC.region
      | refine HL.pa ?_
      | refine HL.ga rfl ?_
      | refine HL.na rfl ?_
      | refine HL.nu rfl rfl ?_
      | apply HC.block
      | apply HC.skip
      | apply HC.exit
      | apply HC.ret
      | apply HX.e_block
      | refine HX.e_other rfl ?_
      | apply HX.e_then
      | apply HX.e_again
      | apply HX.n_block
      | apply HX.r_then
      | apply HX.r_block
      | apply HX.r_again
      | refine HC.cond_yes rfl ?_
      | refine HC.cond_no rfl ?_
      | refine HL.one (H1.ldb rfl (by first | ((repeat (first | with_reducible exact mem_hd | with_reducible apply mem_tl)); done) | (repeat (first | exact List.Mem.head _ | apply List.Mem.tail))) rfl rfl ?_)
      | refine HC.cond rfl (fun hc => ?_) (fun hc => ?_)
      | refine HC.cond_b rfl (fun hc => ?_) (fun hc => ?_))
    refine HL.build (cs := [.int .i64 which, .int .i64 which, .int .i64 which]) rfl rfl rfl ?_
    refine HL.one (H1.callx (vs := [.string (codeA S k W), .agg #[.int .i64 which, .int .i64 which, .int .i64 which]]) rfl rfl (fun w _ => changed_fn (codeA S k W) which which which hw hw (by rw [hsz]; omega) (by rw [hsz]; omega) w) ?_)
    rw [← hC]
    repeat' (first
      | apply HL.fold
      | apply HA.fold
      | apply HL.nil
      | apply HX.n_then
      | apply HC.seq
      | apply HC.region
      | refine HL.pa ?_
      | refine HL.ga rfl ?_
      | refine HL.na rfl ?_
      | refine HL.nu rfl rfl ?_
      | apply HC.block
      | apply HC.skip
      | apply HC.exit
      | apply HC.ret
      | apply HX.e_block
      | refine HX.e_other rfl ?_
      | apply HX.e_then
      | apply HX.e_again
      | apply HX.n_block
      | apply HX.r_then
      | apply HX.r_block
      | apply HX.r_again
      | refine HC.cond_yes rfl ?_
      | refine HC.cond_no rfl ?_
      | refine HL.one (H1.ldb rfl (by first | ((repeat (first | with_reducible exact mem_hd | with_reducible apply mem_tl)); done) | (repeat (first | exact List.Mem.head _ | apply List.Mem.tail))) rfl rfl ?_)
      | refine HC.cond rfl (fun hc => ?_) (fun hc => ?_)
      | refine HC.cond_b rfl (fun hc => ?_) (fun hc => ?_))
    refine HL.one (H1.stg rfl rfl (by intro _ h; cases h) (by intro _ h; cases h) (by first | ((repeat (first | with_reducible exact Rpl.here | with_reducible apply Rpl.there)); done) | (repeat (first | exact Rpl.here | apply Rpl.there))) (by simp [strs, hlc]; omega) ?_)
    rw [strs_set, ← hG]
    repeat' (first
      | apply HL.fold
      | apply HA.fold
      | apply HL.nil
      | apply HX.n_then
      | apply HC.seq
      | apply HC.region
      | refine HL.pa ?_
      | refine HL.ga rfl ?_
      | refine HL.na rfl ?_
      | refine HL.nu rfl rfl ?_
      | apply HC.block
      | apply HC.skip
      | apply HC.exit
      | apply HC.ret
      | apply HX.e_block
      | refine HX.e_other rfl ?_
      | apply HX.e_then
      | apply HX.e_again
      | apply HX.n_block
      | apply HX.r_then
      | apply HX.r_block
      | apply HX.r_again
      | refine HC.cond_yes rfl ?_
      | refine HC.cond_no rfl ?_
      | refine HL.one (H1.ldb rfl (by first | ((repeat (first | with_reducible exact mem_hd | with_reducible apply mem_tl)); done) | (repeat (first | exact List.Mem.head _ | apply List.Mem.tail))) rfl rfl ?_)
      | refine HC.cond rfl (fun hc => ?_) (fun hc => ?_)
      | refine HC.cond_b rfl (fun hc => ?_) (fun hc => ?_))
    refine HL.one (H1.callx rfl rfl (fun w hM => join_no (frs := G) (th := th) (fun h => hno h.1) (by omega) (by omega) w (hr3.ext hM.ext) (hM.gr (by first | ((repeat (first | with_reducible exact mem_hd | with_reducible apply mem_tl)); done) | (repeat (first | exact List.Mem.head _ | apply List.Mem.tail)))) (hM.rd0 hRt)) ?_)
    repeat' (first
      | apply HL.fold
      | apply HA.fold
      | apply HL.nil
      | apply HX.n_then
      | apply HC.seq
      | apply HC.region
      | refine HL.pa ?_
      | refine HL.ga rfl ?_
      | refine HL.na rfl ?_
      | refine HL.nu rfl rfl ?_
      | apply HC.block
      | apply HC.skip
      | apply HC.exit
      | apply HC.ret
      | apply HX.e_block
      | refine HX.e_other rfl ?_
      | apply HX.e_then
      | apply HX.e_again
      | apply HX.n_block
      | apply HX.r_then
      | apply HX.r_block
      | apply HX.r_again
      | refine HC.cond_yes rfl ?_
      | refine HC.cond_no rfl ?_
      | refine HL.one (H1.ldb rfl (by first | ((repeat (first | with_reducible exact mem_hd | with_reducible apply mem_tl)); done) | (repeat (first | exact List.Mem.head _ | apply List.Mem.tail))) rfl rfl ?_)
      | refine HC.cond rfl (fun hc => ?_) (fun hc => ?_)
      | refine HC.cond_b rfl (fun hc => ?_) (fun hc => ?_))
    refine HL.one (H1.callx rfl rfl (fun w hM => frag_no (frs := G) (th := th) (fun h => hno h.1) (by omega) (by omega) w (hr3.ext hM.ext) (hM.gr (by first | ((repeat (first | with_reducible exact mem_hd | with_reducible apply mem_tl)); done) | (repeat (first | exact List.Mem.head _ | apply List.Mem.tail)))) (hM.rd0 hRt)) ?_)
    repeat' (first
      | apply HL.fold
      | apply HA.fold
      | apply HL.nil
      | apply HX.n_then
      | apply HC.seq
      | apply HC.region
      | refine HL.pa ?_
      | refine HL.ga rfl ?_
      | refine HL.na rfl ?_
      | refine HL.nu rfl rfl ?_
      | apply HC.block
      | apply HC.skip
      | apply HC.exit
      | apply HC.ret
      | apply HX.e_block
      | refine HX.e_other rfl ?_
      | apply HX.e_then
      | apply HX.e_again
      | apply HX.n_block
      | apply HX.r_then
      | apply HX.r_block
      | apply HX.r_again
      | refine HC.cond_yes rfl ?_
      | refine HC.cond_no rfl ?_
      | refine HL.one (H1.ldb rfl (by first | ((repeat (first | with_reducible exact mem_hd | with_reducible apply mem_tl)); done) | (repeat (first | exact List.Mem.head _ | apply List.Mem.tail))) rfl rfl ?_)
      | refine HC.cond rfl (fun hc => ?_) (fun hc => ?_)
      | refine HC.cond_b rfl (fun hc => ?_) (fun hc => ?_))
    refine HL.one (H1.lit0 rfl (fun b3 => ?_))
    repeat' (first
      | apply HL.fold
      | apply HA.fold
      | apply HL.nil
      | apply HX.n_then
      | apply HC.seq
      | apply HC.region
      | refine HL.pa ?_
      | refine HL.ga rfl ?_
      | refine HL.na rfl ?_
      | refine HL.nu rfl rfl ?_
      | apply HC.block
      | apply HC.skip
      | apply HC.exit
      | apply HC.ret
      | apply HX.e_block
      | refine HX.e_other rfl ?_
      | apply HX.e_then
      | apply HX.e_again
      | apply HX.n_block
      | apply HX.r_then
      | apply HX.r_block
      | apply HX.r_again
      | refine HC.cond_yes rfl ?_
      | refine HC.cond_no rfl ?_
      | refine HL.one (H1.ldb rfl (by first | ((repeat (first | with_reducible exact mem_hd | with_reducible apply mem_tl)); done) | (repeat (first | exact List.Mem.head _ | apply List.Mem.tail))) rfl rfl ?_)
      | refine HC.cond rfl (fun hc => ?_) (fun hc => ?_)
      | refine HC.cond_b rfl (fun hc => ?_) (fun hc => ?_))
    refine HL.one (H1.app (sz := 1) (news := strs (codeL S k n)) rfl (by decide) rfl rfl (fun _ _ => by first | ((repeat (first | with_reducible exact Rpl.here | with_reducible apply Rpl.there)); done) | (repeat (first | exact Rpl.here | apply Rpl.there))) (by simp [strs, hlc]) (fun w hM j u hu => by rw [add_lit]; exact (hM.rd (by first | ((repeat (first | with_reducible exact mem_hd | with_reducible apply mem_tl)); done) | (repeat (first | exact List.Mem.head _ | apply List.Mem.tail)))).cell hu) (fun u hu => by
      obtain ⟨x, -, rfl⟩ := List.mem_map.1 hu; rfl) (by omega) (by decide) rfl (fun a' ch hg => ?_))
    obtain ⟨bh, rfl⟩ : ∃ b, a' = some ⟨b, 0, none⟩ := hg.resolve_left (by omega)
    rw [List.nil_append, Nat.zero_add]
    repeat' (first
      | apply HL.fold
      | apply HA.fold
      | apply HL.nil
      | apply HX.n_then
      | apply HC.seq
      | apply HC.region
      | refine HL.pa ?_
      | refine HL.ga rfl ?_
      | refine HL.na rfl ?_
      | refine HL.nu rfl rfl ?_
      | apply HC.block
      | apply HC.skip
      | apply HC.exit
      | apply HC.ret
      | apply HX.e_block
      | refine HX.e_other rfl ?_
      | apply HX.e_then
      | apply HX.e_again
      | apply HX.n_block
      | apply HX.r_then
      | apply HX.r_block
      | apply HX.r_again
      | refine HC.cond_yes rfl ?_
      | refine HC.cond_no rfl ?_
      | refine HL.one (H1.ldb rfl (by first | ((repeat (first | with_reducible exact mem_hd | with_reducible apply mem_tl)); done) | (repeat (first | exact List.Mem.head _ | apply List.Mem.tail))) rfl rfl ?_)
      | refine HC.cond rfl (fun hc => ?_) (fun hc => ?_)
      | refine HC.cond_b rfl (fun hc => ?_) (fun hc => ?_))
    refine HL.one (H1.make rfl rfl rfl rfl rfl (Nat.le_refl _) (by omega) (by omega) rfl (fun be => ?_))
    rw [row_rep]
    repeat' (first
      | apply HL.fold
      | apply HA.fold
      | apply HL.nil
      | apply HX.n_then
      | apply HC.seq
      | apply HC.region
      | refine HL.pa ?_
      | refine HL.ga rfl ?_
      | refine HL.na rfl ?_
      | refine HL.nu rfl rfl ?_
      | apply HC.skip
      | apply HC.exit
      | apply HC.ret
      | apply HX.e_block
      | refine HX.e_other rfl ?_
      | apply HX.e_then
      | apply HX.e_again
      | apply HX.n_block
      | apply HX.r_then
      | apply HX.r_block
      | apply HX.r_again
      | refine HC.cond_yes rfl ?_
      | refine HC.cond_no rfl ?_
      | refine HL.one (H1.ldb rfl (by first | ((repeat (first | with_reducible exact mem_hd | with_reducible apply mem_tl)); done) | (repeat (first | exact List.Mem.head _ | apply List.Mem.tail))) rfl rfl ?_)
      | refine HC.cond rfl (fun hc => ?_) (fun hc => ?_)
      | refine HC.cond_b rfl (fun hc => ?_) (fun hc => ?_))
    refine HC.cut (α := Unit) (fun _ => [(1, .int .i64 which), (2, .slice ac nc cc), (7, .bool true), (8, .string S), (9, iv k), (10, iv n), (12, .slice (some ⟨ba, 0, none⟩) n n), (17, iv 170), (19, iv 170), (20, .slice (some ⟨bh, 0, none⟩) n ch), (21, .slice (some ⟨be, 0, none⟩) n n), (22, .bool false)])
      (fun _ => [A.blk be (row n fun _ => .bool true) 4, A.grow 9 1 (some ⟨bh, 0, none⟩) ch n (strs (codeL S k n)), A.rd (.slice (some ⟨ba, 0, none⟩) n n) (strs (codeL S k n))]) (fun _ => True) ?_ ?_
    · repeat' (first
        | apply HL.fold
        | apply HA.fold
        | apply HL.nil
        | apply HX.n_then
        | apply HC.seq
        | apply HC.region
        | refine HL.pa ?_
        | refine HL.ga rfl ?_
        | refine HL.na rfl ?_
        | refine HL.nu rfl rfl ?_
        | apply HC.block
        | apply HC.skip
        | apply HC.exit
        | apply HC.ret
        | apply HX.e_block
        | refine HX.e_other rfl ?_
        | apply HX.e_then
        | apply HX.e_again
        | apply HX.n_block
        | apply HX.r_then
        | apply HX.r_block
        | apply HX.r_again
        | refine HC.cond_yes rfl ?_
        | refine HC.cond_no rfl ?_
        | refine HL.one (H1.ldb rfl (by first | ((repeat (first | with_reducible exact mem_hd | with_reducible apply mem_tl)); done) | (repeat (first | exact List.Mem.head _ | apply List.Mem.tail))) rfl rfl ?_)
        | refine HC.cond rfl (fun hc => ?_) (fun hc => ?_)
        | refine HC.cond_b rfl (fun hc => ?_) (fun hc => ?_))
      refine HC.loop (α := Nat) (fun i => [(1, .int .i64 which), (2, .slice ac nc cc), (7, .bool true), (8, .string S), (9, iv k), (10, iv n), (12, .slice (some ⟨ba, 0, none⟩) n n), (17, iv 170), (19, iv 170), (20, .slice (some ⟨bh, 0, none⟩) n ch), (21, .slice (some ⟨be, 0, none⟩) n n), (22, .bool false), (23, iv i)])
        (fun i => [A.blk be (row n fun q => .bool (decide (q < i))) 4, A.grow 9 1 (some ⟨bh, 0, none⟩) ch n (strs (codeL S k n)), A.rd (.slice (some ⟨ba, 0, none⟩) n n) (strs (codeL S k n))]) (fun i => i ≤ n) (fun i => n - i) 0 (by omega)
        (by repeat (first | exact trivial | refine ⟨rfl, ?_⟩)) (by simp only [Nat.not_lt_zero, decide_false]; repeat (first | exact Hs.nil _ | (refine Hs.cons (by first | ((repeat (first | with_reducible exact Pick.here | with_reducible apply Pick.there)); done) | (repeat (first | exact Pick.here | apply Pick.there))) ?_))) ?_
      intro i hi
      by_cases hlt : i < n
      · repeat' (first
          | apply HL.fold
          | apply HA.fold
          | apply HL.nil
          | apply HX.n_then
          | apply HC.seq
          | apply HC.region
          | refine HL.pa ?_
          | refine HL.ga rfl ?_
          | refine HL.na rfl ?_
          | refine HL.nu rfl rfl ?_
          | apply HC.block
          | apply HC.skip
          | apply HC.exit
          | apply HC.ret
          | apply HX.e_block
          | refine HX.e_other rfl ?_
          | apply HX.e_then
          | apply HX.e_again
          | apply HX.n_block
          | apply HX.r_then
          | apply HX.r_block
          | apply HX.r_again
          | refine HC.cond_yes rfl ?_
          | refine HC.cond_no rfl ?_
          | refine HL.one (H1.ldb rfl (by first | ((repeat (first | with_reducible exact mem_hd | with_reducible apply mem_tl)); done) | (repeat (first | exact List.Mem.head _ | apply List.Mem.tail))) rfl rfl ?_)
          | refine HC.cond rfl (fun hc => ?_) (fun hc => ?_)
          | refine HC.cond_b rfl (fun hc => ?_) (fun hc => ?_))
        refine HL.one (H1.st rfl rfl (by intro _ h; cases h) (by intro _ h; cases h) (by first | ((repeat (first | with_reducible exact Rpl.here | with_reducible apply Rpl.there)); done) | (repeat (first | exact Rpl.here | apply Rpl.there))) (by rw [row_len]; omega) ?_)
        repeat' (first
          | apply HL.fold
          | apply HA.fold
          | apply HL.nil
          | apply HX.n_then
          | apply HC.seq
          | apply HC.region
          | refine HL.pa ?_
          | refine HL.ga rfl ?_
          | refine HL.na rfl ?_
          | refine HL.nu rfl rfl ?_
          | apply HC.block
          | apply HC.skip
          | apply HC.exit
          | apply HC.ret
          | apply HX.e_block
          | refine HX.e_other rfl ?_
          | apply HX.e_then
          | apply HX.e_again
          | apply HX.n_block
          | apply HX.r_then
          | apply HX.r_block
          | apply HX.r_again
          | refine HC.cond_yes rfl ?_
          | refine HC.cond_no rfl ?_
          | refine HL.one (H1.ldb rfl (by first | ((repeat (first | with_reducible exact mem_hd | with_reducible apply mem_tl)); done) | (repeat (first | exact List.Mem.head _ | apply List.Mem.tail))) rfl rfl ?_)
          | refine HC.cond rfl (fun hc => ?_) (fun hc => ?_)
          | refine HC.cond_b rfl (fun hc => ?_) (fun hc => ?_))
        refine HX.again (i + 1) (by omega) (by omega) (by repeat (first | exact trivial | refine ⟨rfl, ?_⟩)) (Hs.blk (row_step (by simp) fun q hq => ?_) (by repeat (first | exact Hs.nil _ | (refine Hs.cons (by first | ((repeat (first | with_reducible exact Pick.here | with_reducible apply Pick.there)); done) | (repeat (first | exact Pick.here | apply Pick.there))) ?_))))
        have hh : (q < i + 1) = (q < i) := by simp only [eq_iff_iff]; omega
        simp only [hh]
      · obtain rfl : i = n := by omega
        repeat' (first
          | apply HL.fold
          | apply HA.fold
          | apply HL.nil
          | apply HX.n_then
          | apply HC.seq
          | apply HC.region
          | refine HL.pa ?_
          | refine HL.ga rfl ?_
          | refine HL.na rfl ?_
          | refine HL.nu rfl rfl ?_
          | apply HC.block
          | apply HC.skip
          | apply HC.exit
          | apply HC.ret
          | apply HX.e_block
          | refine HX.e_other rfl ?_
          | apply HX.e_then
          | apply HX.e_again
          | apply HX.n_block
          | apply HX.r_then
          | apply HX.r_block
          | apply HX.r_again
          | refine HC.cond_yes rfl ?_
          | refine HC.cond_no rfl ?_
          | refine HL.one (H1.ldb rfl (by first | ((repeat (first | with_reducible exact mem_hd | with_reducible apply mem_tl)); done) | (repeat (first | exact List.Mem.head _ | apply List.Mem.tail))) rfl rfl ?_)
          | refine HC.cond rfl (fun hc => ?_) (fun hc => ?_)
          | refine HC.cond_b rfl (fun hc => ?_) (fun hc => ?_))
        refine HX.cut () trivial (by repeat (first | exact trivial | refine ⟨rfl, ?_⟩)) (Hs.blk (row_congr fun q hq => by simp [hq]) (by repeat (first | exact Hs.nil _ | (refine Hs.cons (by first | ((repeat (first | with_reducible exact Pick.here | with_reducible apply Pick.there)); done) | (repeat (first | exact Pick.here | apply Pick.there))) ?_))))
    · rintro - -
      rw [strs_code]
      repeat' (first
        | apply HL.fold
        | apply HA.fold
        | apply HL.nil
        | apply HX.n_then
        | apply HC.seq
        | apply HC.region
        | refine HL.pa ?_
        | refine HL.ga rfl ?_
        | refine HL.na rfl ?_
        | refine HL.nu rfl rfl ?_
        | apply HC.skip
        | apply HC.exit
        | apply HC.ret
        | apply HX.e_block
        | refine HX.e_other rfl ?_
        | apply HX.e_then
        | apply HX.e_again
        | apply HX.n_block
        | apply HX.r_then
        | apply HX.r_block
        | apply HX.r_again
        | refine HC.cond_yes rfl ?_
        | refine HC.cond_no rfl ?_
        | refine HL.one (H1.ldb rfl (by first | ((repeat (first | with_reducible exact mem_hd | with_reducible apply mem_tl)); done) | (repeat (first | exact List.Mem.head _ | apply List.Mem.tail))) rfl rfl ?_)
        | refine HC.cond rfl (fun hc => ?_) (fun hc => ?_)
        | refine HC.cond_b rfl (fun hc => ?_) (fun hc => ?_))
      refine HC.cut (α := Nat × (Nat → ByteArray)) (fun z => [(1, .int .i64 which), (2, .slice ac nc cc), (7, .bool true), (8, .string S), (9, iv k), (10, iv n), (12, .slice (some ⟨ba, 0, none⟩) n n), (17, iv 170), (19, iv 170), (20, .slice (some ⟨bh, 0, none⟩) n ch), (21, .slice (some ⟨be, 0, none⟩) n n), (22, .bool (decide (0 < z.1)))])
        (fun z => [A.blk be (row n fun _ => .bool true) 4, A.grow 9 1 (some ⟨bh, 0, none⟩) ch n (row n fun q => .string (z.2 q))])
        (fun z => z.1 ≤ n - k ∧ n ≤ cnt n (fun q => decide (z.2 q = codeA S k q)) + z.1 ∧ (0 < z.1 → ∃ q, q < n ∧ z.2 q ≠ codeA S k q)) ?_ ?_
      · repeat' (first
          | apply HL.fold
          | apply HA.fold
          | apply HL.nil
          | apply HX.n_then
          | apply HC.seq
          | apply HC.region
          | refine HL.pa ?_
          | refine HL.ga rfl ?_
          | refine HL.na rfl ?_
          | refine HL.nu rfl rfl ?_
          | apply HC.block
          | apply HC.skip
          | apply HC.exit
          | apply HC.ret
          | apply HX.e_block
          | refine HX.e_other rfl ?_
          | apply HX.e_then
          | apply HX.e_again
          | apply HX.n_block
          | apply HX.r_then
          | apply HX.r_block
          | apply HX.r_again
          | refine HC.cond_yes rfl ?_
          | refine HC.cond_no rfl ?_
          | refine HL.one (H1.ldb rfl (by first | ((repeat (first | with_reducible exact mem_hd | with_reducible apply mem_tl)); done) | (repeat (first | exact List.Mem.head _ | apply List.Mem.tail))) rfl rfl ?_)
          | refine HC.cond rfl (fun hc => ?_) (fun hc => ?_)
          | refine HC.cond_b rfl (fun hc => ?_) (fun hc => ?_))
        refine HC.loop (α := Nat × (Nat → ByteArray)) (fun z => [(1, .int .i64 which), (2, .slice ac nc cc), (7, .bool true), (8, .string S), (9, iv k), (10, iv n), (12, .slice (some ⟨ba, 0, none⟩) n n), (17, iv 170), (19, iv 170), (20, .slice (some ⟨bh, 0, none⟩) n ch), (21, .slice (some ⟨be, 0, none⟩) n n), (22, .bool (decide (0 < z.1))), (24, iv z.1)])
          (fun z => [A.blk be (row n fun _ => .bool true) 4, A.grow 9 1 (some ⟨bh, 0, none⟩) ch n (row n fun q => .string (z.2 q)), A.rd (.slice (some ⟨ba, 0, none⟩) n n) (row n fun q => .string (codeA S k q))])
          (fun z => z.1 ≤ n - k ∧ n ≤ cnt n (fun q => decide (z.2 q = codeA S k q)) + z.1 ∧ (0 < z.1 → ∃ q, q < n ∧ z.2 q ≠ codeA S k q)) (fun z => n - k - z.1) (0, codeA S k)
          ⟨by simp, by rw [cnt_all fun q _ => by simp]; simp, fun h => absurd h (Nat.lt_irrefl 0)⟩ (by repeat (first | exact trivial | refine ⟨rfl, ?_⟩)) (by repeat (first | exact Hs.nil _ | (refine Hs.cons (by first | ((repeat (first | with_reducible exact Pick.here | with_reducible apply Pick.there)); done) | (repeat (first | exact Pick.here | apply Pick.there))) ?_))) ?_
        rintro ⟨i, g⟩ ⟨hi, hcg, hex⟩
        dsimp only at hi hcg hex ⊢
        by_cases h1 : i < nc
        · by_cases h2 : i < n - k
          · have h2' : (i : Int) < (n : Int) - k := by omega
            rcases hcells with hcells | ⟨bc, offc, rfl, hbc, hcells⟩
            · omega
            obtain ⟨r1, r2⟩ := pickI_lt (x i 0) (n := (n : Int)) (by omega)
            obtain ⟨V, hV⟩ : ∃ j : Nat, pickI (x i 0) n = j := ⟨(pickI (x i 0) n).toNat, by omega⟩
            have hVn : V < n := by omega
            obtain ⟨D, hD⟩ : ∃ D, D = chgS (codeA S k V) (pickI (x i 1) (codeA S k V).size).toNat (1 + (pickI (x i 2) 255).toNat) := ⟨_, rfl⟩
            have hDne : D ≠ codeA S k V := by rw [hD]; exact hne _ _ V
            repeat' (first
              | apply HL.fold
              | apply HA.fold
              | apply HL.nil
              | apply HX.n_then
              | apply HC.seq
              | apply HC.region
              | refine HL.pa ?_
              | refine HL.ga rfl ?_
              | refine HL.na rfl ?_
              | refine HL.nu rfl rfl ?_
              | apply HC.block
              | apply HC.skip
              | apply HC.exit
              | apply HC.ret
              | apply HX.e_block
              | refine HX.e_other rfl ?_
              | apply HX.e_then
              | apply HX.e_again
              | apply HX.n_block
              | apply HX.r_then
              | apply HX.r_block
              | apply HX.r_again
              | refine HC.cond_yes rfl ?_
              | refine HC.cond_no rfl ?_
              | refine HL.one (H1.ldb rfl (by first | ((repeat (first | with_reducible exact mem_hd | with_reducible apply mem_tl)); done) | (repeat (first | exact List.Mem.head _ | apply List.Mem.tail))) rfl rfl ?_)
              | refine HC.cond rfl (fun hc => ?_) (fun hc => ?_)
              | refine HC.cond_b rfl (fun hc => ?_) (fun hc => ?_))
            refine HL.one (H1.ld0 rfl (hcells i 0 h1 (by decide)) rfl ?_)
            repeat' (first
              | apply HL.fold
              | apply HA.fold
              | apply HL.nil
              | apply HX.n_then
              | apply HC.seq
              | apply HC.region
              | refine HL.pa ?_
              | refine HL.ga rfl ?_
              | refine HL.na rfl ?_
              | refine HL.nu rfl rfl ?_
              | apply HC.block
              | apply HC.skip
              | apply HC.exit
              | apply HC.ret
              | apply HX.e_block
              | refine HX.e_other rfl ?_
              | apply HX.e_then
              | apply HX.e_again
              | apply HX.n_block
              | apply HX.r_then
              | apply HX.r_block
              | apply HX.r_again
              | refine HC.cond_yes rfl ?_
              | refine HC.cond_no rfl ?_
              | refine HL.one (H1.ldb rfl (by first | ((repeat (first | with_reducible exact mem_hd | with_reducible apply mem_tl)); done) | (repeat (first | exact List.Mem.head _ | apply List.Mem.tail))) rfl rfl ?_)
              | refine HC.cond rfl (fun hc => ?_) (fun hc => ?_)
              | refine HC.cond_b rfl (fun hc => ?_) (fun hc => ?_))
            refine HL.one (H1.call0 (vs := [.int .i64 (x i 0), iv n]) rfl rfl (fun w _ => pick_fn (x i 0) n (hx i 0).1 (hx i 0).2 (by omega) w) ?_)
            rw [hV]
            have hstep : n ≤ cnt n (fun q => decide ((if q = V then D else g q) = codeA S k q)) + (i + 1) := by
              have h3 := cnt_upd_false (fun q => decide (g q = codeA S k q)) V n
              have h4 : cnt n (fun q => decide ((if q = V then D else g q) = codeA S k q)) = cnt n (upd (fun q => decide (g q = codeA S k q)) V false) := cnt_congr fun q _ => by
                by_cases e : q = V
                · subst e; simp [upd, hDne]
                · simp [upd, e]
              omega
            repeat' (first
              | apply HL.fold
              | apply HA.fold
              | apply HL.nil
              | apply HX.n_then
              | apply HC.seq
              | apply HC.region
              | refine HL.pa ?_
              | refine HL.ga rfl ?_
              | refine HL.na rfl ?_
              | refine HL.nu rfl rfl ?_
              | apply HC.block
              | apply HC.skip
              | apply HC.exit
              | apply HC.ret
              | apply HX.e_block
              | refine HX.e_other rfl ?_
              | apply HX.e_then
              | apply HX.e_again
              | apply HX.n_block
              | apply HX.r_then
              | apply HX.r_block
              | apply HX.r_again
              | refine HC.cond_yes rfl ?_
              | refine HC.cond_no rfl ?_
              | refine HL.one (H1.ldb rfl (by first | ((repeat (first | with_reducible exact mem_hd | with_reducible apply mem_tl)); done) | (repeat (first | exact List.Mem.head _ | apply List.Mem.tail))) rfl rfl ?_)
              | refine HC.cond rfl (fun hc => ?_) (fun hc => ?_)
              | refine HC.cond_b rfl (fun hc => ?_) (fun hc => ?_))
            refine HC.any rfl ?_
            refine HA.pa 0 rfl ?_
            refine HA.pa 1 rfl ?_
            refine HA.pa 2 rfl ?_
            refine HA.pa 3 rfl ?_
            refine HA.pa 4 rfl ?_
            refine HA.pa 6 rfl ?_
            refine HA.pa 7 rfl ?_
            refine HA.pa 8 rfl ?_
            refine HA.all [5, 9] (by kernel_rfl) rfl ⟨⟨_, rfl, ?_⟩, ⟨_, rfl, ?_⟩, trivial⟩
            · refine HO.one ?_
              refine H1.ldr (by rw [Nat.zero_add]; rfl) (by first | ((repeat (first | with_reducible exact mem_hd | with_reducible apply mem_tl)); done) | (repeat (first | exact List.Mem.head _ | apply List.Mem.tail))) (row_get _ hVn) rfl ?_
              apply HA.fold
              refine HA.all [9] (by kernel_rfl) rfl ⟨⟨_, rfl, ?_⟩, trivial⟩
              refine HO.one ?_
              refine H1.ldAggw (vs := [.int .i64 (x i 0), .int .i64 (x i 1), .int .i64 (x i 2)]) rfl rfl (fun w hM j v hj => ?_) rfl ?_
              · match j, hj with
                | 0, hj => cases hj; exact cell_ext hM.ext (hcells i 0 h1 (by decide))
                | 1, hj => cases hj; exact cell_ext hM.ext (hcells i 1 h1 (by decide))
                | 2, hj => cases hj; exact cell_ext hM.ext (hcells i 2 h1 (by decide))
              apply HA.fold
              refine HA.all [10] (by kernel_rfl) rfl ⟨⟨_, rfl, ?_⟩, trivial⟩
              refine HO.one ?_
              refine H1.callx (vs := [.string (codeA S k V), .agg #[.int .i64 (x i 0), .int .i64 (x i 1), .int .i64 (x i 2)]]) rfl rfl (fun w _ => changed_fn (codeA S k V) (x i 0) (x i 1) (x i 2) (hx i 1) (hx i 2) (by rw [hsz]; omega) (by rw [hsz]; omega) w) ?_
              rw [← hD]
              apply HA.fold
              refine HA.pa 11 rfl ?_
              refine HA.all [12] (by kernel_rfl) rfl ⟨⟨_, rfl, ?_⟩, trivial⟩
              refine HO.one ?_
              refine H1.stg rfl rfl (by intro _ h; cases h) (by intro _ h; cases h) (by first | ((repeat (first | with_reducible exact Rpl.here | with_reducible apply Rpl.there)); done) | (repeat (first | exact Rpl.here | apply Rpl.there))) (by rw [row_len]; omega) ?_
              apply HA.fold
              refine HA.done (by kernel_rfl) ?_
              repeat' (first
                | apply HL.fold
                | apply HA.fold
                | apply HL.nil
                | apply HX.n_then
                | apply HC.seq
                | apply HC.region
                | refine HL.pa ?_
                | refine HL.ga rfl ?_
                | refine HL.na rfl ?_
                | refine HL.nu rfl rfl ?_
                | apply HC.block
                | apply HC.skip
                | apply HC.exit
                | apply HC.ret
                | apply HX.e_block
                | refine HX.e_other rfl ?_
                | apply HX.e_then
                | apply HX.e_again
                | apply HX.n_block
                | apply HX.r_then
                | apply HX.r_block
                | apply HX.r_again
                | refine HC.cond_yes rfl ?_
                | refine HC.cond_no rfl ?_
                | refine HL.one (H1.ldb rfl (by first | ((repeat (first | with_reducible exact mem_hd | with_reducible apply mem_tl)); done) | (repeat (first | exact List.Mem.head _ | apply List.Mem.tail))) rfl rfl ?_)
                | refine HC.cond rfl (fun hc => ?_) (fun hc => ?_)
                | refine HC.cond_b rfl (fun hc => ?_) (fun hc => ?_))
              refine HX.again (i + 1, fun q => if q = V then D else g q) ⟨by show i + 1 ≤ n - k; omega, hstep, fun _ => ⟨V, hVn, by show (if V = V then D else g V) ≠ _; rw [if_pos rfl]; exact hDne⟩⟩ (by show n - k - (i + 1) < n - k - i; omega) ⟨rfl, rfl, rfl, rfl, rfl, rfl, rfl, rfl, rfl, rfl, rfl, (by simp; rfl), rfl, trivial⟩
                (Hs.cons Pick.here (Hs.cons (Pick.eq ?_) (by repeat (first | exact Hs.nil _ | (refine Hs.cons (by first | ((repeat (first | with_reducible exact Pick.here | with_reducible apply Pick.there)); done) | (repeat (first | exact Pick.here | apply Pick.there))) ?_)))))
              rw [row_set]
              congr 1
              apply row_congr
              intro q _
              by_cases e : q = V
              · simp [e]
              · simp [e]
            · refine HO.one ?_
              refine H1.ldAggw (vs := [.int .i64 (x i 0), .int .i64 (x i 1), .int .i64 (x i 2)]) rfl rfl (fun w hM j v hj => ?_) rfl ?_
              · match j, hj with
                | 0, hj => cases hj; exact cell_ext hM.ext (hcells i 0 h1 (by decide))
                | 1, hj => cases hj; exact cell_ext hM.ext (hcells i 1 h1 (by decide))
                | 2, hj => cases hj; exact cell_ext hM.ext (hcells i 2 h1 (by decide))
              apply HA.fold
              refine HA.all [5] (by kernel_rfl) rfl ⟨⟨_, rfl, ?_⟩, trivial⟩
              refine HO.one ?_
              refine H1.ldr (by rw [Nat.zero_add]; rfl) (by first | ((repeat (first | with_reducible exact mem_hd | with_reducible apply mem_tl)); done) | (repeat (first | exact List.Mem.head _ | apply List.Mem.tail))) (row_get _ hVn) rfl ?_
              apply HA.fold
              refine HA.all [10] (by kernel_rfl) rfl ⟨⟨_, rfl, ?_⟩, trivial⟩
              refine HO.one ?_
              refine H1.callx (vs := [.string (codeA S k V), .agg #[.int .i64 (x i 0), .int .i64 (x i 1), .int .i64 (x i 2)]]) rfl rfl (fun w _ => changed_fn (codeA S k V) (x i 0) (x i 1) (x i 2) (hx i 1) (hx i 2) (by rw [hsz]; omega) (by rw [hsz]; omega) w) ?_
              rw [← hD]
              apply HA.fold
              refine HA.pa 11 rfl ?_
              refine HA.all [12] (by kernel_rfl) rfl ⟨⟨_, rfl, ?_⟩, trivial⟩
              refine HO.one ?_
              refine H1.stg rfl rfl (by intro _ h; cases h) (by intro _ h; cases h) (by first | ((repeat (first | with_reducible exact Rpl.here | with_reducible apply Rpl.there)); done) | (repeat (first | exact Rpl.here | apply Rpl.there))) (by rw [row_len]; omega) ?_
              apply HA.fold
              refine HA.done (by kernel_rfl) ?_
              repeat' (first
                | apply HL.fold
                | apply HA.fold
                | apply HL.nil
                | apply HX.n_then
                | apply HC.seq
                | apply HC.region
                | refine HL.pa ?_
                | refine HL.ga rfl ?_
                | refine HL.na rfl ?_
                | refine HL.nu rfl rfl ?_
                | apply HC.block
                | apply HC.skip
                | apply HC.exit
                | apply HC.ret
                | apply HX.e_block
                | refine HX.e_other rfl ?_
                | apply HX.e_then
                | apply HX.e_again
                | apply HX.n_block
                | apply HX.r_then
                | apply HX.r_block
                | apply HX.r_again
                | refine HC.cond_yes rfl ?_
                | refine HC.cond_no rfl ?_
                | refine HL.one (H1.ldb rfl (by first | ((repeat (first | with_reducible exact mem_hd | with_reducible apply mem_tl)); done) | (repeat (first | exact List.Mem.head _ | apply List.Mem.tail))) rfl rfl ?_)
                | refine HC.cond rfl (fun hc => ?_) (fun hc => ?_)
                | refine HC.cond_b rfl (fun hc => ?_) (fun hc => ?_))
              refine HX.again (i + 1, fun q => if q = V then D else g q) ⟨by show i + 1 ≤ n - k; omega, hstep, fun _ => ⟨V, hVn, by show (if V = V then D else g V) ≠ _; rw [if_pos rfl]; exact hDne⟩⟩ (by show n - k - (i + 1) < n - k - i; omega) ⟨rfl, rfl, rfl, rfl, rfl, rfl, rfl, rfl, rfl, rfl, rfl, (by simp; rfl), rfl, trivial⟩
                (Hs.cons Pick.here (Hs.cons (Pick.eq ?_) (by repeat (first | exact Hs.nil _ | (refine Hs.cons (by first | ((repeat (first | with_reducible exact Pick.here | with_reducible apply Pick.there)); done) | (repeat (first | exact Pick.here | apply Pick.there))) ?_)))))
              rw [row_set]
              congr 1
              apply row_congr
              intro q _
              by_cases e : q = V
              · simp [e]
              · simp [e]
          · have h2' : ¬ (i : Int) < (n : Int) - k := by omega
            repeat' (first
              | apply HL.fold
              | apply HA.fold
              | apply HL.nil
              | apply HX.n_then
              | apply HC.seq
              | apply HC.region
              | refine HL.pa ?_
              | refine HL.ga rfl ?_
              | refine HL.na rfl ?_
              | refine HL.nu rfl rfl ?_
              | apply HC.block
              | apply HC.skip
              | apply HC.exit
              | apply HC.ret
              | apply HX.e_block
              | refine HX.e_other rfl ?_
              | apply HX.e_then
              | apply HX.e_again
              | apply HX.n_block
              | apply HX.r_then
              | apply HX.r_block
              | apply HX.r_again
              | refine HC.cond_yes rfl ?_
              | refine HC.cond_no rfl ?_
              | refine HL.one (H1.ldb rfl (by first | ((repeat (first | with_reducible exact mem_hd | with_reducible apply mem_tl)); done) | (repeat (first | exact List.Mem.head _ | apply List.Mem.tail))) rfl rfl ?_)
              | refine HC.cond rfl (fun hc => ?_) (fun hc => ?_)
              | refine HC.cond_b rfl (fun hc => ?_) (fun hc => ?_))
            exact HX.cut (i, g) ⟨hi, hcg, hex⟩ (by repeat (first | exact trivial | refine ⟨rfl, ?_⟩)) (by repeat (first | exact Hs.nil _ | (refine Hs.cons (by first | ((repeat (first | with_reducible exact Pick.here | with_reducible apply Pick.there)); done) | (repeat (first | exact Pick.here | apply Pick.there))) ?_)))
        · repeat' (first
            | apply HL.fold
            | apply HA.fold
            | apply HL.nil
            | apply HX.n_then
            | apply HC.seq
            | apply HC.region
            | refine HL.pa ?_
            | refine HL.ga rfl ?_
            | refine HL.na rfl ?_
            | refine HL.nu rfl rfl ?_
            | apply HC.block
            | apply HC.skip
            | apply HC.exit
            | apply HC.ret
            | apply HX.e_block
            | refine HX.e_other rfl ?_
            | apply HX.e_then
            | apply HX.e_again
            | apply HX.n_block
            | apply HX.r_then
            | apply HX.r_block
            | apply HX.r_again
            | refine HC.cond_yes rfl ?_
            | refine HC.cond_no rfl ?_
            | refine HL.one (H1.ldb rfl (by first | ((repeat (first | with_reducible exact mem_hd | with_reducible apply mem_tl)); done) | (repeat (first | exact List.Mem.head _ | apply List.Mem.tail))) rfl rfl ?_)
            | refine HC.cond rfl (fun hc => ?_) (fun hc => ?_)
            | refine HC.cond_b rfl (fun hc => ?_) (fun hc => ?_))
          exact HX.cut (i, g) ⟨hi, hcg, hex⟩ (by repeat (first | exact trivial | refine ⟨rfl, ?_⟩)) (by repeat (first | exact Hs.nil _ | (refine Hs.cons (by first | ((repeat (first | with_reducible exact Pick.here | with_reducible apply Pick.there)); done) | (repeat (first | exact Pick.here | apply Pick.there))) ?_)))
      · rintro ⟨i, g⟩ ⟨hi, hcg, hex⟩
        dsimp only at hi hcg hex ⊢
        have hRe : ∀ w', Mm w3 [A.blk be (row n fun _ => .bool true) 4, A.grow 9 1 (some ⟨bh, 0, none⟩) ch n (strs ((List.range n).map g))] w' → Rd w' (.slice (some ⟨be, 0, none⟩) n n) (bools ((List.range n).map fun _ => true)) := fun w' hM => by
          have := Rd.of_row (hM.blk (by first | ((repeat (first | with_reducible exact mem_hd | with_reducible apply mem_tl)); done) | (repeat (first | exact List.Mem.head _ | apply List.Mem.tail)))) (Nat.le_refl _) (Nat.le_refl n)
          refine (congrArg (Rd w' _) ?_).mp this
          simp [bools]
        have htall : ∀ q, q < n → tf ((List.range n).map fun _ => true) q = true := fun q hq => by simp [tf, hq]
        have hlg : ((List.range n).map g).length = n := by simp
        have hlt2 : ((List.range n).map fun _ : Nat => true).length = n := by simp
        rw [← strs_row]
        by_cases hi0 : i = 0
        · subst hi0
          have hag : Agree ((List.range n).map g) ((List.range n).map fun _ => true) S k := ⟨hk1, by omega, fun q hq _ => by
              rw [hlt2] at hq
              rw [fr_range _ hq]
              have := cnt_full (f := fun q => decide (g q = codeA S k q)) (by omega) hq
              simpa using this, cN_len (by
                rw [hlt2]
                show k ≤ cnt n _
                rw [cnt_all htall]; omega)⟩
          have hj := hag.join (by omega) (show S.size ≤ 4096 * k by omega)
          have hb1 : (decide (0 < 0) == decide ((0 : Int) = 170)) = true := by decide
          repeat' (first
            | apply HL.fold
            | apply HA.fold
            | apply HL.nil
            | apply HX.n_then
            | apply HC.seq
            | apply HC.region
            | refine HL.pa ?_
            | refine HL.ga rfl ?_
            | refine HL.na rfl ?_
            | refine HL.nu rfl rfl ?_
            | apply HC.block
            | apply HC.skip
            | apply HC.exit
            | apply HC.ret
            | apply HX.e_block
            | refine HX.e_other rfl ?_
            | apply HX.e_then
            | apply HX.e_again
            | apply HX.n_block
            | apply HX.r_then
            | apply HX.r_block
            | apply HX.r_again
            | refine HC.cond_yes rfl ?_
            | refine HC.cond_no rfl ?_
            | refine HL.one (H1.ldb rfl (by first | ((repeat (first | with_reducible exact mem_hd | with_reducible apply mem_tl)); done) | (repeat (first | exact List.Mem.head _ | apply List.Mem.tail))) rfl rfl ?_)
            | refine HC.cond rfl (fun hc => ?_) (fun hc => ?_)
            | refine HC.cond_b rfl (fun hc => ?_) (fun hc => ?_))
          refine HL.one (H1.callx rfl rfl (fun w hM => join_yes hj (by omega) (by omega) w (hr3.ext hM.ext) (hM.gr (by first | ((repeat (first | with_reducible exact mem_hd | with_reducible apply mem_tl)); done) | (repeat (first | exact List.Mem.head _ | apply List.Mem.tail)))) (hRe w hM)) ?_)
          repeat' (first
            | apply HL.fold
            | apply HA.fold
            | apply HL.nil
            | apply HX.n_then
            | apply HC.seq
            | apply HC.region
            | refine HL.pa ?_
            | refine HL.ga rfl ?_
            | refine HL.na rfl ?_
            | refine HL.nu rfl rfl ?_
            | apply HC.block
            | apply HC.skip
            | apply HC.exit
            | apply HC.ret
            | apply HX.e_block
            | refine HX.e_other rfl ?_
            | apply HX.e_then
            | apply HX.e_again
            | apply HX.n_block
            | apply HX.r_then
            | apply HX.r_block
            | apply HX.r_again
            | refine HC.cond_yes rfl ?_
            | refine HC.cond_no rfl ?_
            | refine HL.one (H1.ldb rfl (by first | ((repeat (first | with_reducible exact mem_hd | with_reducible apply mem_tl)); done) | (repeat (first | exact List.Mem.head _ | apply List.Mem.tail))) rfl rfl ?_)
            | refine HC.cond rfl (fun hc => ?_) (fun hc => ?_)
            | refine HC.cond_b rfl (fun hc => ?_) (fun hc => ?_))
          exact HX.ret1 rfl rfl fun w' hM => ⟨rfl, x03.trans hM.ext⟩
        · obtain ⟨q, hq, hqne⟩ := hex (by omega)
          have hno2 : ¬ CompOK ((List.range n).map g) ((List.range n).map fun _ => true) k :=
            noticed hlg (fun q => decide (g q = codeA S k q)) (fun q hq hd => ⟨htall q hq, by rw [fr_range _ hq]; simpa using hd⟩) (by omega) hq (htall q hq) (by rw [fr_range _ hq]; exact hqne)
          have hb0 : decide (0 < i) = true := by simp; omega
          have hb1 : (true == decide ((170 : Int) = 170)) = true := by decide
          rw [hb0]
          repeat' (first
            | apply HL.fold
            | apply HA.fold
            | apply HL.nil
            | apply HX.n_then
            | apply HC.seq
            | apply HC.region
            | refine HL.pa ?_
            | refine HL.ga rfl ?_
            | refine HL.na rfl ?_
            | refine HL.nu rfl rfl ?_
            | apply HC.block
            | apply HC.skip
            | apply HC.exit
            | apply HC.ret
            | apply HX.e_block
            | refine HX.e_other rfl ?_
            | apply HX.e_then
            | apply HX.e_again
            | apply HX.n_block
            | apply HX.r_then
            | apply HX.r_block
            | apply HX.r_again
            | refine HC.cond_yes rfl ?_
            | refine HC.cond_no rfl ?_
            | refine HL.one (H1.ldb rfl (by first | ((repeat (first | with_reducible exact mem_hd | with_reducible apply mem_tl)); done) | (repeat (first | exact List.Mem.head _ | apply List.Mem.tail))) rfl rfl ?_)
            | refine HC.cond rfl (fun hc => ?_) (fun hc => ?_)
            | refine HC.cond_b rfl (fun hc => ?_) (fun hc => ?_))
          refine HL.one (H1.callx rfl rfl (fun w hM => join_no (fun h => hno2 h.1) (by omega) (by omega) w (hr3.ext hM.ext) (hM.gr (by first | ((repeat (first | with_reducible exact mem_hd | with_reducible apply mem_tl)); done) | (repeat (first | exact List.Mem.head _ | apply List.Mem.tail)))) (hRe w hM)) ?_)
          repeat' (first
            | apply HL.fold
            | apply HA.fold
            | apply HL.nil
            | apply HX.n_then
            | apply HC.seq
            | apply HC.region
            | refine HL.pa ?_
            | refine HL.ga rfl ?_
            | refine HL.na rfl ?_
            | refine HL.nu rfl rfl ?_
            | apply HC.block
            | apply HC.skip
            | apply HC.exit
            | apply HC.ret
            | apply HX.e_block
            | refine HX.e_other rfl ?_
            | apply HX.e_then
            | apply HX.e_again
            | apply HX.n_block
            | apply HX.r_then
            | apply HX.r_block
            | apply HX.r_again
            | refine HC.cond_yes rfl ?_
            | refine HC.cond_no rfl ?_
            | refine HL.one (H1.ldb rfl (by first | ((repeat (first | with_reducible exact mem_hd | with_reducible apply mem_tl)); done) | (repeat (first | exact List.Mem.head _ | apply List.Mem.tail))) rfl rfl ?_)
            | refine HC.cond rfl (fun hc => ?_) (fun hc => ?_)
            | refine HC.cond_b rfl (fun hc => ?_) (fun hc => ?_))
          exact HX.ret1 rfl rfl fun w' hM => ⟨rfl, x03.trans hM.ext⟩
end Go.Sx

