/- Chapter 17: the law CodeAny. -/
import Derived.Test.YtacamanakmeebaaDoorL4
import Derived.Test.YtacamanakmeebaaDoorGE
namespace Go.Sx
open Go Go.Proofs
attribute [local irreducible] WC WL WX POp Then Again Fn NX W1 WA WO QL RP RA Yld LoopAt HC HL HX HN H1 HA HO HQ A.blk A.grow A.rd A.obj AgainH CutH
set_option maxHeartbeats 4000000 in
theorem codeAny_fn (s o : ByteArray) (K N T : Int) (hos : o.size ≤ 9223372036854775807) (hK : -9223372036854775808 ≤ K ∧ K ≤ 9223372036854775807) (hN : -9223372036854775808 ≤ N ∧ N ≤ 9223372036854775807) (hT : -9223372036854775808 ≤ T ∧ T ≤ 9223372036854775807) (w : World) (hr : Red w) :
    Fn Tryd.prog 6 #[.agg #[.string s, .int .i64 K, .int .i64 N, .int .i64 T], .string o] w fun v w' => v = .bool true ∧ Ext w w' := by
  refine enterH (l := [_, _]) rfl Tryd.ntmps6 rfl ?_
  repeat' (first
    | apply HL.fold
    | apply HA.fold
    | apply HL.nil
    | apply HX.n_then
    | apply HC.seq
    | apply HC.region
    | refine HL.pa ?_
    | refine HL.ga rfl ?_
    | refine HL.na rfl ?_
    | refine HL.nu rfl rfl ?_
    | apply HC.block
    | apply HC.skip
    | apply HC.exit
    | apply HC.ret
    | apply HX.e_block
    | refine HX.e_other rfl ?_
    | apply HX.e_then
    | apply HX.e_again
    | apply HX.n_block
    | apply HX.r_then
    | apply HX.r_block
    | apply HX.r_again
    | refine HC.cond_yes rfl ?_
    | refine HC.cond_no rfl ?_
    | refine HL.one (H1.ldb rfl (by first | ((repeat (first | with_reducible exact mem_hd | with_reducible apply mem_tl)); done) | (repeat (first | exact List.Mem.head _ | apply List.Mem.tail))) rfl rfl ?_)
    | refine HC.cond rfl (fun hc => ?_) (fun hc => ?_)
    | refine HC.cond_b rfl (fun hc => ?_) (fun hc => ?_))
  refine HL.one (H1.boxAgg (cs := [.string s, .int .i64 K, .int .i64 N, .int .i64 T]) rfl rfl (fun b1 => ?_))
  repeat' (first
    | apply HL.fold
    | apply HA.fold
    | apply HL.nil
    | apply HX.n_then
    | apply HC.seq
    | apply HC.region
    | refine HL.pa ?_
    | refine HL.ga rfl ?_
    | refine HL.na rfl ?_
    | refine HL.nu rfl rfl ?_
    | apply HC.block
    | apply HC.skip
    | apply HC.exit
    | apply HC.ret
    | apply HX.e_block
    | refine HX.e_other rfl ?_
    | apply HX.e_then
    | apply HX.e_again
    | apply HX.n_block
    | apply HX.r_then
    | apply HX.r_block
    | apply HX.r_again
    | refine HC.cond_yes rfl ?_
    | refine HC.cond_no rfl ?_
    | refine HL.one (H1.ldb rfl (by first | ((repeat (first | with_reducible exact mem_hd | with_reducible apply mem_tl)); done) | (repeat (first | exact List.Mem.head _ | apply List.Mem.tail))) rfl rfl ?_)
    | refine HC.cond rfl (fun hc => ?_) (fun hc => ?_)
    | refine HC.cond_b rfl (fun hc => ?_) (fun hc => ?_))
  refine HL.one (H1.callx rfl rfl (fun w hM => sane_x w (hr.ext hM.ext)) ?_)
  repeat' (first
    | apply HL.fold
    | apply HA.fold
    | apply HL.nil
    | apply HX.n_then
    | apply HC.seq
    | apply HC.region
    | refine HL.pa ?_
    | refine HL.ga rfl ?_
    | refine HL.na rfl ?_
    | refine HL.nu rfl rfl ?_
    | apply HC.block
    | apply HC.skip
    | apply HC.exit
    | apply HC.ret
    | apply HX.e_block
    | refine HX.e_other rfl ?_
    | apply HX.e_then
    | apply HX.e_again
    | apply HX.n_block
    | apply HX.r_then
    | apply HX.r_block
    | apply HX.r_again
    | refine HC.cond_yes rfl ?_
    | refine HC.cond_no rfl ?_
    | refine HL.one (H1.ldb rfl (by first | ((repeat (first | with_reducible exact mem_hd | with_reducible apply mem_tl)); done) | (repeat (first | exact List.Mem.head _ | apply List.Mem.tail))) rfl rfl ?_)
    | refine HC.cond rfl (fun hc => ?_) (fun hc => ?_)
    | refine HC.cond_b rfl (fun hc => ?_) (fun hc => ?_))
  refine HL.one (H1.ldAgg (vs := [.string s, .int .i64 K, .int .i64 N, .int .i64 T]) rfl (by first | ((repeat (first | with_reducible exact mem_hd | with_reducible apply mem_tl)); done) | (repeat (first | exact List.Mem.head _ | apply List.Mem.tail))) rfl (fun i v hv => by rw [Nat.zero_add]; exact hv) rfl ?_)
  repeat' (first
    | apply HL.fold
    | apply HA.fold
    | apply HL.nil
    | apply HX.n_then
    | apply HC.seq
    | apply HC.region
    | refine HL.pa ?_
    | refine HL.ga rfl ?_
    | refine HL.na rfl ?_
    | refine HL.nu rfl rfl ?_
    | apply HC.block
    | apply HC.skip
    | apply HC.exit
    | apply HC.ret
    | apply HX.e_block
    | refine HX.e_other rfl ?_
    | apply HX.e_then
    | apply HX.e_again
    | apply HX.n_block
    | apply HX.r_then
    | apply HX.r_block
    | apply HX.r_again
    | refine HC.cond_yes rfl ?_
    | refine HC.cond_no rfl ?_
    | refine HL.one (H1.ldb rfl (by first | ((repeat (first | with_reducible exact mem_hd | with_reducible apply mem_tl)); done) | (repeat (first | exact List.Mem.head _ | apply List.Mem.tail))) rfl rfl ?_)
    | refine HC.cond rfl (fun hc => ?_) (fun hc => ?_)
    | refine HC.cond_b rfl (fun hc => ?_) (fun hc => ?_))
  refine HL.one (H1.callr (vs := [.agg #[.string s, .int .i64 K, .int .i64 N, .int .i64 T], iv 0]) rfl rfl (fun w _ => made_z s K N T hK hN hT 0 (by decide) w) ?_)
  rintro wa va w3 hMa ⟨S, k, n, th, bt, offt, ct, rfl, x3, hS, hS2, hk1, hkn, hn9, hth, hRt, hct, hcnt, -, -⟩
  have x03 : Ext w w3 := hMa.ext.trans x3
  have hr3 := hr.ext x03
  repeat' (first
    | apply HL.fold
    | apply HA.fold
    | apply HL.nil
    | apply HX.n_then
    | apply HC.seq
    | apply HC.region
    | refine HL.pa ?_
    | refine HL.ga rfl ?_
    | refine HL.na rfl ?_
    | refine HL.nu rfl rfl ?_
    | apply HC.block
    | apply HC.skip
    | apply HC.exit
    | apply HC.ret
    | apply HX.e_block
    | refine HX.e_other rfl ?_
    | apply HX.e_then
    | apply HX.e_again
    | apply HX.n_block
    | apply HX.r_then
    | apply HX.r_block
    | apply HX.r_again
    | refine HC.cond_yes rfl ?_
    | refine HC.cond_no rfl ?_
    | refine HL.one (H1.ldb rfl (by first | ((repeat (first | with_reducible exact mem_hd | with_reducible apply mem_tl)); done) | (repeat (first | exact List.Mem.head _ | apply List.Mem.tail))) rfl rfl ?_)
    | refine HC.cond rfl (fun hc => ?_) (fun hc => ?_)
    | refine HC.cond_b rfl (fun hc => ?_) (fun hc => ?_))
  refine HL.one (H1.callz1 rfl rfl (fun w hM => split_z S k n hk1 hkn hn9 (by omega) w (hr3.ext hM.ext)) ?_)
  rintro ba -
  have hlc : (codeL S k n).length = n := codeL_len S k n
  repeat' (first
    | apply HL.fold
    | apply HA.fold
    | apply HL.nil
    | apply HX.n_then
    | apply HC.seq
    | apply HC.region
    | refine HL.pa ?_
    | refine HL.ga rfl ?_
    | refine HL.na rfl ?_
    | refine HL.nu rfl rfl ?_
    | apply HC.block
    | apply HC.skip
    | apply HC.exit
    | apply HC.ret
    | apply HX.e_block
    | refine HX.e_other rfl ?_
    | apply HX.e_then
    | apply HX.e_again
    | apply HX.n_block
    | apply HX.r_then
    | apply HX.r_block
    | apply HX.r_again
    | refine HC.cond_yes rfl ?_
    | refine HC.cond_no rfl ?_
    | refine HL.one (H1.ldb rfl (by first | ((repeat (first | with_reducible exact mem_hd | with_reducible apply mem_tl)); done) | (repeat (first | exact List.Mem.head _ | apply List.Mem.tail))) rfl rfl ?_)
    | refine HC.cond rfl (fun hc => ?_) (fun hc => ?_)
    | refine HC.cond_b rfl (fun hc => ?_) (fun hc => ?_))
  refine HL.one (H1.lit0 rfl (fun b2 => ?_))
  repeat' (first
    | apply HL.fold
    | apply HA.fold
    | apply HL.nil
    | apply HX.n_then
    | apply HC.seq
    | apply HC.region
    | refine HL.pa ?_
    | refine HL.ga rfl ?_
    | refine HL.na rfl ?_
    | refine HL.nu rfl rfl ?_
    | apply HC.block
    | apply HC.skip
    | apply HC.exit
    | apply HC.ret
    | apply HX.e_block
    | refine HX.e_other rfl ?_
    | apply HX.e_then
    | apply HX.e_again
    | apply HX.n_block
    | apply HX.r_then
    | apply HX.r_block
    | apply HX.r_again
    | refine HC.cond_yes rfl ?_
    | refine HC.cond_no rfl ?_
    | refine HL.one (H1.ldb rfl (by first | ((repeat (first | with_reducible exact mem_hd | with_reducible apply mem_tl)); done) | (repeat (first | exact List.Mem.head _ | apply List.Mem.tail))) rfl rfl ?_)
    | refine HC.cond rfl (fun hc => ?_) (fun hc => ?_)
    | refine HC.cond_b rfl (fun hc => ?_) (fun hc => ?_))
  refine HL.one (H1.app (sz := 1) (news := strs (codeL S k n)) rfl (by decide) rfl rfl (fun _ _ => by first | ((repeat (first | with_reducible exact Rpl.here | with_reducible apply Rpl.there)); done) | (repeat (first | exact Rpl.here | apply Rpl.there))) (by simp [strs, hlc]) (fun w hM j u hu => by rw [add_lit]; exact (hM.rd (by first | ((repeat (first | with_reducible exact mem_hd | with_reducible apply mem_tl)); done) | (repeat (first | exact List.Mem.head _ | apply List.Mem.tail)))).cell hu) (fun u hu => by
    obtain ⟨x, -, rfl⟩ := List.mem_map.1 hu; rfl) (by omega) (by decide) rfl (fun a' cg hg => ?_))
  obtain ⟨bg, rfl⟩ : ∃ b, a' = some ⟨b, 0, none⟩ := hg.resolve_left (by omega)
  rw [List.nil_append, Nat.zero_add, strs_code]
  obtain ⟨O, hO⟩ : ∃ O, O = o.extract 0 (min (o.size : Int) 60).toNat := ⟨_, rfl⟩
  have hmk := mOf_le (l := S.size) (show 0 < k by omega) (by omega)
  repeat' (first
    | apply HL.fold
    | apply HA.fold
    | apply HL.nil
    | apply HX.n_then
    | apply HC.seq
    | apply HC.region
    | refine HL.pa ?_
    | refine HL.ga rfl ?_
    | refine HL.na rfl ?_
    | refine HL.nu rfl rfl ?_
    | apply HC.skip
    | apply HC.exit
    | apply HC.ret
    | apply HX.e_block
    | refine HX.e_other rfl ?_
    | apply HX.e_then
    | apply HX.e_again
    | apply HX.n_block
    | apply HX.r_then
    | apply HX.r_block
    | apply HX.r_again
    | refine HC.cond_yes rfl ?_
    | refine HC.cond_no rfl ?_
    | refine HL.one (H1.ldb rfl (by first | ((repeat (first | with_reducible exact mem_hd | with_reducible apply mem_tl)); done) | (repeat (first | exact List.Mem.head _ | apply List.Mem.tail))) rfl rfl ?_)
    | refine HC.cond rfl (fun hc => ?_) (fun hc => ?_)
    | refine HC.cond_b rfl (fun hc => ?_) (fun hc => ?_))
  refine HC.cut (α := Unit) (fun _ => [(5, .bool true), (6, .string S), (7, iv k), (8, iv n), (9, .slice (some ⟨bt, offt, none⟩) n ct), (10, .slice (some ⟨ba, 0, none⟩) n n), (12, .slice (some ⟨bg, 0, none⟩) n cg), (13, .string (textS S k k))])
    (fun _ => [A.grow 9 1 (some ⟨bg, 0, none⟩) cg n (row n fun q => .string (if tf th q = false then O else codeA S k q)), A.rd (.slice (some ⟨ba, 0, none⟩) n n) (row n fun q => .string (codeA S k q))]) (fun _ => True) ?_ ?_
  · repeat' (first
      | apply HL.fold
      | apply HA.fold
      | apply HL.nil
      | apply HX.n_then
      | apply HC.seq
      | apply HC.region
      | refine HL.pa ?_
      | refine HL.ga rfl ?_
      | refine HL.na rfl ?_
      | refine HL.nu rfl rfl ?_
      | apply HC.block
      | apply HC.skip
      | apply HC.exit
      | apply HC.ret
      | apply HX.e_block
      | refine HX.e_other rfl ?_
      | apply HX.e_then
      | apply HX.e_again
      | apply HX.n_block
      | apply HX.r_then
      | apply HX.r_block
      | apply HX.r_again
      | refine HC.cond_yes rfl ?_
      | refine HC.cond_no rfl ?_
      | refine HL.one (H1.ldb rfl (by first | ((repeat (first | with_reducible exact mem_hd | with_reducible apply mem_tl)); done) | (repeat (first | exact List.Mem.head _ | apply List.Mem.tail))) rfl rfl ?_)
      | refine HC.cond rfl (fun hc => ?_) (fun hc => ?_)
      | refine HC.cond_b rfl (fun hc => ?_) (fun hc => ?_))
    refine HC.loop (α := Nat) (fun i => [(1, .string o), (5, .bool true), (6, .string S), (7, iv k), (8, iv n), (9, .slice (some ⟨bt, offt, none⟩) n ct), (10, .slice (some ⟨ba, 0, none⟩) n n), (12, .slice (some ⟨bg, 0, none⟩) n cg), (13, .string (textS S k (min i k))), (14, iv i)])
      (fun i => [A.grow 9 1 (some ⟨bg, 0, none⟩) cg n (row n fun q => .string (if q < i ∧ tf th q = false then O else codeA S k q)), A.rd (.slice (some ⟨ba, 0, none⟩) n n) (row n fun q => .string (codeA S k q))])
      (fun i => i ≤ n) (fun i => n - i) 0 (by omega) ⟨rfl, rfl, rfl, rfl, rfl, rfl, rfl, rfl, (by rw [Nat.zero_min]; rfl), rfl, trivial⟩ (by simp only [Nat.not_lt_zero, false_and, if_false]; repeat (first | exact Hs.nil _ | (refine Hs.cons (by first | ((repeat (first | with_reducible exact Pick.here | with_reducible apply Pick.there)); done) | (repeat (first | exact Pick.here | apply Pick.there))) ?_))) ?_
    intro i hi
    by_cases hlt : i < n
    · have hcell := hRt.cell (bools_get (i := i) (by omega))
      have hsz : (textS S k (min i k)).size ≤ 100000 := by
        rw [textS_size]
        have : min i k * mOf S.size k ≤ 9 * 4096 := Nat.mul_le_mul (by omega) hmk
        omega
      have hsz2 : (codeA S k i).size ≤ 4096 := by rw [codeA_size]; exact hmk
      have htx : i < k → textS S k (min i k) ++ codeA S k i = textS S k (min (i + 1) k) := fun h => by
        rw [Nat.min_eq_left (by omega), Nat.min_eq_left (by omega), textS_succ]
      have htx2 : ¬ i < k → textS S k (min i k) = textS S k (min (i + 1) k) := fun h => by
        rw [Nat.min_eq_right (by omega), Nat.min_eq_right (by omega)]
      repeat' (first
        | apply HL.fold
        | apply HA.fold
        | apply HL.nil
        | apply HX.n_then
        | apply HC.seq
        | apply HC.region
        | refine HL.pa ?_
        | refine HL.ga rfl ?_
        | refine HL.na rfl ?_
        | refine HL.nu rfl rfl ?_
        | apply HC.block
        | apply HC.skip
        | apply HC.exit
        | apply HC.ret
        | apply HX.e_block
        | refine HX.e_other rfl ?_
        | apply HX.e_then
        | apply HX.e_again
        | apply HX.n_block
        | apply HX.r_then
        | apply HX.r_block
        | apply HX.r_again
        | refine HC.cond_yes rfl ?_
        | refine HC.cond_no rfl ?_
        | refine HL.one (H1.ldb rfl (by first | ((repeat (first | with_reducible exact mem_hd | with_reducible apply mem_tl)); done) | (repeat (first | exact List.Mem.head _ | apply List.Mem.tail))) rfl rfl ?_))
      refine HC.cut (α := Unit) (fun _ => [(1, .string o), (5, .bool true), (6, .string S), (7, iv k), (8, iv n), (9, .slice (some ⟨bt, offt, none⟩) n ct), (10, .slice (some ⟨ba, 0, none⟩) n n), (12, .slice (some ⟨bg, 0, none⟩) n cg), (13, .string (textS S k (min (i + 1) k))), (14, iv i)])
        (fun _ => [A.grow 9 1 (some ⟨bg, 0, none⟩) cg n (row n fun q => .string (if q < i ∧ tf th q = false then O else codeA S k q)), A.rd (.slice (some ⟨ba, 0, none⟩) n n) (row n fun q => .string (codeA S k q))]) (fun _ => True) ?_ ?_
      · by_cases hik : i < k
        · rw [← htx hik]
          repeat' (first
            | apply HL.fold
            | apply HA.fold
            | apply HL.nil
            | apply HX.n_then
            | apply HC.seq
            | apply HC.region
            | refine HL.pa ?_
            | refine HL.ga rfl ?_
            | refine HL.na rfl ?_
            | refine HL.nu rfl rfl ?_
            | apply HC.block
            | apply HC.skip
            | apply HC.exit
            | apply HC.ret
            | apply HX.e_block
            | refine HX.e_other rfl ?_
            | apply HX.e_then
            | apply HX.e_again
            | apply HX.n_block
            | apply HX.r_then
            | apply HX.r_block
            | apply HX.r_again
            | refine HC.cond_yes rfl ?_
            | refine HC.cond_no rfl ?_
            | refine HL.one (H1.ldb rfl (by first | ((repeat (first | with_reducible exact mem_hd | with_reducible apply mem_tl)); done) | (repeat (first | exact List.Mem.head _ | apply List.Mem.tail))) rfl rfl ?_))
          refine HL.one (H1.ldr (by rw [Nat.zero_add]; rfl) (by first | ((repeat (first | with_reducible exact mem_hd | with_reducible apply mem_tl)); done) | (repeat (first | exact List.Mem.head _ | apply List.Mem.tail))) (row_get _ hlt) rfl ?_)
          repeat' (first
            | apply HL.fold
            | apply HA.fold
            | apply HL.nil
            | apply HX.n_then
            | apply HC.seq
            | apply HC.region
            | refine HL.pa ?_
            | refine HL.ga rfl ?_
            | refine HL.na rfl ?_
            | refine HL.nu rfl rfl ?_
            | apply HC.block
            | apply HC.skip
            | apply HC.exit
            | apply HC.ret
            | apply HX.e_block
            | refine HX.e_other rfl ?_
            | apply HX.e_then
            | apply HX.e_again
            | apply HX.n_block
            | apply HX.r_then
            | apply HX.r_block
            | apply HX.r_again
            | refine HC.cond_yes rfl ?_
            | refine HC.cond_no rfl ?_
            | refine HL.one (H1.ldb rfl (by first | ((repeat (first | with_reducible exact mem_hd | with_reducible apply mem_tl)); done) | (repeat (first | exact List.Mem.head _ | apply List.Mem.tail))) rfl rfl ?_))
          exact HX.cut () trivial (by repeat (first | exact trivial | refine ⟨rfl, ?_⟩)) (by repeat (first | exact Hs.nil _ | (refine Hs.cons (by first | ((repeat (first | with_reducible exact Pick.here | with_reducible apply Pick.there)); done) | (repeat (first | exact Pick.here | apply Pick.there))) ?_)))
        · rw [← htx2 hik]
          repeat' (first
            | apply HL.fold
            | apply HA.fold
            | apply HL.nil
            | apply HX.n_then
            | apply HC.seq
            | apply HC.region
            | refine HL.pa ?_
            | refine HL.ga rfl ?_
            | refine HL.na rfl ?_
            | refine HL.nu rfl rfl ?_
            | apply HC.block
            | apply HC.skip
            | apply HC.exit
            | apply HC.ret
            | apply HX.e_block
            | refine HX.e_other rfl ?_
            | apply HX.e_then
            | apply HX.e_again
            | apply HX.n_block
            | apply HX.r_then
            | apply HX.r_block
            | apply HX.r_again
            | refine HC.cond_yes rfl ?_
            | refine HC.cond_no rfl ?_
            | refine HL.one (H1.ldb rfl (by first | ((repeat (first | with_reducible exact mem_hd | with_reducible apply mem_tl)); done) | (repeat (first | exact List.Mem.head _ | apply List.Mem.tail))) rfl rfl ?_))
          exact HX.cut () trivial (by repeat (first | exact trivial | refine ⟨rfl, ?_⟩)) (by repeat (first | exact Hs.nil _ | (refine Hs.cons (by first | ((repeat (first | with_reducible exact Pick.here | with_reducible apply Pick.there)); done) | (repeat (first | exact Pick.here | apply Pick.there))) ?_)))
      · rintro - -
        cases hb : tf th i with
        | true =>
          rw [hb] at hcell
          repeat' (first
            | apply HL.fold
            | apply HA.fold
            | apply HL.nil
            | apply HX.n_then
            | apply HC.seq
            | apply HC.region
            | refine HL.pa ?_
            | refine HL.ga rfl ?_
            | refine HL.na rfl ?_
            | refine HL.nu rfl rfl ?_
            | apply HC.block
            | apply HC.skip
            | apply HC.exit
            | apply HC.ret
            | apply HX.e_block
            | refine HX.e_other rfl ?_
            | apply HX.e_then
            | apply HX.e_again
            | apply HX.n_block
            | apply HX.r_then
            | apply HX.r_block
            | apply HX.r_again
            | refine HC.cond_yes rfl ?_
            | refine HC.cond_no rfl ?_
            | refine HL.one (H1.ldb rfl (by first | ((repeat (first | with_reducible exact mem_hd | with_reducible apply mem_tl)); done) | (repeat (first | exact List.Mem.head _ | apply List.Mem.tail))) rfl rfl ?_))
          refine HL.one (H1.ld0 rfl hcell rfl ?_)
          repeat' (first
            | apply HL.fold
            | apply HA.fold
            | apply HL.nil
            | apply HX.n_then
            | apply HC.seq
            | apply HC.region
            | refine HL.pa ?_
            | refine HL.ga rfl ?_
            | refine HL.na rfl ?_
            | refine HL.nu rfl rfl ?_
            | apply HC.block
            | apply HC.skip
            | apply HC.exit
            | apply HC.ret
            | apply HX.e_block
            | refine HX.e_other rfl ?_
            | apply HX.e_then
            | apply HX.e_again
            | apply HX.n_block
            | apply HX.r_then
            | apply HX.r_block
            | apply HX.r_again
            | refine HC.cond_yes rfl ?_
            | refine HC.cond_no rfl ?_
            | refine HL.one (H1.ldb rfl (by first | ((repeat (first | with_reducible exact mem_hd | with_reducible apply mem_tl)); done) | (repeat (first | exact List.Mem.head _ | apply List.Mem.tail))) rfl rfl ?_))
          refine HX.again (i + 1) (by omega) (by omega) (by repeat (first | exact trivial | refine ⟨rfl, ?_⟩)) (Hs.cons (Pick.eq ?_) (by repeat (first | exact Hs.nil _ | (refine Hs.cons (by first | ((repeat (first | with_reducible exact Pick.here | with_reducible apply Pick.there)); done) | (repeat (first | exact Pick.here | apply Pick.there))) ?_))))
          congr 1
          apply row_congr
          intro q _
          by_cases e : q = i
          · subst e; simp [hb]
          · have hh : (q < i + 1) = (q < i) := by simp only [eq_iff_iff]; omega
            simp only [hh]
        | false =>
          rw [hb] at hcell
          repeat' (first
            | apply HL.fold
            | apply HA.fold
            | apply HL.nil
            | apply HX.n_then
            | apply HC.seq
            | apply HC.region
            | refine HL.pa ?_
            | refine HL.ga rfl ?_
            | refine HL.na rfl ?_
            | refine HL.nu rfl rfl ?_
            | apply HC.block
            | apply HC.skip
            | apply HC.exit
            | apply HC.ret
            | apply HX.e_block
            | refine HX.e_other rfl ?_
            | apply HX.e_then
            | apply HX.e_again
            | apply HX.n_block
            | apply HX.r_then
            | apply HX.r_block
            | apply HX.r_again
            | refine HC.cond_yes rfl ?_
            | refine HC.cond_no rfl ?_
            | refine HL.one (H1.ldb rfl (by first | ((repeat (first | with_reducible exact mem_hd | with_reducible apply mem_tl)); done) | (repeat (first | exact List.Mem.head _ | apply List.Mem.tail))) rfl rfl ?_))
          refine HL.one (H1.ld0 rfl hcell rfl ?_)
          repeat' (first
            | apply HL.fold
            | apply HA.fold
            | apply HL.nil
            | apply HX.n_then
            | apply HC.seq
            | apply HC.region
            | refine HL.pa ?_
            | refine HL.ga rfl ?_
            | refine HL.na rfl ?_
            | refine HL.nu rfl rfl ?_
            | apply HC.block
            | apply HC.skip
            | apply HC.exit
            | apply HC.ret
            | apply HX.e_block
            | refine HX.e_other rfl ?_
            | apply HX.e_then
            | apply HX.e_again
            | apply HX.n_block
            | apply HX.r_then
            | apply HX.r_block
            | apply HX.r_again
            | refine HC.cond_yes rfl ?_
            | refine HC.cond_no rfl ?_
            | refine HL.one (H1.ldb rfl (by first | ((repeat (first | with_reducible exact mem_hd | with_reducible apply mem_tl)); done) | (repeat (first | exact List.Mem.head _ | apply List.Mem.tail))) rfl rfl ?_))
          rw [← hO]
          refine HL.one (H1.stg rfl rfl (by intro _ h; cases h) (by intro _ h; cases h) (by first | ((repeat (first | with_reducible exact Rpl.here | with_reducible apply Rpl.there)); done) | (repeat (first | exact Rpl.here | apply Rpl.there))) (by rw [row_len]; omega) ?_)
          repeat' (first
            | apply HL.fold
            | apply HA.fold
            | apply HL.nil
            | apply HX.n_then
            | apply HC.seq
            | apply HC.region
            | refine HL.pa ?_
            | refine HL.ga rfl ?_
            | refine HL.na rfl ?_
            | refine HL.nu rfl rfl ?_
            | apply HC.block
            | apply HC.skip
            | apply HC.exit
            | apply HC.ret
            | apply HX.e_block
            | refine HX.e_other rfl ?_
            | apply HX.e_then
            | apply HX.e_again
            | apply HX.n_block
            | apply HX.r_then
            | apply HX.r_block
            | apply HX.r_again
            | refine HC.cond_yes rfl ?_
            | refine HC.cond_no rfl ?_
            | refine HL.one (H1.ldb rfl (by first | ((repeat (first | with_reducible exact mem_hd | with_reducible apply mem_tl)); done) | (repeat (first | exact List.Mem.head _ | apply List.Mem.tail))) rfl rfl ?_))
          refine HX.again (i + 1) (by omega) (by omega) (by repeat (first | exact trivial | refine ⟨rfl, ?_⟩)) (Hs.cons (Pick.eq ?_) (by repeat (first | exact Hs.nil _ | (refine Hs.cons (by first | ((repeat (first | with_reducible exact Pick.here | with_reducible apply Pick.there)); done) | (repeat (first | exact Pick.here | apply Pick.there))) ?_))))
          congr 1
          refine row_step (by simp [hb]) (fun q hq => ?_)
          have hh : (q < i + 1) = (q < i) := by simp only [eq_iff_iff]; omega
          simp only [hh]
    · obtain rfl : i = n := by omega
      have hmin : min i k = k := by omega
      rw [hmin]
      repeat' (first
        | apply HL.fold
        | apply HA.fold
        | apply HL.nil
        | apply HX.n_then
        | apply HC.seq
        | apply HC.region
        | refine HL.pa ?_
        | refine HL.ga rfl ?_
        | refine HL.na rfl ?_
        | refine HL.nu rfl rfl ?_
        | apply HC.block
        | apply HC.skip
        | apply HC.exit
        | apply HC.ret
        | apply HX.e_block
        | refine HX.e_other rfl ?_
        | apply HX.e_then
        | apply HX.e_again
        | apply HX.n_block
        | apply HX.r_then
        | apply HX.r_block
        | apply HX.r_again
        | refine HC.cond_yes rfl ?_
        | refine HC.cond_no rfl ?_
        | refine HL.one (H1.ldb rfl (by first | ((repeat (first | with_reducible exact mem_hd | with_reducible apply mem_tl)); done) | (repeat (first | exact List.Mem.head _ | apply List.Mem.tail))) rfl rfl ?_))
      refine HX.cut () trivial (by repeat (first | exact trivial | refine ⟨rfl, ?_⟩)) (Hs.cons (Pick.eq ?_) (by repeat (first | exact Hs.nil _ | (refine Hs.cons (by first | ((repeat (first | with_reducible exact Pick.here | with_reducible apply Pick.there)); done) | (repeat (first | exact Pick.here | apply Pick.there))) ?_))))
      congr 1
      apply row_congr
      intro q hq
      simp only [hq, true_and]
  · rintro - -
    obtain ⟨G, hG⟩ : ∃ G, G = (List.range n).map (fun q => if tf th q = false then O else codeA S k q) := ⟨_, rfl⟩
    have hGl : G.length = n := by rw [hG]; simp
    have hGs : strs G = row n fun q => .string (if tf th q = false then O else codeA S k q) := by rw [hG]; exact strs_row _ _
    have hag : Agree G th S k := ⟨hk1, by omega, fun i hi ht => by rw [hG, fr_range _ (by omega), if_neg (by rw [ht]; simp)], cN_len (by rw [hth]; show k ≤ cnt n _; omega)⟩
    have hj : JoinOK G th k S.size := hag.join (by omega) (by omega)
    have hjv : (catO G th (k : Int).toNat).extract 0 ((S.size : Nat) : Int).toNat = S := by
      rw [Int.toNat_natCast, Int.toNat_natCast, hag.cat, padS_take]
    have hps := padS_size S (show 0 < k by omega)
    have hpl := mOf_lt S.size (show 0 < k by omega)
    have hpg := mOf_ge S.size (show 0 < k by omega)
    have htk := padS_take S k
    rw [← hGs, textS_all S (by omega)]
    repeat' (first
      | apply HL.fold
      | apply HA.fold
      | apply HL.nil
      | apply HX.n_then
      | apply HC.seq
      | apply HC.region
      | refine HL.pa ?_
      | refine HL.ga rfl ?_
      | refine HL.na rfl ?_
      | refine HL.nu rfl rfl ?_
      | apply HC.block
      | apply HC.skip
      | apply HC.exit
      | apply HC.ret
      | apply HX.e_block
      | refine HX.e_other rfl ?_
      | apply HX.e_then
      | apply HX.e_again
      | apply HX.n_block
      | apply HX.r_then
      | apply HX.r_block
      | apply HX.r_again
      | refine HC.cond_yes rfl ?_
      | refine HC.cond_no rfl ?_
      | refine HL.one (H1.ldb rfl (by first | ((repeat (first | with_reducible exact mem_hd | with_reducible apply mem_tl)); done) | (repeat (first | exact List.Mem.head _ | apply List.Mem.tail))) rfl rfl ?_)
      | refine HC.cond rfl (fun hc => ?_) (fun hc => ?_)
      | refine HC.cond_b rfl (fun hc => ?_) (fun hc => ?_))
    refine HL.one (H1.callx rfl rfl (fun w hM => join_yes hj (by omega) (by omega) w (hr3.ext hM.ext) (hM.gr (by first | ((repeat (first | with_reducible exact mem_hd | with_reducible apply mem_tl)); done) | (repeat (first | exact List.Mem.head _ | apply List.Mem.tail)))) (hM.rd0 hRt)) ?_)
    rw [hjv]
    have hb1 : decide (¬ S = S) = false := by simp
    have hb2 : decide (¬ (padS S k).extract 0 ((S.size : Nat) : Int).toNat = S) = false := by
      rw [Int.toNat_natCast, htk]; simp
    repeat' (first
      | apply HL.fold
      | apply HA.fold
      | apply HL.nil
      | apply HX.n_then
      | apply HC.seq
      | apply HC.region
      | refine HL.pa ?_
      | refine HL.ga rfl ?_
      | refine HL.na rfl ?_
      | refine HL.nu rfl rfl ?_
      | apply HC.block
      | apply HC.skip
      | apply HC.exit
      | apply HC.ret
      | apply HX.e_block
      | refine HX.e_other rfl ?_
      | apply HX.e_then
      | apply HX.e_again
      | apply HX.n_block
      | apply HX.r_then
      | apply HX.r_block
      | apply HX.r_again
      | refine HC.cond_yes rfl ?_
      | refine HC.cond_no rfl ?_
      | refine HL.one (H1.ldb rfl (by first | ((repeat (first | with_reducible exact mem_hd | with_reducible apply mem_tl)); done) | (repeat (first | exact List.Mem.head _ | apply List.Mem.tail))) rfl rfl ?_)
      | refine HC.cond rfl (fun hc => ?_) (fun hc => ?_)
      | refine HC.cond_b rfl (fun hc => ?_) (fun hc => ?_))
    refine HC.loop (α := Nat) (fun i => [(5, .bool true), (7, iv k), (8, iv n), (9, .slice (some ⟨bt, offt, none⟩) n ct), (10, .slice (some ⟨ba, 0, none⟩) n n), (12, .slice (some ⟨bg, 0, none⟩) n cg), (17, iv i)])
      (fun _ => [A.grow 9 1 (some ⟨bg, 0, none⟩) cg n (strs G), A.rd (.slice (some ⟨ba, 0, none⟩) n n) (row n fun q => .string (codeA S k q))])
      (fun i => i ≤ n) (fun i => n - i) 0 (by omega) (by repeat (first | exact trivial | refine ⟨rfl, ?_⟩)) (by repeat (first | exact Hs.nil _ | (refine Hs.cons (by first | ((repeat (first | with_reducible exact Pick.here | with_reducible apply Pick.there)); done) | (repeat (first | exact Pick.here | apply Pick.there))) ?_))) ?_
    intro i hi
    by_cases hlt : i < n
    · have hf : FragOK G th k i := ⟨hag.ok (by omega) (by omega), by omega, by omega⟩
      have hfv : cOut G th (k : Int).toNat (i : Int).toNat = codeA S k i := by
        rw [Int.toNat_natCast, Int.toNat_natCast, hag.out i (by omega)]
      have hb3 : decide (¬ codeA S k i = codeA S k i) = false := by simp
      repeat' (first
        | apply HL.fold
        | apply HA.fold
        | apply HL.nil
        | apply HX.n_then
        | apply HC.seq
        | apply HC.region
        | refine HL.pa ?_
        | refine HL.ga rfl ?_
        | refine HL.na rfl ?_
        | refine HL.nu rfl rfl ?_
        | apply HC.block
        | apply HC.skip
        | apply HC.exit
        | apply HC.ret
        | apply HX.e_block
        | refine HX.e_other rfl ?_
        | apply HX.e_then
        | apply HX.e_again
        | apply HX.n_block
        | apply HX.r_then
        | apply HX.r_block
        | apply HX.r_again
        | refine HC.cond_yes rfl ?_
        | refine HC.cond_no rfl ?_
        | refine HL.one (H1.ldb rfl (by first | ((repeat (first | with_reducible exact mem_hd | with_reducible apply mem_tl)); done) | (repeat (first | exact List.Mem.head _ | apply List.Mem.tail))) rfl rfl ?_)
        | refine HC.cond rfl (fun hc => ?_) (fun hc => ?_)
        | refine HC.cond_b rfl (fun hc => ?_) (fun hc => ?_))
      refine HL.one (H1.callx rfl rfl (fun w hM => frag_yes hf (by omega) (by omega) w (hr3.ext hM.ext) (hM.gr (by first | ((repeat (first | with_reducible exact mem_hd | with_reducible apply mem_tl)); done) | (repeat (first | exact List.Mem.head _ | apply List.Mem.tail)))) (hM.rd0 hRt)) ?_)
      rw [hfv]
      repeat' (first
        | apply HL.fold
        | apply HA.fold
        | apply HL.nil
        | apply HX.n_then
        | apply HC.seq
        | apply HC.region
        | refine HL.pa ?_
        | refine HL.ga rfl ?_
        | refine HL.na rfl ?_
        | refine HL.nu rfl rfl ?_
        | apply HC.block
        | apply HC.skip
        | apply HC.exit
        | apply HC.ret
        | apply HX.e_block
        | refine HX.e_other rfl ?_
        | apply HX.e_then
        | apply HX.e_again
        | apply HX.n_block
        | apply HX.r_then
        | apply HX.r_block
        | apply HX.r_again
        | refine HC.cond_yes rfl ?_
        | refine HC.cond_no rfl ?_
        | refine HL.one (H1.ldb rfl (by first | ((repeat (first | with_reducible exact mem_hd | with_reducible apply mem_tl)); done) | (repeat (first | exact List.Mem.head _ | apply List.Mem.tail))) rfl rfl ?_)
        | refine HC.cond rfl (fun hc => ?_) (fun hc => ?_)
        | refine HC.cond_b rfl (fun hc => ?_) (fun hc => ?_))
      refine HL.one (H1.ldr (by rw [Nat.zero_add]; rfl) (by first | ((repeat (first | with_reducible exact mem_hd | with_reducible apply mem_tl)); done) | (repeat (first | exact List.Mem.head _ | apply List.Mem.tail))) (row_get _ hlt) rfl ?_)
      repeat' (first
        | apply HL.fold
        | apply HA.fold
        | apply HL.nil
        | apply HX.n_then
        | apply HC.seq
        | apply HC.region
        | refine HL.pa ?_
        | refine HL.ga rfl ?_
        | refine HL.na rfl ?_
        | refine HL.nu rfl rfl ?_
        | apply HC.block
        | apply HC.skip
        | apply HC.exit
        | apply HC.ret
        | apply HX.e_block
        | refine HX.e_other rfl ?_
        | apply HX.e_then
        | apply HX.e_again
        | apply HX.n_block
        | apply HX.r_then
        | apply HX.r_block
        | apply HX.r_again
        | refine HC.cond_yes rfl ?_
        | refine HC.cond_no rfl ?_
        | refine HL.one (H1.ldb rfl (by first | ((repeat (first | with_reducible exact mem_hd | with_reducible apply mem_tl)); done) | (repeat (first | exact List.Mem.head _ | apply List.Mem.tail))) rfl rfl ?_)
        | refine HC.cond rfl (fun hc => ?_) (fun hc => ?_)
        | refine HC.cond_b rfl (fun hc => ?_) (fun hc => ?_))
      exact HX.again (i + 1) (by omega) (by omega) (by repeat (first | exact trivial | refine ⟨rfl, ?_⟩)) (by repeat (first | exact Hs.nil _ | (refine Hs.cons (by first | ((repeat (first | with_reducible exact Pick.here | with_reducible apply Pick.there)); done) | (repeat (first | exact Pick.here | apply Pick.there))) ?_)))
    · repeat' (first
        | apply HL.fold
        | apply HA.fold
        | apply HL.nil
        | apply HX.n_then
        | apply HC.seq
        | apply HC.region
        | refine HL.pa ?_
        | refine HL.ga rfl ?_
        | refine HL.na rfl ?_
        | refine HL.nu rfl rfl ?_
        | apply HC.block
        | apply HC.skip
        | apply HC.exit
        | apply HC.ret
        | apply HX.e_block
        | refine HX.e_other rfl ?_
        | apply HX.e_then
        | apply HX.e_again
        | apply HX.n_block
        | apply HX.r_then
        | apply HX.r_block
        | apply HX.r_again
        | refine HC.cond_yes rfl ?_
        | refine HC.cond_no rfl ?_
        | refine HL.one (H1.ldb rfl (by first | ((repeat (first | with_reducible exact mem_hd | with_reducible apply mem_tl)); done) | (repeat (first | exact List.Mem.head _ | apply List.Mem.tail))) rfl rfl ?_)
        | refine HC.cond rfl (fun hc => ?_) (fun hc => ?_)
        | refine HC.cond_b rfl (fun hc => ?_) (fun hc => ?_))
      exact HX.ret1 rfl rfl fun w' hM => ⟨rfl, x03.trans hM.ext⟩
end Go.Sx

