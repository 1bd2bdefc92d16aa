/- Chapter 17: the law CodeFewer. -/
import Derived.Test.YtacamanakmeebaaDoorM3
namespace Go.Sx
open Go Go.Proofs
attribute [local irreducible] WC WL WX POp Then Again Fn NX W1 WA WO QL RP RA Yld LoopAt HC HL HX HN H1 HA HO HQ A.blk A.grow A.rd A.obj AgainH CutH
set_option maxHeartbeats 4000000 in
theorem codeFewer_fn (s : ByteArray) (K N T len which : Int) (hlen : -9223372036854775808 ≤ len ∧ len ≤ 9223372036854775807) (hK : -9223372036854775808 ≤ K ∧ K ≤ 9223372036854775807) (hN : -9223372036854775808 ≤ N ∧ N ≤ 9223372036854775807) (hT : -9223372036854775808 ≤ T ∧ T ≤ 9223372036854775807) (w : World) (hr : Red w) :
    Fn Tryd.prog 10 #[.agg #[.string s, .int .i64 K, .int .i64 N, .int .i64 T], .int .i64 len, .int .i64 which] w fun v w' => v = .bool true ∧ Ext w w' := by
  refine enterH (l := [_, _, _]) rfl Tryd.ntmps10 rfl ?_
  repeat' (first
    | apply HL.fold
    | apply HA.fold
    | apply HL.nil
    | apply HX.n_then
    | apply HC.seq
    | apply HC.region
    | refine HL.pa ?_
    | refine HL.ga rfl ?_
    | refine HL.na rfl ?_
    | refine HL.nu rfl rfl ?_
    | apply HC.block
    | apply HC.skip
    | apply HC.exit
    | apply HC.ret
    | apply HX.e_block
    | refine HX.e_other rfl ?_
    | apply HX.e_then
    | apply HX.e_again
    | apply HX.n_block
    | apply HX.r_then
    | apply HX.r_block
    | apply HX.r_again
    | refine HC.cond_yes rfl ?_
    | refine HC.cond_no rfl ?_
    | refine HL.one (H1.ldb rfl (by repeat (first | exact List.Mem.head _ | apply List.Mem.tail)) rfl rfl ?_)
    | refine HC.cond rfl (fun hc => ?_) (fun hc => ?_)
    | refine HC.cond_b rfl (fun hc => ?_) (fun hc => ?_))
  refine HL.one (H1.boxAgg (cs := [.string s, .int .i64 K, .int .i64 N, .int .i64 T]) rfl rfl (fun b1 => ?_))
  repeat' (first
    | apply HL.fold
    | apply HA.fold
    | apply HL.nil
    | apply HX.n_then
    | apply HC.seq
    | apply HC.region
    | refine HL.pa ?_
    | refine HL.ga rfl ?_
    | refine HL.na rfl ?_
    | refine HL.nu rfl rfl ?_
    | apply HC.block
    | apply HC.skip
    | apply HC.exit
    | apply HC.ret
    | apply HX.e_block
    | refine HX.e_other rfl ?_
    | apply HX.e_then
    | apply HX.e_again
    | apply HX.n_block
    | apply HX.r_then
    | apply HX.r_block
    | apply HX.r_again
    | refine HC.cond_yes rfl ?_
    | refine HC.cond_no rfl ?_
    | refine HL.one (H1.ldb rfl (by repeat (first | exact List.Mem.head _ | apply List.Mem.tail)) rfl rfl ?_)
    | refine HC.cond rfl (fun hc => ?_) (fun hc => ?_)
    | refine HC.cond_b rfl (fun hc => ?_) (fun hc => ?_))
  refine HL.one (H1.callx rfl rfl (fun w hM => sane_x w (hr.ext hM.ext)) ?_)
  repeat' (first
    | apply HL.fold
    | apply HA.fold
    | apply HL.nil
    | apply HX.n_then
    | apply HC.seq
    | apply HC.region
    | refine HL.pa ?_
    | refine HL.ga rfl ?_
    | refine HL.na rfl ?_
    | refine HL.nu rfl rfl ?_
    | apply HC.block
    | apply HC.skip
    | apply HC.exit
    | apply HC.ret
    | apply HX.e_block
    | refine HX.e_other rfl ?_
    | apply HX.e_then
    | apply HX.e_again
    | apply HX.n_block
    | apply HX.r_then
    | apply HX.r_block
    | apply HX.r_again
    | refine HC.cond_yes rfl ?_
    | refine HC.cond_no rfl ?_
    | refine HL.one (H1.ldb rfl (by repeat (first | exact List.Mem.head _ | apply List.Mem.tail)) rfl rfl ?_)
    | refine HC.cond rfl (fun hc => ?_) (fun hc => ?_)
    | refine HC.cond_b rfl (fun hc => ?_) (fun hc => ?_))
  refine HL.one (H1.ldAgg (vs := [.string s, .int .i64 K, .int .i64 N, .int .i64 T]) rfl (by repeat (first | exact List.Mem.head _ | apply List.Mem.tail)) rfl (fun i v hv => by rw [Nat.zero_add]; exact hv) rfl ?_)
  repeat' (first
    | apply HL.fold
    | apply HA.fold
    | apply HL.nil
    | apply HX.n_then
    | apply HC.seq
    | apply HC.region
    | refine HL.pa ?_
    | refine HL.ga rfl ?_
    | refine HL.na rfl ?_
    | refine HL.nu rfl rfl ?_
    | apply HC.block
    | apply HC.skip
    | apply HC.exit
    | apply HC.ret
    | apply HX.e_block
    | refine HX.e_other rfl ?_
    | apply HX.e_then
    | apply HX.e_again
    | apply HX.n_block
    | apply HX.r_then
    | apply HX.r_block
    | apply HX.r_again
    | refine HC.cond_yes rfl ?_
    | refine HC.cond_no rfl ?_
    | refine HL.one (H1.ldb rfl (by repeat (first | exact List.Mem.head _ | apply List.Mem.tail)) rfl rfl ?_)
    | refine HC.cond rfl (fun hc => ?_) (fun hc => ?_)
    | refine HC.cond_b rfl (fun hc => ?_) (fun hc => ?_))
  refine HL.one (H1.callr (vs := [.agg #[.string s, .int .i64 K, .int .i64 N, .int .i64 T], iv 0]) rfl rfl (fun w _ => made_z s K N T hK hN hT 0 (by decide) w) ?_)
  rintro wa va w3 hMa ⟨S, k, n, th, bt, offt, ct, rfl, x3, hS, hS2, hk1, hkn, hn9, hth, hRt, hct, hcnt, -, -⟩
  have x03 : Ext w w3 := hMa.ext.trans x3
  have hr3 := hr.ext x03
  have hS4 : S.size ≤ 4096 * k := by omega
  repeat' (first
    | apply HL.fold
    | apply HA.fold
    | apply HL.nil
    | apply HX.n_then
    | apply HC.seq
    | apply HC.region
    | refine HL.pa ?_
    | refine HL.ga rfl ?_
    | refine HL.na rfl ?_
    | refine HL.nu rfl rfl ?_
    | apply HC.block
    | apply HC.skip
    | apply HC.exit
    | apply HC.ret
    | apply HX.e_block
    | refine HX.e_other rfl ?_
    | apply HX.e_then
    | apply HX.e_again
    | apply HX.n_block
    | apply HX.r_then
    | apply HX.r_block
    | apply HX.r_again
    | refine HC.cond_yes rfl ?_
    | refine HC.cond_no rfl ?_
    | refine HL.one (H1.ldb rfl (by repeat (first | exact List.Mem.head _ | apply List.Mem.tail)) rfl rfl ?_)
    | refine HC.cond rfl (fun hc => ?_) (fun hc => ?_)
    | refine HC.cond_b rfl (fun hc => ?_) (fun hc => ?_))
  refine HL.one (H1.callz rfl rfl (fun w hM => split_z S k n hk1 hkn hn9 hS4 w (hr3.ext hM.ext)) ?_)
  rintro bl -
  have hlc : (codeL S k n).length = n := codeL_len S k n
  repeat' (first
    | apply HL.fold
    | apply HA.fold
    | apply HL.nil
    | apply HX.n_then
    | apply HC.seq
    | apply HC.region
    | refine HL.pa ?_
    | refine HL.ga rfl ?_
    | refine HL.na rfl ?_
    | refine HL.nu rfl rfl ?_
    | apply HC.block
    | apply HC.skip
    | apply HC.exit
    | apply HC.ret
    | apply HX.e_block
    | refine HX.e_other rfl ?_
    | apply HX.e_then
    | apply HX.e_again
    | apply HX.n_block
    | apply HX.r_then
    | apply HX.r_block
    | apply HX.r_again
    | refine HC.cond_yes rfl ?_
    | refine HC.cond_no rfl ?_
    | refine HL.one (H1.ldb rfl (by repeat (first | exact List.Mem.head _ | apply List.Mem.tail)) rfl rfl ?_)
    | refine HC.cond rfl (fun hc => ?_) (fun hc => ?_)
    | refine HC.cond_b rfl (fun hc => ?_) (fun hc => ?_))
  refine HL.one (H1.make rfl rfl rfl rfl rfl (Nat.le_refl _) (by omega) (by omega) rfl (fun bo => ?_))
  rw [row_rep]
  repeat' (first
    | apply HL.fold
    | apply HA.fold
    | apply HL.nil
    | apply HX.n_then
    | apply HC.seq
    | apply HC.region
    | refine HL.pa ?_
    | refine HL.ga rfl ?_
    | refine HL.na rfl ?_
    | refine HL.nu rfl rfl ?_
    | apply HC.skip
    | apply HC.exit
    | apply HC.ret
    | apply HX.e_block
    | refine HX.e_other rfl ?_
    | apply HX.e_then
    | apply HX.e_again
    | apply HX.n_block
    | apply HX.r_then
    | apply HX.r_block
    | apply HX.r_again
    | refine HC.cond_yes rfl ?_
    | refine HC.cond_no rfl ?_
    | refine HL.one (H1.ldb rfl (by repeat (first | exact List.Mem.head _ | apply List.Mem.tail)) rfl rfl ?_)
    | refine HC.cond rfl (fun hc => ?_) (fun hc => ?_)
    | refine HC.cond_b rfl (fun hc => ?_) (fun hc => ?_))
  refine HC.cut (α := Nat → Bool) (fun f => [(1, .int .i64 len), (2, .int .i64 which), (7, .bool true), (8, .string S), (9, iv k), (10, iv n), (11, .slice (some ⟨bt, offt, none⟩) n ct), (12, .slice (some ⟨bl, 0, none⟩) n n), (14, .slice (some ⟨bo, 0, none⟩) n n)])
    (fun f => [A.blk bo (row n fun q => .bool (f q)) 4, A.rd (.slice (some ⟨bl, 0, none⟩) n n) (strs (codeL S k n))]) (fun f => cnt n f < k) ?_ ?_
  · repeat' (first
      | apply HL.fold
      | apply HA.fold
      | apply HL.nil
      | apply HX.n_then
      | apply HC.seq
      | apply HC.region
      | refine HL.pa ?_
      | refine HL.ga rfl ?_
      | refine HL.na rfl ?_
      | refine HL.nu rfl rfl ?_
      | apply HC.block
      | apply HC.skip
      | apply HC.exit
      | apply HC.ret
      | apply HX.e_block
      | refine HX.e_other rfl ?_
      | apply HX.e_then
      | apply HX.e_again
      | apply HX.n_block
      | apply HX.r_then
      | apply HX.r_block
      | apply HX.r_again
      | refine HC.cond_yes rfl ?_
      | refine HC.cond_no rfl ?_
      | refine HL.one (H1.ldb rfl (by repeat (first | exact List.Mem.head _ | apply List.Mem.tail)) rfl rfl ?_)
      | refine HC.cond rfl (fun hc => ?_) (fun hc => ?_)
      | refine HC.cond_b rfl (fun hc => ?_) (fun hc => ?_))
    refine HC.loop (α := Nat × (Nat → Bool)) (fun z => [(1, .int .i64 len), (2, .int .i64 which), (7, .bool true), (8, .string S), (9, iv k), (10, iv n), (11, .slice (some ⟨bt, offt, none⟩) n ct), (12, .slice (some ⟨bl, 0, none⟩) n n), (14, .slice (some ⟨bo, 0, none⟩) n n), (15, iv (cnt n z.2)), (16, iv z.1)])
      (fun z => [A.blk bo (row n fun q => .bool (z.2 q)) 4, A.rd (.slice (some ⟨bl, 0, none⟩) n n) (strs (codeL S k n))])
      (fun z => z.1 ≤ n ∧ (∀ q, z.1 ≤ q → z.2 q = false) ∧ cnt n z.2 < k) (fun z => n - z.1) (0, fun _ => false) ⟨by simp, fun _ _ => rfl, by rw [cnt_none fun _ _ => rfl]; omega⟩
      ⟨rfl, rfl, rfl, rfl, rfl, rfl, rfl, rfl, rfl, (by rw [cnt_none fun _ _ => rfl]; rfl), rfl, trivial⟩ (by repeat (first | exact Hs.nil _ | (refine Hs.cons (by repeat (first | exact Pick.here | apply Pick.there)) ?_))) ?_
    rintro ⟨i, f⟩ ⟨hi, hf, hck⟩
    dsimp only at hi hf hck ⊢
    by_cases hlt : i < n
    · by_cases hlt2 : cnt n f < k - 1
      · have hcell := hRt.cell (bools_get (i := i) (by omega))
        cases hb : tf th i with
        | false =>
          rw [hb] at hcell
          repeat' (first
            | apply HL.fold
            | apply HA.fold
            | apply HL.nil
            | apply HX.n_then
            | apply HC.seq
            | apply HC.region
            | refine HL.pa ?_
            | refine HL.ga rfl ?_
            | refine HL.na rfl ?_
            | refine HL.nu rfl rfl ?_
            | apply HC.block
            | apply HC.skip
            | apply HC.exit
            | apply HC.ret
            | apply HX.e_block
            | refine HX.e_other rfl ?_
            | apply HX.e_then
            | apply HX.e_again
            | apply HX.n_block
            | apply HX.r_then
            | apply HX.r_block
            | apply HX.r_again
            | refine HC.cond_yes rfl ?_
            | refine HC.cond_no rfl ?_
            | refine HL.one (H1.ldb rfl (by repeat (first | exact List.Mem.head _ | apply List.Mem.tail)) rfl rfl ?_)
            | refine HC.cond rfl (fun hc => ?_) (fun hc => ?_)
            | refine HC.cond_b rfl (fun hc => ?_) (fun hc => ?_))
          refine HL.one (H1.ld0 rfl hcell rfl ?_)
          repeat' (first
            | apply HL.fold
            | apply HA.fold
            | apply HL.nil
            | apply HX.n_then
            | apply HC.seq
            | apply HC.region
            | refine HL.pa ?_
            | refine HL.ga rfl ?_
            | refine HL.na rfl ?_
            | refine HL.nu rfl rfl ?_
            | apply HC.block
            | apply HC.skip
            | apply HC.exit
            | apply HC.ret
            | apply HX.e_block
            | refine HX.e_other rfl ?_
            | apply HX.e_then
            | apply HX.e_again
            | apply HX.n_block
            | apply HX.r_then
            | apply HX.r_block
            | apply HX.r_again
            | refine HC.cond_yes rfl ?_
            | refine HC.cond_no rfl ?_
            | refine HL.one (H1.ldb rfl (by repeat (first | exact List.Mem.head _ | apply List.Mem.tail)) rfl rfl ?_)
            | refine HC.cond rfl (fun hc => ?_) (fun hc => ?_)
            | refine HC.cond_b rfl (fun hc => ?_) (fun hc => ?_))
          exact HX.again (i + 1, f) ⟨by show i + 1 ≤ n; omega, fun q hq => hf q (by have : i + 1 ≤ q := hq; omega), hck⟩ (by show n - (i + 1) < n - i; omega) (by repeat (first | exact trivial | refine ⟨rfl, ?_⟩)) (by repeat (first | exact Hs.nil _ | (refine Hs.cons (by repeat (first | exact Pick.here | apply Pick.there)) ?_)))
        | true =>
          rw [hb] at hcell
          have hc1 := cnt_upd (hf i (Nat.le_refl _)) n hlt
          repeat' (first
            | apply HL.fold
            | apply HA.fold
            | apply HL.nil
            | apply HX.n_then
            | apply HC.seq
            | apply HC.region
            | refine HL.pa ?_
            | refine HL.ga rfl ?_
            | refine HL.na rfl ?_
            | refine HL.nu rfl rfl ?_
            | apply HC.block
            | apply HC.skip
            | apply HC.exit
            | apply HC.ret
            | apply HX.e_block
            | refine HX.e_other rfl ?_
            | apply HX.e_then
            | apply HX.e_again
            | apply HX.n_block
            | apply HX.r_then
            | apply HX.r_block
            | apply HX.r_again
            | refine HC.cond_yes rfl ?_
            | refine HC.cond_no rfl ?_
            | refine HL.one (H1.ldb rfl (by repeat (first | exact List.Mem.head _ | apply List.Mem.tail)) rfl rfl ?_)
            | refine HC.cond rfl (fun hc => ?_) (fun hc => ?_)
            | refine HC.cond_b rfl (fun hc => ?_) (fun hc => ?_))
          refine HL.one (H1.ld0 rfl hcell rfl ?_)
          repeat' (first
            | apply HL.fold
            | apply HA.fold
            | apply HL.nil
            | apply HX.n_then
            | apply HC.seq
            | apply HC.region
            | refine HL.pa ?_
            | refine HL.ga rfl ?_
            | refine HL.na rfl ?_
            | refine HL.nu rfl rfl ?_
            | apply HC.block
            | apply HC.skip
            | apply HC.exit
            | apply HC.ret
            | apply HX.e_block
            | refine HX.e_other rfl ?_
            | apply HX.e_then
            | apply HX.e_again
            | apply HX.n_block
            | apply HX.r_then
            | apply HX.r_block
            | apply HX.r_again
            | refine HC.cond_yes rfl ?_
            | refine HC.cond_no rfl ?_
            | refine HL.one (H1.ldb rfl (by repeat (first | exact List.Mem.head _ | apply List.Mem.tail)) rfl rfl ?_)
            | refine HC.cond rfl (fun hc => ?_) (fun hc => ?_)
            | refine HC.cond_b rfl (fun hc => ?_) (fun hc => ?_))
          refine HL.one (H1.st rfl rfl (by intro _ h; cases h) (by intro _ h; cases h) (by repeat (first | exact Rpl.here | apply Rpl.there)) (by rw [row_len]; omega) ?_)
          rw [row_upd]
          repeat' (first
            | apply HL.fold
            | apply HA.fold
            | apply HL.nil
            | apply HX.n_then
            | apply HC.seq
            | apply HC.region
            | refine HL.pa ?_
            | refine HL.ga rfl ?_
            | refine HL.na rfl ?_
            | refine HL.nu rfl rfl ?_
            | apply HC.block
            | apply HC.skip
            | apply HC.exit
            | apply HC.ret
            | apply HX.e_block
            | refine HX.e_other rfl ?_
            | apply HX.e_then
            | apply HX.e_again
            | apply HX.n_block
            | apply HX.r_then
            | apply HX.r_block
            | apply HX.r_again
            | refine HC.cond_yes rfl ?_
            | refine HC.cond_no rfl ?_
            | refine HL.one (H1.ldb rfl (by repeat (first | exact List.Mem.head _ | apply List.Mem.tail)) rfl rfl ?_)
            | refine HC.cond rfl (fun hc => ?_) (fun hc => ?_)
            | refine HC.cond_b rfl (fun hc => ?_) (fun hc => ?_))
          refine HX.again (i + 1, upd f i true) ⟨by show i + 1 ≤ n; omega, fun q hq => ?_, by show cnt n (upd f i true) < k; omega⟩ (by show n - (i + 1) < n - i; omega) ⟨rfl, rfl, rfl, rfl, rfl, rfl, rfl, rfl, rfl, ?_, rfl, trivial⟩ (by repeat (first | exact Hs.nil _ | (refine Hs.cons (by repeat (first | exact Pick.here | apply Pick.there)) ?_)))
          · have hq' : i + 1 ≤ q := hq
            have : ¬ q = i := by omega
            simp only [upd, this, if_false]
            exact hf q (by omega)
          · show _ = some (iv (cnt n (upd f i true)))
            rw [hc1]; rfl
      · repeat' (first
          | apply HL.fold
          | apply HA.fold
          | apply HL.nil
          | apply HX.n_then
          | apply HC.seq
          | apply HC.region
          | refine HL.pa ?_
          | refine HL.ga rfl ?_
          | refine HL.na rfl ?_
          | refine HL.nu rfl rfl ?_
          | apply HC.block
          | apply HC.skip
          | apply HC.exit
          | apply HC.ret
          | apply HX.e_block
          | refine HX.e_other rfl ?_
          | apply HX.e_then
          | apply HX.e_again
          | apply HX.n_block
          | apply HX.r_then
          | apply HX.r_block
          | apply HX.r_again
          | refine HC.cond_yes rfl ?_
          | refine HC.cond_no rfl ?_
          | refine HL.one (H1.ldb rfl (by repeat (first | exact List.Mem.head _ | apply List.Mem.tail)) rfl rfl ?_)
          | refine HC.cond rfl (fun hc => ?_) (fun hc => ?_)
          | refine HC.cond_b rfl (fun hc => ?_) (fun hc => ?_))
        exact HX.cut f hck (by repeat (first | exact trivial | refine ⟨rfl, ?_⟩)) (by repeat (first | exact Hs.nil _ | (refine Hs.cons (by repeat (first | exact Pick.here | apply Pick.there)) ?_)))
    · repeat' (first
        | apply HL.fold
        | apply HA.fold
        | apply HL.nil
        | apply HX.n_then
        | apply HC.seq
        | apply HC.region
        | refine HL.pa ?_
        | refine HL.ga rfl ?_
        | refine HL.na rfl ?_
        | refine HL.nu rfl rfl ?_
        | apply HC.block
        | apply HC.skip
        | apply HC.exit
        | apply HC.ret
        | apply HX.e_block
        | refine HX.e_other rfl ?_
        | apply HX.e_then
        | apply HX.e_again
        | apply HX.n_block
        | apply HX.r_then
        | apply HX.r_block
        | apply HX.r_again
        | refine HC.cond_yes rfl ?_
        | refine HC.cond_no rfl ?_
        | refine HL.one (H1.ldb rfl (by repeat (first | exact List.Mem.head _ | apply List.Mem.tail)) rfl rfl ?_)
        | refine HC.cond rfl (fun hc => ?_) (fun hc => ?_)
        | refine HC.cond_b rfl (fun hc => ?_) (fun hc => ?_))
      exact HX.cut f hck (by repeat (first | exact trivial | refine ⟨rfl, ?_⟩)) (by repeat (first | exact Hs.nil _ | (refine Hs.cons (by repeat (first | exact Pick.here | apply Pick.there)) ?_)))
  · intro f hck
    have hlf : ((List.range n).map f).length = n := by simp
    have hcf : ((List.range ((List.range n).map f).length).filter (tf ((List.range n).map f))).length < k := by
      rw [hlf]
      show cnt n _ < k
      rw [cnt_congr (g := f) fun q hq => by simp [tf, hq]]
      exact hck
    have hno : ¬ CompOK (codeL S k n) ((List.range n).map f) k := few_no hcf
    have hag : Agree (codeL S k n) th S k := agree_code hk1 hn9 hth (by rw [hth]; show k ≤ cnt n _; omega)
    have hRf : ∀ w', Mm w3 [A.blk bo (row n fun q => .bool (f q)) 4, A.rd (.slice (some ⟨bl, 0, none⟩) n n) (strs (codeL S k n))] w' → Rd w' (.slice (some ⟨bo, 0, none⟩) n n) (bools ((List.range n).map f)) := fun w' hM => by
      have := Rd.of_row (hM.blk (by repeat (first | exact List.Mem.head _ | apply List.Mem.tail))) (Nat.le_refl _) (Nat.le_refl n)
      refine (congrArg (Rd w' _) ?_).mp this
      simp [bools]
    repeat' (first
      | apply HL.fold
      | apply HA.fold
      | apply HL.nil
      | apply HX.n_then
      | apply HC.seq
      | apply HC.region
      | refine HL.pa ?_
      | refine HL.ga rfl ?_
      | refine HL.na rfl ?_
      | refine HL.nu rfl rfl ?_
      | apply HC.block
      | apply HC.skip
      | apply HC.exit
      | apply HC.ret
      | apply HX.e_block
      | refine HX.e_other rfl ?_
      | apply HX.e_then
      | apply HX.e_again
      | apply HX.n_block
      | apply HX.r_then
      | apply HX.r_block
      | apply HX.r_again
      | refine HC.cond_yes rfl ?_
      | refine HC.cond_no rfl ?_
      | refine HL.one (H1.ldb rfl (by repeat (first | exact List.Mem.head _ | apply List.Mem.tail)) rfl rfl ?_)
      | refine HC.cond rfl (fun hc => ?_) (fun hc => ?_)
      | refine HC.cond_b rfl (fun hc => ?_) (fun hc => ?_))
    refine HL.one (H1.callx rfl rfl (fun w hM => join_no (frs := codeL S k n) (th := (List.range n).map f) (fun h => hno h.1) (by omega) (by omega) w (hr3.ext hM.ext) (hM.rd (by repeat (first | exact List.Mem.head _ | apply List.Mem.tail))) (hRf w hM)) ?_)
    repeat' (first
      | apply HL.fold
      | apply HA.fold
      | apply HL.nil
      | apply HX.n_then
      | apply HC.seq
      | apply HC.region
      | refine HL.pa ?_
      | refine HL.ga rfl ?_
      | refine HL.na rfl ?_
      | refine HL.nu rfl rfl ?_
      | apply HC.block
      | apply HC.skip
      | apply HC.exit
      | apply HC.ret
      | apply HX.e_block
      | refine HX.e_other rfl ?_
      | apply HX.e_then
      | apply HX.e_again
      | apply HX.n_block
      | apply HX.r_then
      | apply HX.r_block
      | apply HX.r_again
      | refine HC.cond_yes rfl ?_
      | refine HC.cond_no rfl ?_
      | refine HL.one (H1.ldb rfl (by repeat (first | exact List.Mem.head _ | apply List.Mem.tail)) rfl rfl ?_)
      | refine HC.cond rfl (fun hc => ?_) (fun hc => ?_)
      | refine HC.cond_b rfl (fun hc => ?_) (fun hc => ?_))
    refine HL.one (H1.callx rfl rfl (fun w hM => frag_no (frs := codeL S k n) (th := (List.range n).map f) (fun h => hno h.1) (by omega) (by omega) w (hr3.ext hM.ext) (hM.rd (by repeat (first | exact List.Mem.head _ | apply List.Mem.tail))) (hRf w hM)) ?_)
    repeat' (first
      | apply HL.fold
      | apply HA.fold
      | apply HL.nil
      | apply HX.n_then
      | apply HC.seq
      | apply HC.region
      | refine HL.pa ?_
      | refine HL.ga rfl ?_
      | refine HL.na rfl ?_
      | refine HL.nu rfl rfl ?_
      | apply HC.block
      | apply HC.skip
      | apply HC.exit
      | apply HC.ret
      | apply HX.e_block
      | refine HX.e_other rfl ?_
      | apply HX.e_then
      | apply HX.e_again
      | apply HX.n_block
      | apply HX.r_then
      | apply HX.r_block
      | apply HX.r_again
      | refine HC.cond_yes rfl ?_
      | refine HC.cond_no rfl ?_
      | refine HL.one (H1.ldb rfl (by repeat (first | exact List.Mem.head _ | apply List.Mem.tail)) rfl rfl ?_)
      | refine HC.cond rfl (fun hc => ?_) (fun hc => ?_)
      | refine HC.cond_b rfl (fun hc => ?_) (fun hc => ?_))
    have hquo : ((S.size : Int) + k - 1) / k = ((mOf S.size k : Nat) : Int) := by
      unfold mOf
      rw [Int.natCast_ediv]
      congr 1
      omega
    have hM1 := mOf_ge S.size (show 0 < k by omega)
    have hM2 := mOf_lt S.size (show 0 < k by omega)
    have hfar := fun (h : len < 0 ∨ (k : Int) * (mOf S.size k : Int) < len ∨ len ≤ (k : Int) * ((mOf S.size k : Int) - 1)) => hag.far (len := len) h
    rw [hquo]
    generalize mOf S.size k = M at *
    have hMb : M ≤ k * M := Nat.le_mul_of_pos_left M (by omega)
    have hkM : (k : Int) * (M : Int) = ((k * M : Nat) : Int) := by rw [Int.natCast_mul]
    have hkM1 : (k : Int) * ((M : Int) - 1) = ((k * M : Nat) : Int) - k := by rw [Int.mul_sub, Int.mul_one, hkM]
    refine HL.cut (α := Bool) (fun far => [(1, .int .i64 len), (2, .int .i64 which), (7, .bool true), (8, .string S), (9, iv k), (10, iv n), (11, .slice (some ⟨bt, offt, none⟩) n ct), (12, .slice (some ⟨bl, 0, none⟩) n n), (18, iv 170), (20, iv 170), (22, .bool far)])
      (fun _ => [A.blk bo (row n fun q => .bool (f q)) 4, A.rd (.slice (some ⟨bl, 0, none⟩) n n) (strs (codeL S k n))]) (fun far => far = true → ¬ JoinOK (codeL S k n) th k len) ?_ ?_
    · by_cases f1 : len < 0
      · repeat' (first
          | apply HL.fold
          | apply HA.fold
          | apply HL.nil
          | apply HX.n_then
          | apply HC.seq
          | apply HC.region
          | refine HL.pa ?_
          | refine HL.ga rfl ?_
          | refine HL.na rfl ?_
          | refine HL.nu rfl rfl ?_
          | apply HC.block
          | apply HC.skip
          | apply HC.exit
          | apply HC.ret
          | apply HX.e_block
          | refine HX.e_other rfl ?_
          | apply HX.e_then
          | apply HX.e_again
          | apply HX.n_block
          | apply HX.r_then
          | apply HX.r_block
          | apply HX.r_again
          | refine HC.cond_yes rfl ?_
          | refine HC.cond_no rfl ?_
          | refine HL.one (H1.ldb rfl (by repeat (first | exact List.Mem.head _ | apply List.Mem.tail)) rfl rfl ?_)
          | refine HC.cond rfl (fun hc => ?_) (fun hc => ?_)
          | refine HC.cond_b rfl (fun hc => ?_) (fun hc => ?_))
        exact HX.cut true (fun _ => hfar (.inl f1)) ⟨rfl, rfl, rfl, rfl, rfl, rfl, rfl, rfl, rfl, rfl, (by simp [f1]; rfl), trivial⟩ (by repeat (first | exact Hs.nil _ | (refine Hs.cons (by repeat (first | exact Pick.here | apply Pick.there)) ?_)))
      · by_cases f2 : (k : Int) * (M : Int) < len
        · repeat' (first
            | apply HL.fold
            | apply HA.fold
            | apply HL.nil
            | apply HX.n_then
            | apply HC.seq
            | apply HC.region
            | refine HL.pa ?_
            | refine HL.ga rfl ?_
            | refine HL.na rfl ?_
            | refine HL.nu rfl rfl ?_
            | apply HC.block
            | apply HC.skip
            | apply HC.exit
            | apply HC.ret
            | apply HX.e_block
            | refine HX.e_other rfl ?_
            | apply HX.e_then
            | apply HX.e_again
            | apply HX.n_block
            | apply HX.r_then
            | apply HX.r_block
            | apply HX.r_again
            | refine HC.cond_yes rfl ?_
            | refine HC.cond_no rfl ?_
            | refine HL.one (H1.ldb rfl (by repeat (first | exact List.Mem.head _ | apply List.Mem.tail)) rfl rfl ?_)
            | refine HC.cond rfl (fun hc => ?_) (fun hc => ?_)
            | refine HC.cond_b rfl (fun hc => ?_) (fun hc => ?_))
          exact HX.cut true (fun _ => hfar (.inr (.inl f2))) (by repeat (first | exact trivial | refine ⟨rfl, ?_⟩)) (by repeat (first | exact Hs.nil _ | (refine Hs.cons (by repeat (first | exact Pick.here | apply Pick.there)) ?_)))
        · by_cases f3 : len ≤ (k : Int) * ((M : Int) - 1)
          · repeat' (first
              | apply HL.fold
              | apply HA.fold
              | apply HL.nil
              | apply HX.n_then
              | apply HC.seq
              | apply HC.region
              | refine HL.pa ?_
              | refine HL.ga rfl ?_
              | refine HL.na rfl ?_
              | refine HL.nu rfl rfl ?_
              | apply HC.block
              | apply HC.skip
              | apply HC.exit
              | apply HC.ret
              | apply HX.e_block
              | refine HX.e_other rfl ?_
              | apply HX.e_then
              | apply HX.e_again
              | apply HX.n_block
              | apply HX.r_then
              | apply HX.r_block
              | apply HX.r_again
              | refine HC.cond_yes rfl ?_
              | refine HC.cond_no rfl ?_
              | refine HL.one (H1.ldb rfl (by repeat (first | exact List.Mem.head _ | apply List.Mem.tail)) rfl rfl ?_)
              | refine HC.cond rfl (fun hc => ?_) (fun hc => ?_)
              | refine HC.cond_b rfl (fun hc => ?_) (fun hc => ?_))
            exact HX.cut true (fun _ => hfar (.inr (.inr f3))) ⟨rfl, rfl, rfl, rfl, rfl, rfl, rfl, rfl, rfl, rfl, (by simp [f3]; rfl), trivial⟩ (by repeat (first | exact Hs.nil _ | (refine Hs.cons (by repeat (first | exact Pick.here | apply Pick.there)) ?_)))
          · repeat' (first
              | apply HL.fold
              | apply HA.fold
              | apply HL.nil
              | apply HX.n_then
              | apply HC.seq
              | apply HC.region
              | refine HL.pa ?_
              | refine HL.ga rfl ?_
              | refine HL.na rfl ?_
              | refine HL.nu rfl rfl ?_
              | apply HC.block
              | apply HC.skip
              | apply HC.exit
              | apply HC.ret
              | apply HX.e_block
              | refine HX.e_other rfl ?_
              | apply HX.e_then
              | apply HX.e_again
              | apply HX.n_block
              | apply HX.r_then
              | apply HX.r_block
              | apply HX.r_again
              | refine HC.cond_yes rfl ?_
              | refine HC.cond_no rfl ?_
              | refine HL.one (H1.ldb rfl (by repeat (first | exact List.Mem.head _ | apply List.Mem.tail)) rfl rfl ?_)
              | refine HC.cond rfl (fun hc => ?_) (fun hc => ?_)
              | refine HC.cond_b rfl (fun hc => ?_) (fun hc => ?_))
            exact HX.cut false (fun h => by cases h) ⟨rfl, rfl, rfl, rfl, rfl, rfl, rfl, rfl, rfl, rfl, (by simp [f3]; rfl), trivial⟩ (by repeat (first | exact Hs.nil _ | (refine Hs.cons (by repeat (first | exact Pick.here | apply Pick.there)) ?_)))
    · intro far hf
      have hje : far = true → (joinV (codeL S k n) th k len).2 = 170 := fun h => by unfold joinV; rw [if_neg (hf h)]
      repeat' (first
        | apply HL.fold
        | apply HA.fold
        | apply HL.nil
        | apply HX.n_then
        | apply HC.seq
        | apply HC.region
        | refine HL.pa ?_
        | refine HL.ga rfl ?_
        | refine HL.na rfl ?_
        | refine HL.nu rfl rfl ?_
        | apply HC.block
        | apply HC.skip
        | apply HC.exit
        | apply HC.ret
        | apply HX.e_block
        | refine HX.e_other rfl ?_
        | apply HX.e_then
        | apply HX.e_again
        | apply HX.n_block
        | apply HX.r_then
        | apply HX.r_block
        | apply HX.r_again
        | refine HC.cond_yes rfl ?_
        | refine HC.cond_no rfl ?_
        | refine HL.one (H1.ldb rfl (by repeat (first | exact List.Mem.head _ | apply List.Mem.tail)) rfl rfl ?_)
        | refine HC.cond rfl (fun hc => ?_) (fun hc => ?_)
        | refine HC.cond_b rfl (fun hc => ?_) (fun hc => ?_))
      refine HL.one (H1.callx rfl rfl (fun w hM => join_any (frs := codeL S k n) (th := th) (by omega) (by omega) w (hr3.ext hM.ext) (hM.rd (by repeat (first | exact List.Mem.head _ | apply List.Mem.tail))) (hM.rd0 hRt)) ?_)
      repeat' (first
        | apply HL.fold
        | apply HA.fold
        | apply HL.nil
        | apply HX.n_then
        | apply HC.seq
        | apply HC.region
        | refine HL.pa ?_
        | refine HL.ga rfl ?_
        | refine HL.na rfl ?_
        | refine HL.nu rfl rfl ?_
        | apply HC.block
        | apply HC.skip
        | apply HC.exit
        | apply HC.ret
        | apply HX.e_block
        | refine HX.e_other rfl ?_
        | apply HX.e_then
        | apply HX.e_again
        | apply HX.n_block
        | apply HX.r_then
        | apply HX.r_block
        | apply HX.r_again
        | refine HC.cond_yes rfl ?_
        | refine HC.cond_no rfl ?_
        | refine HL.one (H1.ldb rfl (by repeat (first | exact List.Mem.head _ | apply List.Mem.tail)) rfl rfl ?_)
        | refine HC.cond rfl (fun hc => ?_) (fun hc => ?_)
        | refine HC.cond_b rfl (fun hc => ?_) (fun hc => ?_))
      have hok := hag.ok (by rw [hlc, hth]) hS4
      refine HL.cut (α := ByteArray × Nat) (fun z => [(1, .int .i64 len), (2, .int .i64 which), (7, .bool true), (8, .string S), (9, iv k), (10, iv n), (11, .slice (some ⟨bt, offt, none⟩) n ct), (12, .slice (some ⟨bl, 0, none⟩) n n), (18, iv 170), (20, iv 170), (22, .bool far), (24, iv (joinV (codeL S k n) th k len).2), (25, .string z.1), (26, iv z.2)])
        (fun _ => [A.rd (.slice (some ⟨bl, 0, none⟩) n n) (strs (codeL S k n))]) (fun z => (0 ≤ which ∧ which < n → z.2 = 0) ∧ (¬ (0 ≤ which ∧ which < n) → z = (noStr, 170))) ?_ ?_
      · by_cases hin : 0 ≤ which ∧ which < n
        · have hfo : FragOK (codeL S k n) th k which := ⟨hok, hin.1, by rw [hlc]; exact hin.2⟩
          refine HL.one (H1.callx rfl rfl (fun w hM => frag_yes (frs := codeL S k n) (th := th) hfo (by omega) (by omega) w (hr3.ext hM.ext) (hM.rd (by repeat (first | exact List.Mem.head _ | apply List.Mem.tail))) (hM.rd0 hRt)) ?_)
          repeat' (first
            | apply HL.fold
            | apply HA.fold
            | apply HL.nil
            | apply HX.n_then
            | apply HC.seq
            | apply HC.region
            | refine HL.pa ?_
            | refine HL.ga rfl ?_
            | refine HL.na rfl ?_
            | refine HL.nu rfl rfl ?_
            | apply HC.block
            | apply HC.skip
            | apply HC.exit
            | apply HC.ret
            | apply HX.e_block
            | refine HX.e_other rfl ?_
            | apply HX.e_then
            | apply HX.e_again
            | apply HX.n_block
            | apply HX.r_then
            | apply HX.r_block
            | apply HX.r_again
            | refine HC.cond_yes rfl ?_
            | refine HC.cond_no rfl ?_
            | refine HL.one (H1.ldb rfl (by repeat (first | exact List.Mem.head _ | apply List.Mem.tail)) rfl rfl ?_)
            | refine HC.cond rfl (fun hc => ?_) (fun hc => ?_)
            | refine HC.cond_b rfl (fun hc => ?_) (fun hc => ?_))
          exact HX.cut (cOut (codeL S k n) th (k : Int).toNat which.toNat, 0) ⟨fun _ => rfl, fun h => absurd hin h⟩ (by repeat (first | exact trivial | refine ⟨rfl, ?_⟩)) (by repeat (first | exact Hs.nil _ | (refine Hs.cons (by repeat (first | exact Pick.here | apply Pick.there)) ?_)))
        · have hfo : ¬ FragOK (codeL S k n) th k which := fun h => hin ⟨h.2.1, by have := h.2.2; rw [hlc] at this; exact this⟩
          refine HL.one (H1.callx rfl rfl (fun w hM => frag_no (frs := codeL S k n) (th := th) hfo (by omega) (by omega) w (hr3.ext hM.ext) (hM.rd (by repeat (first | exact List.Mem.head _ | apply List.Mem.tail))) (hM.rd0 hRt)) ?_)
          repeat' (first
            | apply HL.fold
            | apply HA.fold
            | apply HL.nil
            | apply HX.n_then
            | apply HC.seq
            | apply HC.region
            | refine HL.pa ?_
            | refine HL.ga rfl ?_
            | refine HL.na rfl ?_
            | refine HL.nu rfl rfl ?_
            | apply HC.block
            | apply HC.skip
            | apply HC.exit
            | apply HC.ret
            | apply HX.e_block
            | refine HX.e_other rfl ?_
            | apply HX.e_then
            | apply HX.e_again
            | apply HX.n_block
            | apply HX.r_then
            | apply HX.r_block
            | apply HX.r_again
            | refine HC.cond_yes rfl ?_
            | refine HC.cond_no rfl ?_
            | refine HL.one (H1.ldb rfl (by repeat (first | exact List.Mem.head _ | apply List.Mem.tail)) rfl rfl ?_)
            | refine HC.cond rfl (fun hc => ?_) (fun hc => ?_)
            | refine HC.cond_b rfl (fun hc => ?_) (fun hc => ?_))
          exact HX.cut (noStr, 170) ⟨fun h => absurd h hin, fun _ => rfl⟩ (by repeat (first | exact trivial | refine ⟨rfl, ?_⟩)) (by repeat (first | exact Hs.nil _ | (refine Hs.cons (by repeat (first | exact Pick.here | apply Pick.there)) ?_)))
      · rintro ⟨t, e⟩ ⟨hz1, hz2⟩
        dsimp only at hz1 hz2 ⊢
        repeat' (first
          | apply HL.fold
          | apply HA.fold
          | apply HL.nil
          | apply HX.n_then
          | apply HC.seq
          | apply HC.region
          | refine HL.pa ?_
          | refine HL.ga rfl ?_
          | refine HL.na rfl ?_
          | refine HL.nu rfl rfl ?_
          | apply HC.block
          | apply HC.skip
          | apply HC.exit
          | apply HC.ret
          | apply HX.e_block
          | refine HX.e_other rfl ?_
          | apply HX.e_then
          | apply HX.e_again
          | apply HX.n_block
          | apply HX.r_then
          | apply HX.r_block
          | apply HX.r_again
          | refine HC.cond_yes rfl ?_
          | refine HC.cond_no rfl ?_
          | refine HL.one (H1.ldb rfl (by repeat (first | exact List.Mem.head _ | apply List.Mem.tail)) rfl rfl ?_)
          | refine HC.cond rfl (fun hc => ?_) (fun hc => ?_)
          | refine HC.cond_b rfl (fun hc => ?_) (fun hc => ?_))
        refine HL.cut (α := Bool) (fun z => [(1, .int .i64 len), (2, .int .i64 which), (7, .bool true), (8, .string S), (9, iv k), (10, iv n), (11, .slice (some ⟨bt, offt, none⟩) n ct), (12, .slice (some ⟨bl, 0, none⟩) n n), (18, iv 170), (20, iv 170), (22, .bool far), (24, iv (joinV (codeL S k n) th k len).2), (25, .string t), (26, iv e), (27, .bool z)]) (fun _ => [A.rd (.slice (some ⟨bl, 0, none⟩) n n) (strs (codeL S k n))]) (fun z => z = decide (0 ≤ which ∧ which < n)) ?_ ?_
        · by_cases i1 : 0 ≤ which
          · by_cases i2 : which < n
            · repeat' (first
                | apply HL.fold
                | apply HA.fold
                | apply HL.nil
                | apply HX.n_then
                | apply HC.seq
                | apply HC.region
                | refine HL.pa ?_
                | refine HL.ga rfl ?_
                | refine HL.na rfl ?_
                | refine HL.nu rfl rfl ?_
                | apply HC.block
                | apply HC.skip
                | apply HC.exit
                | apply HC.ret
                | apply HX.e_block
                | refine HX.e_other rfl ?_
                | apply HX.e_then
                | apply HX.e_again
                | apply HX.n_block
                | apply HX.r_then
                | apply HX.r_block
                | apply HX.r_again
                | refine HC.cond_yes rfl ?_
                | refine HC.cond_no rfl ?_
                | refine HL.one (H1.ldb rfl (by repeat (first | exact List.Mem.head _ | apply List.Mem.tail)) rfl rfl ?_)
                | refine HC.cond rfl (fun hc => ?_) (fun hc => ?_)
                | refine HC.cond_b rfl (fun hc => ?_) (fun hc => ?_))
              exact HX.cut true (by simp [i1, i2]) ⟨rfl, rfl, rfl, rfl, rfl, rfl, rfl, rfl, rfl, rfl, rfl, rfl, rfl, rfl, (by simp [i2]; rfl), trivial⟩ (by repeat (first | exact Hs.nil _ | (refine Hs.cons (by repeat (first | exact Pick.here | apply Pick.there)) ?_)))
            · repeat' (first
                | apply HL.fold
                | apply HA.fold
                | apply HL.nil
                | apply HX.n_then
                | apply HC.seq
                | apply HC.region
                | refine HL.pa ?_
                | refine HL.ga rfl ?_
                | refine HL.na rfl ?_
                | refine HL.nu rfl rfl ?_
                | apply HC.block
                | apply HC.skip
                | apply HC.exit
                | apply HC.ret
                | apply HX.e_block
                | refine HX.e_other rfl ?_
                | apply HX.e_then
                | apply HX.e_again
                | apply HX.n_block
                | apply HX.r_then
                | apply HX.r_block
                | apply HX.r_again
                | refine HC.cond_yes rfl ?_
                | refine HC.cond_no rfl ?_
                | refine HL.one (H1.ldb rfl (by repeat (first | exact List.Mem.head _ | apply List.Mem.tail)) rfl rfl ?_)
                | refine HC.cond rfl (fun hc => ?_) (fun hc => ?_)
                | refine HC.cond_b rfl (fun hc => ?_) (fun hc => ?_))
              exact HX.cut false (by simp [i2]) ⟨rfl, rfl, rfl, rfl, rfl, rfl, rfl, rfl, rfl, rfl, rfl, rfl, rfl, rfl, (by simp [i2]; rfl), trivial⟩ (by repeat (first | exact Hs.nil _ | (refine Hs.cons (by repeat (first | exact Pick.here | apply Pick.there)) ?_)))
          · repeat' (first
              | apply HL.fold
              | apply HA.fold
              | apply HL.nil
              | apply HX.n_then
              | apply HC.seq
              | apply HC.region
              | refine HL.pa ?_
              | refine HL.ga rfl ?_
              | refine HL.na rfl ?_
              | refine HL.nu rfl rfl ?_
              | apply HC.block
              | apply HC.skip
              | apply HC.exit
              | apply HC.ret
              | apply HX.e_block
              | refine HX.e_other rfl ?_
              | apply HX.e_then
              | apply HX.e_again
              | apply HX.n_block
              | apply HX.r_then
              | apply HX.r_block
              | apply HX.r_again
              | refine HC.cond_yes rfl ?_
              | refine HC.cond_no rfl ?_
              | refine HL.one (H1.ldb rfl (by repeat (first | exact List.Mem.head _ | apply List.Mem.tail)) rfl rfl ?_)
              | refine HC.cond rfl (fun hc => ?_) (fun hc => ?_)
              | refine HC.cond_b rfl (fun hc => ?_) (fun hc => ?_))
            exact HX.cut false (by simp [i1]) (by repeat (first | exact trivial | refine ⟨rfl, ?_⟩)) (by repeat (first | exact Hs.nil _ | (refine Hs.cons (by repeat (first | exact Pick.here | apply Pick.there)) ?_)))
        · intro ins hins
          repeat' (first
            | apply HL.fold
            | apply HA.fold
            | apply HL.nil
            | apply HX.n_then
            | apply HC.seq
            | apply HC.region
            | refine HL.pa ?_
            | refine HL.ga rfl ?_
            | refine HL.na rfl ?_
            | refine HL.nu rfl rfl ?_
            | apply HC.block
            | apply HC.skip
            | apply HC.exit
            | apply HC.ret
            | apply HX.e_block
            | refine HX.e_other rfl ?_
            | apply HX.e_then
            | apply HX.e_again
            | apply HX.n_block
            | apply HX.r_then
            | apply HX.r_block
            | apply HX.r_again
            | refine HC.cond_yes rfl ?_
            | refine HC.cond_no rfl ?_
            | refine HL.one (H1.ldb rfl (by repeat (first | exact List.Mem.head _ | apply List.Mem.tail)) rfl rfl ?_)
            | refine HC.cond rfl (fun hc => ?_) (fun hc => ?_)
            | refine HC.cond_b rfl (fun hc => ?_) (fun hc => ?_))
          refine HL.one (H1.call0 (vs := [.string S, iv 0, iv n]) rfl rfl (fun w _ => split_no S 0 n (fun h => by have := h.1.1; omega) w) ?_)
          repeat' (first
            | apply HL.fold
            | apply HA.fold
            | apply HL.nil
            | apply HX.n_then
            | apply HC.seq
            | apply HC.region
            | refine HL.pa ?_
            | refine HL.ga rfl ?_
            | refine HL.na rfl ?_
            | refine HL.nu rfl rfl ?_
            | apply HC.block
            | apply HC.skip
            | apply HC.exit
            | apply HC.ret
            | apply HX.e_block
            | refine HX.e_other rfl ?_
            | apply HX.e_then
            | apply HX.e_again
            | apply HX.n_block
            | apply HX.r_then
            | apply HX.r_block
            | apply HX.r_again
            | refine HC.cond_yes rfl ?_
            | refine HC.cond_no rfl ?_
            | refine HL.one (H1.ldb rfl (by repeat (first | exact List.Mem.head _ | apply List.Mem.tail)) rfl rfl ?_)
            | refine HC.cond rfl (fun hc => ?_) (fun hc => ?_)
            | refine HC.cond_b rfl (fun hc => ?_) (fun hc => ?_))
          have hn1 : ((n : Int) + 1) = ((n + 1 : Nat) : Int) := by omega
          refine HL.one (H1.call0 (vs := [.string S, .int .i64 ((n : Int) + 1), iv n]) rfl rfl (fun w _ => split_no S _ n (fun h => by have := h.1.2.1; omega) w) ?_)
          repeat' (first
            | apply HL.fold
            | apply HA.fold
            | apply HL.nil
            | apply HX.n_then
            | apply HC.seq
            | apply HC.region
            | refine HL.pa ?_
            | refine HL.ga rfl ?_
            | refine HL.na rfl ?_
            | refine HL.nu rfl rfl ?_
            | apply HC.block
            | apply HC.skip
            | apply HC.exit
            | apply HC.ret
            | apply HX.e_block
            | refine HX.e_other rfl ?_
            | apply HX.e_then
            | apply HX.e_again
            | apply HX.n_block
            | apply HX.r_then
            | apply HX.r_block
            | apply HX.r_again
            | refine HC.cond_yes rfl ?_
            | refine HC.cond_no rfl ?_
            | refine HL.one (H1.ldb rfl (by repeat (first | exact List.Mem.head _ | apply List.Mem.tail)) rfl rfl ?_)
            | refine HC.cond rfl (fun hc => ?_) (fun hc => ?_)
            | refine HC.cond_b rfl (fun hc => ?_) (fun hc => ?_))
          have hcut : ∀ w', Mm w3 [A.rd (.slice (some ⟨bl, 0, none⟩) n n) (strs (codeL S k n))] w' → Rd w' (.slice (some ⟨bt, offt, none⟩) ((n : Int) - 1).toNat ct) (bools (th.take (n - 1))) := fun w' hM => by
            have e1 : ((n : Int) - 1).toNat = n - 1 := by omega
            have := (hM.rd0 hRt).take (l := n - 1) (by simp [bools]; omega)
            rw [e1]
            refine (congrArg (Rd w' _) ?_).mp this
            simp [bools]
          have hno2 : ¬ JoinOK (codeL S k n) (th.take (n - 1)) k S.size := fun h => by
            have := h.1.2.1
            rw [List.length_take, hlc, hth] at this
            omega
          refine HL.one (H1.callx rfl rfl (fun w hM => join_no (frs := codeL S k n) (th := th.take (n - 1)) hno2 (by omega) (by simp; omega) w (hr3.ext hM.ext) (hM.rd (by repeat (first | exact List.Mem.head _ | apply List.Mem.tail))) (hcut w hM)) ?_)
          repeat' (first
            | apply HL.fold
            | apply HA.fold
            | apply HL.nil
            | apply HX.n_then
            | apply HC.seq
            | apply HC.region
            | refine HL.pa ?_
            | refine HL.ga rfl ?_
            | refine HL.na rfl ?_
            | refine HL.nu rfl rfl ?_
            | apply HC.block
            | apply HC.skip
            | apply HC.exit
            | apply HC.ret
            | apply HX.e_block
            | refine HX.e_other rfl ?_
            | apply HX.e_then
            | apply HX.e_again
            | apply HX.n_block
            | apply HX.r_then
            | apply HX.r_block
            | apply HX.r_again
            | refine HC.cond_yes rfl ?_
            | refine HC.cond_no rfl ?_
            | refine HL.one (H1.ldb rfl (by repeat (first | exact List.Mem.head _ | apply List.Mem.tail)) rfl rfl ?_)
            | refine HC.cond rfl (fun hc => ?_) (fun hc => ?_)
            | refine HC.cond_b rfl (fun hc => ?_) (fun hc => ?_))
          have hb1 : (decide (((0 : Nat) : Int) = 0) == true) = true := by decide
          have hb2 : (decide (((170 : Nat) : Int) = 0) == false) = true := by decide
          have hb3 : noStr = ByteArray.mk #[] := rfl
          by_cases hin : 0 ≤ which ∧ which < n
          · rw [decide_eq_true hin] at hins
            subst hins
            obtain rfl := hz1 hin
            cases far
            · repeat' (first
                | apply HL.fold
                | apply HA.fold
                | apply HL.nil
                | apply HX.n_then
                | apply HC.seq
                | apply HC.region
                | refine HL.pa ?_
                | refine HL.ga rfl ?_
                | refine HL.na rfl ?_
                | refine HL.nu rfl rfl ?_
                | apply HC.block
                | apply HC.skip
                | apply HC.exit
                | apply HC.ret
                | apply HX.e_block
                | refine HX.e_other rfl ?_
                | apply HX.e_then
                | apply HX.e_again
                | apply HX.n_block
                | apply HX.r_then
                | apply HX.r_block
                | apply HX.r_again
                | refine HC.cond_yes rfl ?_
                | refine HC.cond_no rfl ?_
                | refine HL.one (H1.ldb rfl (by repeat (first | exact List.Mem.head _ | apply List.Mem.tail)) rfl rfl ?_)
                | refine HC.cond rfl (fun hc => ?_) (fun hc => ?_)
                | refine HC.cond_b rfl (fun hc => ?_) (fun hc => ?_))
              exact HX.ret1 rfl rfl fun w' hM => ⟨rfl, x03.trans hM.ext⟩
            · have h170 := hje rfl
              repeat' (first
                | apply HL.fold
                | apply HA.fold
                | apply HL.nil
                | apply HX.n_then
                | apply HC.seq
                | apply HC.region
                | refine HL.pa ?_
                | refine HL.ga rfl ?_
                | refine HL.na rfl ?_
                | refine HL.nu rfl rfl ?_
                | apply HC.block
                | apply HC.skip
                | apply HC.exit
                | apply HC.ret
                | apply HX.e_block
                | refine HX.e_other rfl ?_
                | apply HX.e_then
                | apply HX.e_again
                | apply HX.n_block
                | apply HX.r_then
                | apply HX.r_block
                | apply HX.r_again
                | refine HC.cond_yes rfl ?_
                | refine HC.cond_no rfl ?_
                | refine HL.one (H1.ldb rfl (by repeat (first | exact List.Mem.head _ | apply List.Mem.tail)) rfl rfl ?_)
                | refine HC.cond rfl (fun hc => ?_) (fun hc => ?_)
                | refine HC.cond_b rfl (fun hc => ?_) (fun hc => ?_))
              exact HX.ret1 rfl rfl fun w' hM => ⟨rfl, x03.trans hM.ext⟩
          · rw [decide_eq_false hin] at hins
            subst hins
            obtain ⟨rfl, rfl⟩ := Prod.mk.inj (hz2 hin)
            cases far
            · repeat' (first
                | apply HL.fold
                | apply HA.fold
                | apply HL.nil
                | apply HX.n_then
                | apply HC.seq
                | apply HC.region
                | refine HL.pa ?_
                | refine HL.ga rfl ?_
                | refine HL.na rfl ?_
                | refine HL.nu rfl rfl ?_
                | apply HC.block
                | apply HC.skip
                | apply HC.exit
                | apply HC.ret
                | apply HX.e_block
                | refine HX.e_other rfl ?_
                | apply HX.e_then
                | apply HX.e_again
                | apply HX.n_block
                | apply HX.r_then
                | apply HX.r_block
                | apply HX.r_again
                | refine HC.cond_yes rfl ?_
                | refine HC.cond_no rfl ?_
                | refine HL.one (H1.ldb rfl (by repeat (first | exact List.Mem.head _ | apply List.Mem.tail)) rfl rfl ?_)
                | refine HC.cond rfl (fun hc => ?_) (fun hc => ?_)
                | refine HC.cond_b rfl (fun hc => ?_) (fun hc => ?_))
              exact HX.ret1 rfl rfl fun w' hM => ⟨rfl, x03.trans hM.ext⟩
            · have h170 := hje rfl
              repeat' (first
                | apply HL.fold
                | apply HA.fold
                | apply HL.nil
                | apply HX.n_then
                | apply HC.seq
                | apply HC.region
                | refine HL.pa ?_
                | refine HL.ga rfl ?_
                | refine HL.na rfl ?_
                | refine HL.nu rfl rfl ?_
                | apply HC.block
                | apply HC.skip
                | apply HC.exit
                | apply HC.ret
                | apply HX.e_block
                | refine HX.e_other rfl ?_
                | apply HX.e_then
                | apply HX.e_again
                | apply HX.n_block
                | apply HX.r_then
                | apply HX.r_block
                | apply HX.r_again
                | refine HC.cond_yes rfl ?_
                | refine HC.cond_no rfl ?_
                | refine HL.one (H1.ldb rfl (by repeat (first | exact List.Mem.head _ | apply List.Mem.tail)) rfl rfl ?_)
                | refine HC.cond rfl (fun hc => ?_) (fun hc => ?_)
                | refine HC.cond_b rfl (fun hc => ?_) (fun hc => ?_))
              exact HX.ret1 rfl rfl fun w' hM => ⟨rfl, x03.trans hM.ext⟩
end Go.Sx

