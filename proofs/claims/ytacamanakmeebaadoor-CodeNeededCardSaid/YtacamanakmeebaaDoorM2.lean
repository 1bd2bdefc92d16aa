/- Chapter 17: the laws' helpers xor, changed. -/
import Derived.Test.YtacamanakmeebaaDoorM1
import Derived.Test.YtacamanakmeebaaDoorGE
import Derived.Test.YtacamanakmeebaaDoorHx4
import Derived.Test.YtacamanakmeebaaDoorTy2
namespace Go.Sx
open Go Go.Proofs
attribute [local irreducible] WC WL WX POp Then Again Fn NX W1 WA WO QL RP RA Yld LoopAt HC HL HX HN H1 HA HO HQ A.blk A.grow A.rd A.obj AgainH CutH

theorem xor_fn (s t : ByteArray) (hs : s.size ≤ 100000) (w : World) : Fn Tryd.prog 26 #[.string s, .string t] w fun v w' => v = .string (xorS s t) ∧ Ext w w' := by
  refine enterH (l := [_, _]) rfl Tryd.ntmps26 rfl ?_
  obtain ⟨n, hn⟩ : ∃ n, n = min s.size t.size := ⟨_, rfl⟩
  have hmin : (min (s.size : Int) (t.size : Int)) = (n : Int) := by omega
  repeat' (first
    | apply HL.fold
    | apply HA.fold
    | apply HL.nil
    | apply HX.n_then
    | apply HC.seq
    | apply HC.region
    | refine HL.pa ?_
    | refine HL.ga rfl ?_
    | refine HL.na rfl ?_
    | refine HL.nu rfl rfl ?_
    | apply HC.block
    | apply HC.skip
    | apply HC.exit
    | apply HC.ret
    | apply HX.e_block
    | refine HX.e_other rfl ?_
    | apply HX.e_then
    | apply HX.e_again
    | apply HX.n_block
    | apply HX.r_then
    | apply HX.r_block
    | apply HX.r_again
    | refine HC.cond_yes rfl ?_
    | refine HC.cond_no rfl ?_
    | refine HL.one (H1.ldb rfl (by first | ((repeat (first | with_reducible exact mem_hd | with_reducible apply mem_tl)); done) | (repeat (first | exact List.Mem.head _ | apply List.Mem.tail))) rfl rfl ?_)
    | refine HC.cond rfl (fun hc => ?_) (fun hc => ?_)
    | refine HC.cond_b rfl (fun hc => ?_) (fun hc => ?_))
  rw [hmin]
  refine HL.one (H1.make rfl rfl rfl rfl rfl (Nat.le_refl _) (by omega) (by omega) rfl (fun b => ?_))
  rw [row_rep]
  repeat' (first
    | apply HL.fold
    | apply HA.fold
    | apply HL.nil
    | apply HX.n_then
    | apply HC.seq
    | apply HC.region
    | refine HL.pa ?_
    | refine HL.ga rfl ?_
    | refine HL.na rfl ?_
    | refine HL.nu rfl rfl ?_
    | apply HC.block
    | apply HC.skip
    | apply HC.exit
    | apply HC.ret
    | apply HX.e_block
    | refine HX.e_other rfl ?_
    | apply HX.e_then
    | apply HX.e_again
    | apply HX.n_block
    | apply HX.r_then
    | apply HX.r_block
    | apply HX.r_again
    | refine HC.cond_yes rfl ?_
    | refine HC.cond_no rfl ?_
    | refine HL.one (H1.ldb rfl (by first | ((repeat (first | with_reducible exact mem_hd | with_reducible apply mem_tl)); done) | (repeat (first | exact List.Mem.head _ | apply List.Mem.tail))) rfl rfl ?_)
    | refine HC.cond rfl (fun hc => ?_) (fun hc => ?_)
    | refine HC.cond_b rfl (fun hc => ?_) (fun hc => ?_))
  refine HC.loop (α := Nat) (fun i => [(0, .string s), (1, .string t), (5, .slice (some ⟨b, 0, none⟩) n n), (6, iv i)]) (fun i => [A.blk b (row n fun q => u8v (if q < i then sb s q ^^^ sb t q else 0)) 5]) (fun i => i ≤ n) (fun i => n - i) 0 (by omega)
    (by repeat (first | exact trivial | refine ⟨rfl, ?_⟩)) (by simp only [Nat.not_lt_zero, if_false]; exact Hs.blk rfl (Hs.nil _)) ?_
  intro i hi
  have h1 := sb_lt s i
  have h2 := sb_lt t i
  by_cases hlt : i < n
  · repeat' (first
      | apply HL.fold
      | apply HA.fold
      | apply HL.nil
      | apply HX.n_then
      | apply HC.seq
      | apply HC.region
      | refine HL.pa ?_
      | refine HL.ga rfl ?_
      | refine HL.na rfl ?_
      | refine HL.nu rfl rfl ?_
      | apply HC.block
      | apply HC.skip
      | apply HC.exit
      | apply HC.ret
      | apply HX.e_block
      | refine HX.e_other rfl ?_
      | apply HX.e_then
      | apply HX.e_again
      | apply HX.n_block
      | apply HX.r_then
      | apply HX.r_block
      | apply HX.r_again
      | refine HC.cond_yes rfl ?_
      | refine HC.cond_no rfl ?_
      | refine HL.one (H1.ldb rfl (by first | ((repeat (first | with_reducible exact mem_hd | with_reducible apply mem_tl)); done) | (repeat (first | exact List.Mem.head _ | apply List.Mem.tail))) rfl rfl ?_)
      | refine HC.cond rfl (fun hc => ?_) (fun hc => ?_)
      | refine HC.cond_b rfl (fun hc => ?_) (fun hc => ?_))
    refine HC.any rfl ?_
    refine HA.pa 0 rfl ?_
    refine HA.pa 1 rfl ?_
    refine HA.pa 2 rfl ?_
    refine HA.pa 3 rfl ?_
    refine HA.pa 4 rfl ?_
    refine HA.pa 5 rfl ?_
    refine HA.pa 6 rfl ?_
    refine HA.pa 7 rfl ?_
    refine HA.pa 8 rfl ?_
    refine HA.pa 9 rfl ?_
    refine HA.all [10] (by kernel_rfl) rfl ⟨⟨_, rfl, ?_⟩, trivial⟩
    refine HO.one ?_
    refine H1.st rfl rfl (by intro _ h; cases h) (by intro _ h; cases h) (by first | ((repeat (first | with_reducible exact Rpl.here | with_reducible apply Rpl.there)); done) | (repeat (first | exact Rpl.here | apply Rpl.there))) (by rw [row_len]; omega) ?_
    apply HA.fold
    refine HA.done (by kernel_rfl) ?_
    repeat' (first
      | apply HL.fold
      | apply HA.fold
      | apply HL.nil
      | apply HX.n_then
      | apply HC.seq
      | apply HC.region
      | refine HL.pa ?_
      | refine HL.ga rfl ?_
      | refine HL.na rfl ?_
      | refine HL.nu rfl rfl ?_
      | apply HC.block
      | apply HC.skip
      | apply HC.exit
      | apply HC.ret
      | apply HX.e_block
      | refine HX.e_other rfl ?_
      | apply HX.e_then
      | apply HX.e_again
      | apply HX.n_block
      | apply HX.r_then
      | apply HX.r_block
      | apply HX.r_again
      | refine HC.cond_yes rfl ?_
      | refine HC.cond_no rfl ?_
      | refine HL.one (H1.ldb rfl (by first | ((repeat (first | with_reducible exact mem_hd | with_reducible apply mem_tl)); done) | (repeat (first | exact List.Mem.head _ | apply List.Mem.tail))) rfl rfl ?_)
      | refine HC.cond rfl (fun hc => ?_) (fun hc => ?_)
      | refine HC.cond_b rfl (fun hc => ?_) (fun hc => ?_))
    exact HX.again (i + 1) (by omega) (by omega) (by repeat (first | exact trivial | refine ⟨rfl, ?_⟩)) (Hs.blk (row_step (by first | (simp; done) | (simp; rfl)) (fun q hq => by have hh : (q < i + 1) = (q < i) := (by simp only [eq_iff_iff]; omega); simp only [hh])) (Hs.nil _))
  · obtain rfl : i = n := by omega
    repeat' (first
      | apply HL.fold
      | apply HA.fold
      | apply HL.nil
      | apply HX.n_then
      | apply HC.seq
      | apply HC.region
      | refine HL.pa ?_
      | refine HL.ga rfl ?_
      | refine HL.na rfl ?_
      | refine HL.nu rfl rfl ?_
      | apply HC.block
      | apply HC.skip
      | apply HC.exit
      | apply HC.ret
      | apply HX.e_block
      | refine HX.e_other rfl ?_
      | apply HX.e_then
      | apply HX.e_again
      | apply HX.n_block
      | apply HX.r_then
      | apply HX.r_block
      | apply HX.r_again
      | refine HC.cond_yes rfl ?_
      | refine HC.cond_no rfl ?_
      | refine HL.one (H1.ldb rfl (by first | ((repeat (first | with_reducible exact mem_hd | with_reducible apply mem_tl)); done) | (repeat (first | exact List.Mem.head _ | apply List.Mem.tail))) rfl rfl ?_)
      | refine HC.cond rfl (fun hc => ?_) (fun hc => ?_)
      | refine HC.cond_b rfl (fun hc => ?_) (fun hc => ?_))
    rw [row_congr (g := fun q => u8v (sb s q ^^^ sb t q)) fun q hq => by rw [if_pos hq]]
    refine HL.one (H1.bstr rfl (by first | ((repeat (first | with_reducible exact mem_hd | with_reducible apply mem_tl)); done) | (repeat (first | exact List.Mem.head _ | apply List.Mem.tail))) (fun q _ => Nat.xor_lt_two_pow (n := 8) (sb_lt _ _) (sb_lt _ _)) rfl ?_)
    repeat' (first
      | apply HL.fold
      | apply HA.fold
      | apply HL.nil
      | apply HX.n_then
      | apply HC.seq
      | apply HC.region
      | refine HL.pa ?_
      | refine HL.ga rfl ?_
      | refine HL.na rfl ?_
      | refine HL.nu rfl rfl ?_
      | apply HC.block
      | apply HC.skip
      | apply HC.exit
      | apply HC.ret
      | apply HX.e_block
      | refine HX.e_other rfl ?_
      | apply HX.e_then
      | apply HX.e_again
      | apply HX.n_block
      | apply HX.r_then
      | apply HX.r_block
      | apply HX.r_again
      | refine HC.cond_yes rfl ?_
      | refine HC.cond_no rfl ?_
      | refine HL.one (H1.ldb rfl (by first | ((repeat (first | with_reducible exact mem_hd | with_reducible apply mem_tl)); done) | (repeat (first | exact List.Mem.head _ | apply List.Mem.tail))) rfl rfl ?_)
      | refine HC.cond rfl (fun hc => ?_) (fun hc => ?_)
      | refine HC.cond_b rfl (fun hc => ?_) (fun hc => ?_))
    exact HX.ret1 rfl rfl fun w' hM => ⟨by rw [xorS, ← hn], hM.ext⟩


theorem changed_fn (s : ByteArray) (h0 h1 h2 : Int) (hh1 : -9223372036854775808 ≤ h1 ∧ h1 ≤ 9223372036854775807) (hh2 : -9223372036854775808 ≤ h2 ∧ h2 ≤ 9223372036854775807) (hs : s.size ≤ 100000) (hp : 0 < s.size) (w : World) :
    Fn Tryd.prog 25 #[.string s, .agg #[.int .i64 h0, .int .i64 h1, .int .i64 h2]] w fun v w' => v = .string (chgS s (pickI h1 s.size).toNat (1 + (pickI h2 255).toNat)) ∧ Ext w w' := by
  refine enterH (l := [_, _]) rfl Tryd.ntmps25 rfl ?_
  obtain ⟨p1, p2⟩ := pickI_lt h1 (n := (s.size : Int)) (by omega)
  obtain ⟨q1, q2⟩ := pickI_lt h2 (n := 255) (by decide)
  obtain ⟨i, hi⟩ : ∃ i : Nat, pickI h1 s.size = i := ⟨(pickI h1 s.size).toNat, by omega⟩
  obtain ⟨j, hj⟩ : ∃ i : Nat, pickI h2 255 = i := ⟨(pickI h2 255).toNat, by omega⟩
  have hsb := sb_lt s i
  have e1 : (1 : Int) + (j : Int) = ((1 + j : Nat) : Int) := by omega
  have hj2 : 1 + j < 256 := by omega
  repeat' (first
    | apply HL.fold
    | apply HA.fold
    | apply HL.nil
    | apply HX.n_then
    | apply HC.seq
    | apply HC.region
    | refine HL.pa ?_
    | refine HL.ga rfl ?_
    | refine HL.na rfl ?_
    | refine HL.nu rfl rfl ?_
    | apply HC.block
    | apply HC.skip
    | apply HC.exit
    | apply HC.ret
    | apply HX.e_block
    | refine HX.e_other rfl ?_
    | apply HX.e_then
    | apply HX.e_again
    | apply HX.n_block
    | apply HX.r_then
    | apply HX.r_block
    | apply HX.r_again
    | refine HC.cond_yes rfl ?_
    | refine HC.cond_no rfl ?_
    | refine HL.one (H1.ldb rfl (by first | ((repeat (first | with_reducible exact mem_hd | with_reducible apply mem_tl)); done) | (repeat (first | exact List.Mem.head _ | apply List.Mem.tail))) rfl rfl ?_)
    | refine HC.cond rfl (fun hc => ?_) (fun hc => ?_)
    | refine HC.cond_b rfl (fun hc => ?_) (fun hc => ?_))
  refine HL.one (H1.boxAgg (cs := [.int .i64 h0, .int .i64 h1, .int .i64 h2]) rfl rfl (fun b => ?_))
  repeat' (first
    | apply HL.fold
    | apply HA.fold
    | apply HL.nil
    | apply HX.n_then
    | apply HC.seq
    | apply HC.region
    | refine HL.pa ?_
    | refine HL.ga rfl ?_
    | refine HL.na rfl ?_
    | refine HL.nu rfl rfl ?_
    | apply HC.block
    | apply HC.skip
    | apply HC.exit
    | apply HC.ret
    | apply HX.e_block
    | refine HX.e_other rfl ?_
    | apply HX.e_then
    | apply HX.e_again
    | apply HX.n_block
    | apply HX.r_then
    | apply HX.r_block
    | apply HX.r_again
    | refine HC.cond_yes rfl ?_
    | refine HC.cond_no rfl ?_
    | refine HL.one (H1.ldb rfl (by first | ((repeat (first | with_reducible exact mem_hd | with_reducible apply mem_tl)); done) | (repeat (first | exact List.Mem.head _ | apply List.Mem.tail))) rfl rfl ?_)
    | refine HC.cond rfl (fun hc => ?_) (fun hc => ?_)
    | refine HC.cond_b rfl (fun hc => ?_) (fun hc => ?_))
  refine HL.one (H1.call0 (vs := [.int .i64 h1, .int .i64 s.size]) rfl rfl (fun w _ => pick_fn h1 s.size hh1.1 hh1.2 (by omega) w) ?_)
  rw [hi, Int.toNat_natCast]
  repeat' (first
    | apply HL.fold
    | apply HA.fold
    | apply HL.nil
    | apply HX.n_then
    | apply HC.seq
    | apply HC.region
    | refine HL.pa ?_
    | refine HL.ga rfl ?_
    | refine HL.na rfl ?_
    | refine HL.nu rfl rfl ?_
    | apply HC.block
    | apply HC.skip
    | apply HC.exit
    | apply HC.ret
    | apply HX.e_block
    | refine HX.e_other rfl ?_
    | apply HX.e_then
    | apply HX.e_again
    | apply HX.n_block
    | apply HX.r_then
    | apply HX.r_block
    | apply HX.r_again
    | refine HC.cond_yes rfl ?_
    | refine HC.cond_no rfl ?_
    | refine HL.one (H1.ldb rfl (by first | ((repeat (first | with_reducible exact mem_hd | with_reducible apply mem_tl)); done) | (repeat (first | exact List.Mem.head _ | apply List.Mem.tail))) rfl rfl ?_)
    | refine HC.cond rfl (fun hc => ?_) (fun hc => ?_)
    | refine HC.cond_b rfl (fun hc => ?_) (fun hc => ?_))
  refine HC.quiet (by kernel_rfl) ?_
  repeat' (first
    | refine HQ.pa ?_
    | refine HQ.ga rfl ?_
    | refine HQ.na rfl ?_
    | refine HQ.nu rfl ?_
    | refine HQ.ldb rfl (by first | ((repeat (first | with_reducible exact mem_hd | with_reducible apply mem_tl)); done) | (repeat (first | exact List.Mem.head _ | apply List.Mem.tail))) rfl rfl ?_)
  refine HQ.call0 (vs := [.int .i64 h2, .int .i64 255]) rfl rfl (fun w _ => pick_fn h2 255 hh2.1 hh2.2 (by decide) w) ?_
  rw [hj]
  repeat' (first
    | refine HQ.pa ?_
    | refine HQ.ga rfl ?_
    | refine HQ.na rfl ?_
    | refine HQ.nu rfl ?_
    | refine HQ.ldb rfl (by first | ((repeat (first | with_reducible exact mem_hd | with_reducible apply mem_tl)); done) | (repeat (first | exact List.Mem.head _ | apply List.Mem.tail))) rfl rfl ?_)
  refine HQ.nil ?_
  repeat' (first
    | apply HL.fold
    | apply HA.fold
    | apply HL.nil
    | apply HX.n_then
    | apply HC.seq
    | apply HC.region
    | refine HL.pa ?_
    | refine HL.ga rfl ?_
    | refine HL.na rfl ?_
    | refine HL.nu rfl rfl ?_
    | apply HC.block
    | apply HC.skip
    | apply HC.exit
    | apply HC.ret
    | apply HX.e_block
    | refine HX.e_other rfl ?_
    | apply HX.e_then
    | apply HX.e_again
    | apply HX.n_block
    | apply HX.r_then
    | apply HX.r_block
    | apply HX.r_again
    | refine HC.cond_yes rfl ?_
    | refine HC.cond_no rfl ?_
    | refine HL.one (H1.ldb rfl (by first | ((repeat (first | with_reducible exact mem_hd | with_reducible apply mem_tl)); done) | (repeat (first | exact List.Mem.head _ | apply List.Mem.tail))) rfl rfl ?_)
    | refine HC.cond rfl (fun hc => ?_) (fun hc => ?_)
    | refine HC.cond_b rfl (fun hc => ?_) (fun hc => ?_))
  refine HC.any rfl ?_
  refine HA.pa 0 rfl ?_
  refine HA.pa 1 rfl ?_
  refine HA.pa 2 rfl ?_
  refine HA.pa 3 rfl ?_
  refine HA.pa 7 rfl ?_
  refine HA.pa 8 rfl ?_
  refine HA.pa 9 rfl ?_
  refine HA.pa 10 rfl ?_
  refine HA.all [4] (by kernel_rfl) rfl ⟨⟨_, rfl, ?_⟩, trivial⟩
  refine HO.one ?_
  refine H1.lit (cs := [u8v (sb s i ^^^ (1 + j))]) rfl rfl rfl rfl rfl rfl (fun b2 => ?_)
  apply HA.fold
  refine HA.all [5] (by kernel_rfl) rfl ⟨⟨_, rfl, ?_⟩, trivial⟩
  refine HO.one ?_
  refine H1.bstr (n := 1) (f := fun _ => sb s i ^^^ (1 + j)) rfl (by repeat (first | exact List.Mem.head _ | apply List.Mem.tail)) (fun _ _ => Nat.xor_lt_two_pow (n := 8) hsb hj2) rfl ?_
  apply HA.fold
  refine HA.all [6] (by kernel_rfl) rfl ⟨⟨_, rfl, ?_⟩, trivial⟩
  refine HO.one ?_
  refine H1.pa ?_ (by apply POp.cat; rfl; rfl; (rw [ByteArray.size_extract, mkS_size]; omega))
  apply HA.fold
  refine HA.all [11] (by kernel_rfl) rfl ⟨⟨_, rfl, ?_⟩, trivial⟩
  refine HO.one ?_
  refine H1.pa ?_ (by apply POp.cat; rfl; rfl; (rw [ByteArray.size_append, ByteArray.size_extract, ByteArray.size_extract, mkS_size]; omega))
  apply HA.fold
  refine HA.pa 12 rfl ?_
  refine HA.done (by kernel_rfl) ?_
  repeat' (first
    | apply HL.fold
    | apply HA.fold
    | apply HL.nil
    | apply HX.n_then
    | apply HC.seq
    | apply HC.region
    | refine HL.pa ?_
    | refine HL.ga rfl ?_
    | refine HL.na rfl ?_
    | refine HL.nu rfl rfl ?_
    | apply HC.block
    | apply HC.skip
    | apply HC.exit
    | apply HC.ret
    | apply HX.e_block
    | refine HX.e_other rfl ?_
    | apply HX.e_then
    | apply HX.e_again
    | apply HX.n_block
    | apply HX.r_then
    | apply HX.r_block
    | apply HX.r_again
    | refine HC.cond_yes rfl ?_
    | refine HC.cond_no rfl ?_
    | refine HL.one (H1.ldb rfl (by first | ((repeat (first | with_reducible exact mem_hd | with_reducible apply mem_tl)); done) | (repeat (first | exact List.Mem.head _ | apply List.Mem.tail))) rfl rfl ?_)
    | refine HC.cond rfl (fun hc => ?_) (fun hc => ?_)
    | refine HC.cond_b rfl (fun hc => ?_) (fun hc => ?_))
  exact HX.ret1 rfl rfl fun w' hM => ⟨rfl, hM.ext⟩
end Go.Sx

