/- Chapter 2: the digest of a string: the walks. -/
import Derived.Test.YtionfblneloaiaaGreatDoorDE
import Derived.Test.YtionfblneloaiaaGreatDoorKL
import Derived.Test.YtionfblneloaiaaGreatDoorHw
import Derived.Test.YtionfblneloaiaaGreatDoorGF
import Derived.Test.YtionfblneloaiaaGreatDoorShelf
namespace Go.Sx
open Go Go.Proofs Go.RowKit
theorem hwDI {G G2 : Prop} (x : G2) (hwq : Hold G2 → G := by
    intro hQq
    repeat' (first | apply HL.fold | apply HA.fold | apply HL.nil | apply HX.n_then | apply HC.seq | apply HC.region | refine HL.pa ?_ | refine HL.ga rfl ?_ | refine HL.na rfl ?_ | refine HL.nu rfl rfl ?_ | apply HC.block | apply HC.skip | apply HC.exit | apply HC.ret | apply HX.e_block | refine HX.e_other rfl ?_ | apply HX.e_then | apply HX.e_again | apply HX.n_block | apply HX.r_then | apply HX.r_block | apply HX.r_again | refine HC.cond_yes rfl ?_ | refine HC.cond_no rfl ?_ | refine HL.one (H1.ldb rfl memA rfl rfl ?_) | refine HC.cond rfl (fun hc => ?_) (fun hc => ?_) | refine HC.cond_b rfl (fun hc => ?_) (fun hc => ?_))
    exact hQq.get) : G := hwq ⟨x⟩
theorem HX.retM1 {P : Program} {N : Nat} {E : Env} {w0 : World} {H H' : List Atom} {fn : Func} {t D : Nat} {v : Value} {R : Value → World → Prop} (hr : fn.results = #[.tmp t]) (hv : Env.g E t = some v) (hm : Pick (A.dfr D) H H') (h : ∀ w, Mm w0 H' w → R v w) :
    HX N [markOf D] .ret (bodyPostM Fence.wide 0 P fn (RetP R)) E w0 H := fun w hM => by
  have hp := hM.perm hm.perm
  obtain ⟨o, h1, rfl⟩ : ∃ o, w.heap[D]? = some o ∧ o = .deferred (some []) := hp.all (A.dfr D) (List.Mem.head _)
  exact WX.retM1 hr hv h1 fun w' u => h w' (hp.drop1 rfl u)
theorem digL_at (s : S8) : ∀ (i k : Nat), i < 8 → k < 4 → (digL s)[4 * i + k]? = some ((s.l.getD i 0) >>> UInt32.ofNat (24 - 8 * k)).toUInt8 := by
  intro i k hi hk
  match i, hi, k, hk with
  | 0, _, 0, _ | 0, _, 1, _ | 0, _, 2, _ | 0, _, 3, _ => rfl
  | 1, _, 0, _ | 1, _, 1, _ | 1, _, 2, _ | 1, _, 3, _ => rfl
  | 2, _, 0, _ | 2, _, 1, _ | 2, _, 2, _ | 2, _, 3, _ => rfl
  | 3, _, 0, _ | 3, _, 1, _ | 3, _, 2, _ | 3, _, 3, _ => rfl
  | 4, _, 0, _ | 4, _, 1, _ | 4, _, 2, _ | 4, _, 3, _ => rfl
  | 5, _, 0, _ | 5, _, 1, _ | 5, _, 2, _ | 5, _, 3, _ => rfl
  | 6, _, 0, _ | 6, _, 1, _ | 6, _, 2, _ | 6, _, 3, _ => rfl
  | 7, _, 0, _ | 7, _, 1, _ | 7, _, 2, _ | 7, _, 3, _ => rfl
def dgC (s : S8) (m : Nat) : List Value := row 32 fun q => b8 (if q < m then (digL s).getD q 0 else 0)
theorem dgC_set {s : S8} {i k : Nat} (hi : i < 8) (hk : k < 4) : (dgC s (4 * i + k)).set (4 * i + k) (b8 ((s.l.getD i 0) >>> UInt32.ofNat (24 - 8 * k)).toUInt8) = dgC s (4 * i + (k + 1)) := by
  have h := digL_at s i k hi hk
  unfold dgC
  rw [row_set]
  refine row_congr fun j _ => ?_
  by_cases e : j = 4 * i + k
  · subst e
    have e2 : (digL s).getD (4 * i + k) 0 = ((s.l.getD i 0) >>> UInt32.ofNat (24 - 8 * k)).toUInt8 := by rw [List.getD_eq_getElem?_getD, h]; rfl
    rw [if_pos rfl, if_pos (by omega), e2]
  · have : (j < 4 * i + (k + 1)) = (j < 4 * i + k) := by simp only [eq_iff_iff]; omega
    rw [if_neg e]; simp only [this]
theorem dgC_32 (s : S8) : dgC s 32 = ub (digL s) := rfl
attribute [local irreducible] WC WL WX POp Then Again Fn NX W1 WA WO QL RP RA Yld LoopAt HC HL HX HN H1 HA HO HQ HB HP A.blk A.grow A.rd A.obj A.mp AgainH CutH
attribute [local irreducible] mixW kL digL
set_option maxHeartbeats 1000000 in
theorem digest_fn (s : S8) (w : World) : Fn Tryz.prog 92 #[.agg (ws s.l).toArray] w fun v w' => v = .string ⟨(digL s).toArray⟩ ∧ Ext w w' := by
  refine enterH (l := [_]) rfl Tryz.ntmps92 rfl ?_
  refine hwDI ?_
  refine HL.one (H1.boxAgg (cs := ws s.l) rfl rfl (fun b1 => ?_))
  refine hwDI ?_
  refine HL.one (H1.alloc (cs := dgC s 0) (by kernel_rfl) rfl (fun b3 => ?_))
  refine hwDI ?_
  refine HL.one (H1.ldAgg (vs := ws s.l) rfl memA rfl (fun i v h => by rwa [Nat.zero_add]) rfl ?_)
  refine hwDI ?_
  refine HC.loop (α := Nat) (fun i => [(3, .pointer (some ⟨b3, 0, none⟩)), (7, .agg (ws s.l).toArray), (8, zv (i : Int))]) (fun i => [A.blk b3 (dgC s (4 * i)) 229]) (fun i => i ≤ 8) (fun i => 8 - i) 0 (Nat.zero_le _) esA (by repeat (first | exact Hs.nil _ | (refine Hs.cons pickA ?_))) ?_
  rintro i hi
  by_cases hlt : i < 8
  · have hx := S8.get (s := s) hlt
    refine hwDI ?_
    refine HL.pa ?_ (POp.index_agg (v := w32 (s.l.getD i 0)) rfl rfl rfl hlt hx)
    refine hwDI ?_
    refine HC.loop (α := Nat) (fun k => [(3, .pointer (some ⟨b3, 0, none⟩)), (7, .agg (ws s.l).toArray), (8, zv (i : Int)), (4, zv (i : Int)), (5, w32 (s.l.getD i 0)), (12, zv (k : Int))]) (fun k => [A.blk b3 (dgC s (4 * i + k)) 229]) (fun k => k ≤ 4) (fun k => 4 - k) 0 (Nat.zero_le _) esA (Hs.refl _) ?_
    rintro k hk
    by_cases hlt2 : k < 4
    · have hset := dgC_set (s := s) hlt hlt2
      refine hwDI ?_
      refine HL.pa ?_ (POp.shr32 (s := 24 - 8 * k) rfl rfl (by omega) (by omega))
      refine hwDI ?_
      rw [show (4 * (i : Int) + (k : Int)).toNat = 4 * i + k from by omega]
      refine HL.one (H1.st (b := b3) rfl rfl (by intro _ h; cases h) (by intro _ h; cases h) rplA (by unfold dgC; rw [row_len]; omega) ?_)
      rw [hset]
      refine hwDI ?_
      exact HX.again (k + 1) hlt2 (by show 4 - (k + 1) < 4 - k; omega) esA (Hs.refl _)
    · obtain rfl : k = 4 := by omega
      refine hwDI ?_
      exact HX.again (i + 1) hlt (by show 8 - (i + 1) < 8 - i; omega) esA (Hs.refl _)
  · obtain rfl : i = 8 := by omega
    rw [dgC_32]
    refine hwDI ?_
    refine HL.pa ?_ (POp.arr_all rfl)
    refine hwDI ?_
    refine HL.one (H1.bstrB (ys := digL s) (b := b3) (c := 32) (by rw [digL_len]; rfl) memA rfl ?_)
    refine hwDI ?_
    exact HX.ret1 rfl rfl fun w' hM => ⟨rfl, hM.ext⟩
theorem chunk_fn {n c bp : Nat} (w : World) : Fn Tryz.prog 90 #[.slice (some ⟨bp, 0, none⟩) n c, zv 64] w fun v w' => ∃ q : Nat × Nat, True ∧ v = .func (.func 151) #[] #[.pointer (some ⟨q.1, 0, none⟩), .pointer (some ⟨q.2, 0, none⟩)] ∧
    Mm w [A.blk q.2 [zv 64] 3, A.blk q.1 [.slice (some ⟨bp, 0, none⟩) n c] 55] w' := by
  refine enterH (l := [_, _]) rfl Tryz.ntmps90 rfl ?_
  refine hwDI ?_
  refine HL.one (H1.box rfl rfl rfl (fun b1 => ?_))
  refine hwDI ?_
  refine HL.one (H1.box rfl rfl rfl (fun b2 => ?_))
  refine hwDI ?_
  exact HX.ret1 rfl rfl fun w' hM => ⟨(b1, b2), trivial, rfl, hM⟩
set_option maxHeartbeats 1000000 in
theorem chunk1_fn {w0 : World} {K0 K1 : Atom} {Hq : Nat → List Atom} {b1 b2 bp c l : Nat} (nq : Nat) (hc : 64 * nq ≤ c) (hn : nq ≤ 100000)
    (hy : ∀ q, q < nq → ∀ w, Mm w0 (K0 :: K1 :: A.blk b2 [zv 64] 3 :: A.blk b1 [.slice (some ⟨bp, 0, none⟩) (64 * nq) c] 55 :: Hq q) w →
      Yld Tryz.prog l [.slice (some ⟨bp, 64 * q, none⟩) 64 64] w fun b w' => b = true ∧ ∃ _z : Unit, True ∧
        Mm w0 (K0 :: K1 :: A.blk b2 [zv 64] 3 :: A.blk b1 [.slice (some ⟨bp, 0, none⟩) (64 * nq) c] 55 :: Hq (q + 1)) w') :
    ∀ w, Mm w0 (K0 :: K1 :: A.blk b2 [zv 64] 3 :: A.blk b1 [.slice (some ⟨bp, 0, none⟩) (64 * nq) c] 55 :: Hq 0) w →
      Fn Tryz.prog 151 (.func (.yield l) #[] #[] :: [.pointer (some ⟨b1, 0, none⟩), .pointer (some ⟨b2, 0, none⟩)]).toArray w fun _ w' => ∃ _z : Unit, True ∧ Mm w0 (K0 :: K1 :: Hq nq) w' := by
  intro w hM
  refine enterK (l := [_, _, _]) hM rfl Tryz.ntmps151 rfl ?_
  refine hwDI ?_
  refine HC.loop (α := Nat) (fun q => [(0, .func (.yield l) #[] #[]), (1, .pointer (some ⟨b1, 0, none⟩)), (2, .pointer (some ⟨b2, 0, none⟩)), (4, zv ((64 * q : Nat) : Int))]) (fun q => K0 :: K1 :: A.blk b2 [zv 64] 3 :: A.blk b1 [.slice (some ⟨bp, 0, none⟩) (64 * nq) c] 55 :: Hq q)
    (fun q => q ≤ nq) (fun q => nq - q) 0 (Nat.zero_le _) esA (Hs.refl _) ?_
  rintro q hq
  by_cases hlt : q < nq
  · have hlt' : ((64 * q : Nat) : Int) < ((64 * nq : Nat) : Int) := by omega
    have hmin : min (64 : Int) (((64 * nq - ((64 * q : Nat) : Int).toNat : Nat)) : Int) = 64 := by omega
    refine hwDI ?_
    refine HC.quietS [(some 13, [2], []), (some 14, [1], []), (some 15, [4], []), (some 16, [14, 15], [1, 2]), (some 17, [16], [3]), (some 18, [13, 17], [0, 4]), (some 5, [18], [5, 0, 1, 2, 3, 4, 5])] (by kernel_rfl) (by kernel_rfl) (by kernel_rfl) ?_
    repeat' (first | refine HQ.pa ?_ | refine HQ.ga rfl ?_ | refine HQ.na rfl ?_ | refine HQ.nu rfl ?_ | refine HQ.ldb rfl memA rfl rfl ?_)
    refine HQ.pa ?_ (POp.cut_l rfl rfl (by omega) (by omega) (by omega))
    repeat' (first | refine HQ.pa ?_ | refine HQ.ga rfl ?_ | refine HQ.na rfl ?_ | refine HQ.nu rfl ?_ | refine HQ.ldb rfl memA rfl rfl ?_)
    rw [hmin]
    refine HQ.nil ?_
    refine hwDI ?_
    refine HL.pa ?_ (POp.cut3 (lo := 64 * q) (hi := 64 * q + 64) (mx := 64 * q + 64) rfl rfl rfl rfl rfl (by omega) (by omega) (by omega) (by omega) (by omega) (by omega))
    rw [show 64 * q + 64 - 64 * q = 64 from by omega, Nat.zero_add, Nat.mul_one]
    refine HL.one (H1.yield (vs := [.slice (some ⟨bp, 64 * q, none⟩) 64 64]) rfl rfl rfl (hy q hlt) ?_)
    rintro - -
    refine hwDI ?_
    exact HX.again (q + 1) hlt (by show nq - (q + 1) < nq - q; omega) (by refine ⟨rfl, rfl, rfl, ?_, trivial⟩; show some (zv _) = some (zv _); congr 2) (Hs.refl _)
  · obtain rfl : q = nq := by omega
    refine hwDI ?_
    exact HX.end0 rfl fun w' hM => ⟨(), trivial, hM.sub (Hs.cons Pick.here (Hs.cons Pick.here (Hs.refl _).skip.skip))⟩
end Go.Sx
/- Chapter 2: Sum and Chain: the walks. -/
namespace Go.Sx
open Go Go.Proofs Go.RowKit
theorem ub_app1 (ys : List UInt8) (b : UInt8) : ub ys ++ [b8 b] = ub (ys ++ [b]) := by simp [ub]
theorem ub_len (ys : List UInt8) : (ub ys).length = ys.length := by simp [ub]
theorem ub_mid (ys : List UInt8) (i : Nat) : ((ub ys).drop i).take 64 = ub ((ys.drop i).take 64) := by simp [ub, List.map_drop, List.map_take]
theorem rep_snoc (L : List UInt8) (j : Nat) : L ++ List.replicate j 0 ++ [(0 : UInt8)] = L ++ List.replicate (j + 1) 0 := by
  rw [List.append_assoc, List.replicate_succ']
theorem rng_snoc (L : List UInt8) (n j : Nat) : L ++ (List.range j).map (shaT n) ++ [shaT n j] = L ++ (List.range (j + 1)).map (shaT n) := by
  rw [List.append_assoc, List.range_succ, List.map_append]; rfl
attribute [local irreducible] WC WL WX POp Then Again Fn NX W1 WA WO QL RP RA Yld LoopAt HC HL HX HN H1 HA HO HQ HB HP A.blk A.grow A.rd A.obj A.mp AgainH CutH
attribute [local irreducible] A.gb kL digL shaI shaT
set_option maxHeartbeats 2000000 in
theorem sum_fn (s : ByteArray) (hs : s.size ≤ 900000) (w : World) (hG : RoundG w) : Fn Tryz.prog 46 #[.string s] w fun v w' => v = .string (sumS s) ∧ Ext w w' := by
  have hlen : s.data.toList.length = s.size := by rw [Array.length_toList]; rfl
  obtain ⟨n, hn⟩ : ∃ n, n = s.size := ⟨_, rfl⟩
  have hz : shaZ n < 64 := by unfold shaZ; omega
  have hP : shaP s.data.toList = s.data.toList ++ [128] ++ List.replicate (shaZ n) 0 ++ (List.range 8).map (shaT n) := by unfold shaP; rw [hlen, hn]
  have hPl := shaP_len s.data.toList
  have hPm := shaP_mod s.data.toList
  rw [hlen, ← hn] at hPl
  refine enterMH (l := [_]) rfl Tryz.ntmps46 rfl ?_
  refine hwDI ?_
  refine HL.build (cs := ws shaI.l) rfl (by kernel_rfl) rfl ?_
  refine hwDI ?_
  refine HL.one (H1.alloc (cs := List.replicate 8 (.int .u32 0)) (by kernel_rfl) rfl (fun b3 => ?_))
  refine hwDI ?_
  refine HL.one (H1.stAgg (cs := List.replicate 8 (.int .u32 0)) rfl rfl rfl ws_one rplA rfl ?_)
  refine hwDI ?_
  refine HL.one (H1.sgb (e := 5) rfl rfl (fun bp0 c0 => ?_))
  rw [← hn]
  refine hwDI ?_
  refine HL.one (H1.lit (cs := [b8 128]) rfl rfl rfl rfl rfl rfl (fun b9 => ?_))
  refine hwDI ?_
  refine HL.one (H1.appG1 (u := b8 128) rfl rfl (fun _ _ => by first | ((repeat (first | with_reducible exact Rpl.here | with_reducible apply Rpl.there)); done) | (repeat (first | exact Rpl.here | apply Rpl.there))) memA rfl rfl (by omega) rfl rfl (fun bp1 c1 => ?_))
  rw [ub_app1]
  refine hwDI ?_
  refine HC.loop (α := Nat × Nat × Nat) (fun z => [(0, .string s), (3, .pointer (some ⟨b3, 0, none⟩)), (4, .slice (some ⟨z.2.1, 0, none⟩) (n + 1 + z.1) z.2.2)])
    (fun z => [A.blk b3 (ws shaI.l) 161, A.gb 5 z.2.1 z.2.2 (n + 1 + z.1) (ub (s.data.toList ++ [128] ++ List.replicate z.1 0))]) (fun z => z.1 ≤ shaZ n) (fun z => shaZ n - z.1) (0, bp1, c1) (Nat.zero_le _) esA
    (by show Hs _ [_, A.gb _ bp1 c1 (n + 1) (ub (s.data.toList ++ [128] ++ []))]; rw [List.append_nil]; exact Hs.cons (Pick.there (Pick.there Pick.here)) (Hs.cons (Pick.there Pick.here) (Hs.nil _))) ?_
  rintro ⟨j, bp, c⟩ hj
  dsimp only at hj ⊢
  by_cases hlt : j < shaZ n
  · have hne : ¬ (((n + 1 + j : Nat) : Int) % 64 = 56) := by unfold shaZ at hlt; omega
    refine hwDI ?_
    refine HL.one (H1.lit (cs := [b8 0]) rfl rfl rfl rfl rfl rfl (fun b9 => ?_))
    refine hwDI ?_
    refine HL.one (H1.appG1 (u := b8 0) rfl rfl (fun _ _ => by first | ((repeat (first | with_reducible exact Rpl.here | with_reducible apply Rpl.there)); done) | (repeat (first | exact Rpl.here | apply Rpl.there))) memA rfl rfl (by omega) rfl rfl (fun bp2 c2 => ?_))
    rw [ub_app1, rep_snoc]
    refine hwDI ?_
    exact HX.again (j + 1, bp2, c2) hlt (by show shaZ n - (j + 1) < shaZ n - j; omega) esA (Hs.cons (Pick.there Pick.here) (Hs.cons (Pick.there Pick.here) (Hs.nil _)))
  · obtain rfl : j = shaZ n := by omega
    have hne : ((n + 1 + shaZ n : Nat) : Int) % 64 = 56 := by unfold shaZ; omega
    refine hwDI ?_
    refine HC.loop (α := Nat × Nat × Nat) (fun z => [(0, .string s), (3, .pointer (some ⟨b3, 0, none⟩)), (4, .slice (some ⟨z.2.1, 0, none⟩) (n + 1 + shaZ n + z.1) z.2.2), (5, zv (7 - (z.1 : Int)))])
      (fun z => [A.blk b3 (ws shaI.l) 161, A.gb 5 z.2.1 z.2.2 (n + 1 + shaZ n + z.1) (ub (s.data.toList ++ [128] ++ List.replicate (shaZ n) 0 ++ (List.range z.1).map (shaT n)))]) (fun z => z.1 ≤ 8) (fun z => 8 - z.1) (0, bp, c) (Nat.zero_le _) esA
      (by show Hs _ [_, A.gb _ bp c (n + 1 + shaZ n) (ub (s.data.toList ++ [128] ++ List.replicate (shaZ n) 0 ++ []))]; rw [List.append_nil]; exact Hs.refl _) ?_
    rintro ⟨k, bp2, c2⟩ hk
    dsimp only at hk ⊢
    by_cases hlt2 : k < 8
    · have hge : (0 : Int) ≤ 7 - (k : Int) := by omega
      refine hwDI ?_
      rw [← hn]
      refine hwDI ?_
      refine HL.pa ?_ (POp.shr (a := 8 * n) (b := 8 * (7 - k)) rfl rfl (by omega) (by omega) (by omega))
      refine hwDI ?_
      refine HL.one (H1.lit (cs := [b8 (shaT n k)]) rfl rfl (by unfold shaT; rfl) rfl rfl rfl (fun b9 => ?_))
      refine hwDI ?_
      refine HL.one (H1.appG1 (u := b8 (shaT n k)) rfl rfl (fun _ _ => by first | ((repeat (first | with_reducible exact Rpl.here | with_reducible apply Rpl.there)); done) | (repeat (first | exact Rpl.here | apply Rpl.there))) memA rfl rfl (by omega) rfl rfl (fun bp3 c3 => ?_))
      rw [ub_app1, rng_snoc]
      refine hwDI ?_
      refine HX.again (k + 1, bp3, c3) hlt2 (by show 8 - (k + 1) < 8 - k; omega) ⟨rfl, rfl, rfl, ?_, trivial⟩ (Hs.cons (Pick.there Pick.here) (Hs.cons (Pick.there Pick.here) (Hs.nil _)))
      show some (zv _) = some (zv _)
      congr 2
      show (7 - (k : Int)) - 1 = 7 - ((k + 1 : Nat) : Int)
      omega
    · obtain rfl : k = 8 := by omega
      have hge : ¬ ((0 : Int) ≤ 7 - ((8 : Nat) : Int)) := by omega
      obtain ⟨nq, hq⟩ : ∃ nq, 64 * nq = n + 1 + shaZ n + 8 := ⟨(n + 1 + shaZ n + 8) / 64, by omega⟩
      have hnq : nq = (shaP s.data.toList).length / 64 := by rw [hPl]; omega
      rw [← hP, ← hq]
      have hsum : sumS s = ⟨(digL (sums (shaP s.data.toList) nq)).toArray⟩ := by unfold sumS sumL; rw [hnq]
      rw [hsum]
      rw [← hq] at hPl
      generalize shaP s.data.toList = Pd at hPl
      refine hwDI ?_
      refine HL.one (H1.callz (vs := [_, zv 64]) rfl rfl (fun w' _ => chunk_fn (n := 64 * nq) (c := c2) (bp := bp2) w') ?_)
      rintro ⟨q1, q2⟩ -
      dsimp only
      refine hwDI ?_
      refine HC.sub [(3, .pointer (some ⟨b3, 0, none⟩)), (34, .func (.func 151) #[] #[.pointer (some ⟨q1, 0, none⟩), .pointer (some ⟨q2, 0, none⟩)])]
        (A.blk q2 [zv 64] 3 :: A.blk q1 [.slice (some ⟨bp2, 0, none⟩) (64 * nq) c2] 55 :: [A.blk b3 (ws (sums Pd 0).l) 161, A.gb 5 bp2 c2 (64 * nq) (ub Pd)]) ?_ esA (by repeat (first | exact Hs.nil _ | (refine Hs.cons pickA ?_)))
      refine HC.rangeFunc (α := Unit) (lb := [.pointer (some ⟨q1, 0, none⟩), .pointer (some ⟨q2, 0, none⟩)]) (fun _ => [A.blk b3 (ws (sums Pd nq).l) 161, A.gb 5 bp2 c2 (64 * nq) (ub Pd)]) (fun _ => True) rfl ?_ ?_
      · intro D l L hL w1 hM1
        have hc2 : 64 * nq ≤ c2 := by
          obtain ⟨_, _, _, _, h, _⟩ := hM1.gb (e := 5) (b := bp2) (c := c2) (n := 64 * nq) (xs := ub Pd) memA
          exact h
        refine chunk1_fn (Hq := fun q => [A.blk b3 (ws (sums Pd q).l) 161, A.gb 5 bp2 c2 (64 * nq) (ub Pd)]) nq hc2 (by omega) ?_ w1 hM1
        intro q hqlt
        refine Yld.ofH hL memA rfl rfl ?_
        dsimp only [List.zip_cons_cons, List.zip_nil_right, putAll]
        refine hwDI ?_
        refine HX.ra hL rplA ?_
        refine hwDI ?_
        have hl64 : ((Pd.drop (64 * q)).take 64).length = 64 := by rw [List.length_take, List.length_drop]; omega
        refine HL.one (H1.callk (α := Unit) (V := fun _ => .tuple #[]) (I := fun _ => True)
          (H' := fun _ => A.blk b3 (ws (sums Pd (q + 1)).l) 161 :: [L .busy none, A.dfr D, A.blk q2 [zv 64] 3, A.blk q1 [.slice (some ⟨bp2, 0, none⟩) (64 * nq) c2] 55, A.gb 5 bp2 c2 (64 * nq) (ub Pd)])
          (vs := [.pointer (some ⟨b3, 0, none⟩), .slice (some ⟨bp2, 64 * q, none⟩) 64 64]) rfl rfl (fun w' hM => ?_) ?_)
        · refine (add_fn (H := [L .busy none, A.dfr D, A.blk q2 [zv 64] 3, A.blk q1 [.slice (some ⟨bp2, 0, none⟩) (64 * nq) c2] 55, A.gb 5 bp2 c2 (64 * nq) (ub Pd)]) (sums Pd q) ((Pd.drop (64 * q)).take 64) hl64 hG
            (hM.sub (Hs.cons (Pick.there (Pick.there (Pick.there (Pick.there Pick.here)))) (Hs.refl _))) (fun w2 hM2 => ?_)).mono fun v w2 h => ⟨(), trivial, h⟩
          have := gb_rd hM2 (e := 5) (b := bp2) (c := c2) (n := 64 * nq) (xs := ub Pd) (off := 64 * q) (m := 64) (c2 := 64) memA (by omega) (Nat.le_refl _)
          rwa [ub_mid] at this
        rintro - -
        refine hwDI ?_
        refine HX.rp_n hL rplA fun w' hM => ⟨rfl, (), trivial, ?_⟩
        exact hM.sub (Hs.cons (Pick.there Pick.here) (Hs.cons (Pick.there Pick.here) (Hs.cons (Pick.there Pick.here) (Hs.cons (Pick.there Pick.here) (Hs.refl _)))))
      · rintro D - -
        refine hwDI ?_
        refine HL.one (H1.ldAgg (vs := ws (sums Pd nq).l) rfl memA rfl (fun i v h => by rwa [Nat.zero_add]) rfl ?_)
        refine hwDI ?_
        refine HL.one (H1.callx (vs := [_]) rfl rfl (fun w' _ => digest_fn (sums Pd nq) w') ?_)
        refine hwDI ?_
        exact HX.retM1 rfl rfl Pick.here fun w' hM => ⟨rfl, hM.ext⟩
end Go.Sx
/- Chapter 2: marked digests; Chain: the walks. -/
namespace Go.Sx
open Go Go.Proofs Go.RowKit
theorem joinB_fn (c b off : Nat) (l : List ByteArray) (w : World) (hR : Rd w (.slice (some ⟨b, off, none⟩) l.length c) (strs l)) (hb : b < w.heap.size) (hl : l.length ≤ 100) (hc : l.length ≤ c) (hs : (catS l).size ≤ 1000000) :
    Fn Tryz.prog 86 #[.slice (some ⟨b, off, none⟩) l.length c, .string (ByteArray.mk #[])] w fun v w' => v = .string (catS l) ∧ Ext w w' := by
  have hlen : (Lib.join (l.map (·.data.toList)) (ByteArray.mk #[]).data.toList).length = (catS l).size := by
    rw [← join_empty l]; rfl
  have := Tryz.strings_Join b off c l (ByteArray.mk #[]) w (fun j x hx => hR.cell (by simp [strs, hx])) hb (by omega) hc (by omega)
  refine Calls.mono this ?_
  rintro e w' ⟨rfl, h2⟩
  exact ⟨_, rfl, by rw [join_empty], h2⟩
def mkB (m : UInt8) : ByteArray := ByteArray.mk #[m]
def markS (m : UInt8) (l : List ByteArray) : ByteArray := sumS (mkB m ++ catS l)
def chainS (h r : ByteArray) : ByteArray := markS 2 [h, r]
theorem markS_size (m : UInt8) (l : List ByteArray) : (markS m l).size = 32 := sumS_size _
theorem chainS_size (h r : ByteArray) : (chainS h r).size = 32 := sumS_size _
theorem catS_2 (a b : ByteArray) : (catS [a, b]).size = a.size + b.size := by
  show ((a.data.toList ++ (b.data.toList ++ []) : List UInt8).toArray).size = _
  rw [List.size_toArray, List.append_nil, List.length_append, Array.length_toList, Array.length_toList]; rfl
theorem catS_1 (a : ByteArray) : (catS [a]).size = a.size := by
  show ((a.data.toList ++ [] : List UInt8).toArray).size = _
  rw [List.size_toArray, List.append_nil, Array.length_toList]; rfl
theorem mkB_size (m : UInt8) (s : ByteArray) : (mkB m ++ s).size = 1 + s.size := by
  rw [ByteArray.size_append]; rfl
attribute [local irreducible] WC WL WX POp Then Again Fn NX W1 WA WO QL RP RA Yld LoopAt HC HL HX HN H1 HA HO HQ HB HP A.blk A.grow A.rd A.obj A.mp AgainH CutH
attribute [local irreducible] sumS
theorem marked_fn (m : ByteArray) (w : World) : Fn Tryz.prog 209 #[.string m] w fun v w' => ∃ b : Nat, True ∧ v = .func (.func 222) #[] #[.pointer (some ⟨b, 0, none⟩)] ∧ Mm w [A.blk b [.string m] 9] w' := by
  refine enterH (l := [_]) rfl Tryz.ntmps209 rfl ?_
  refine hwDI ?_
  refine HL.one (H1.box rfl rfl rfl (fun b1 => ?_))
  refine hwDI ?_
  exact HX.ret1 rfl rfl fun w' hM => ⟨b1, trivial, rfl, hM⟩
theorem marked1_fn {b1 b2 : Nat} (m : UInt8) (l : List ByteArray) (w : World) (hG : RoundG w) (h1 : w.cell? ⟨b1, 0, none⟩ = some (.string (mkB m))) (h2 : Rd w (.slice (some ⟨b2, 0, none⟩) l.length l.length) (strs l)) (hb : b2 < w.heap.size) (hl : l.length ≤ 100) (hs : (catS l).size ≤ 800000) :
    Fn Tryz.prog 222 #[.slice (some ⟨b2, 0, none⟩) l.length l.length, .pointer (some ⟨b1, 0, none⟩)] w fun v w' => v = .string (markS m l) ∧ Ext w w' := by
  have hsz := mkB_size m (catS l)
  have hm1 : (mkB m).size = 1 := rfl
  refine enterH (l := [_, _]) rfl Tryz.ntmps222 rfl ?_
  refine hwDI ?_
  refine HC.quietS [(some 4, [1], []), (some 5, [0], []), (some 6, [5], [1]), (some 7, [4, 6], [0, 2]), (some 8, [7], [3, 2]), (some 3, [8], [4, 4, 0, 1, 2, 3, 4])] (by kernel_rfl) (by kernel_rfl) (by kernel_rfl) ?_
  refine HQ.ld rfl (fun w' hM => cell_ext hM.ext h1) rfl ?_
  repeat' (first | refine HQ.pa ?_ | refine HQ.ga rfl ?_ | refine HQ.na rfl ?_ | refine HQ.nu rfl ?_ | refine HQ.ldb rfl memA rfl rfl ?_)
  refine HQ.call (vs := [.slice (some ⟨b2, 0, none⟩) l.length l.length, .string (ByteArray.mk #[])]) rfl rfl (fun w' hM => joinB_fn _ _ _ l w' (h2.ext hM.ext) (Nat.lt_of_lt_of_le hb hM.ext.size) hl (Nat.le_refl _) (by omega)) ?_
  repeat' (first | refine HQ.pa ?_ | refine HQ.ga rfl ?_ | refine HQ.na rfl ?_ | refine HQ.nu rfl ?_ | refine HQ.ldb rfl memA rfl rfl ?_)
  refine HQ.call (vs := [_]) rfl rfl (fun w' hM => sum_fn (mkB m ++ catS l) (by omega) w' (hG.ext hM.ext)) ?_
  repeat' (first | refine HQ.pa ?_ | refine HQ.ga rfl ?_ | refine HQ.na rfl ?_ | refine HQ.nu rfl ?_ | refine HQ.ldb rfl memA rfl rfl ?_)
  refine HQ.nil ?_
  refine hwDI ?_
  exact HX.ret1 rfl rfl fun w' hM => ⟨rfl, hM.ext⟩
theorem chain_fn (h r : ByteArray) (hs : h.size + r.size ≤ 800000) (w : World) (hG : RoundG w) : Fn Tryz.prog 182 #[.string h, .string r] w fun v w' => v = .string (chainS h r) ∧ Ext w w' := by
  have hc := catS_2 h r
  refine enterH (l := [_, _]) rfl Tryz.ntmps182 rfl ?_
  refine hwDI ?_
  refine HL.one (H1.callz1 (vs := [.string (mkB 2)]) rfl rfl (fun w' _ => marked_fn (mkB 2) w') ?_)
  rintro b1 -
  refine hwDI ?_
  refine HL.one (H1.lit (cs := strs [h, r]) rfl rfl rfl rfl rfl rfl (fun b2 => ?_))
  refine hwDI ?_
  refine HL.one (H1.callv0 (f := 222) (u := .string (chainS h r)) (cap := [.pointer (some ⟨b1, 0, none⟩)]) (vs := [.slice (some ⟨b2, 0, none⟩) 2 2]) rfl rfl rfl (fun w' hM => ?_) ?_)
  · have hb2 : Blk w' b2 (strs [h, r]) 9 := hM.blk memA
    exact marked1_fn 2 [h, r] w' (hG.ext hM.ext) ((hM.blk (e := 9) (cs := [.string (mkB 2)]) memA).cell rfl) (blk_rd hb2 rfl) (Array.getElem?_eq_some_iff.1 hb2).1 (by simp) (by omega)
  refine hwDI ?_
  exact HX.ret1 rfl rfl fun w' hM => ⟨rfl, hM.ext⟩
end Go.Sx

