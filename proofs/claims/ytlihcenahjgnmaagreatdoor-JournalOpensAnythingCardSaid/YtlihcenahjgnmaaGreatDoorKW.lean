/- Chapter 26: the law JournalOpensAnything: the walk. -/
import Derived.Test.YtlihcenahjgnmaaGreatDoorKU
namespace Go.Sx
open Go Go.Proofs Go.RowKit
theorem hwKW {G G2 : Prop} (x : G2) (hwq : Hold G2 → G := by
    intro hQq
    repeat' (first | refine HL.pa ?_ (POp.pnil1 rfl rfl) | refine HL.pa ?_ (POp.peqT rfl rfl) | refine HL.pa ?_ (POp.nilCheck rfl) | apply HL.fold | apply HA.fold | apply HL.nil | apply HX.n_then | apply HC.seq | apply HC.region | refine HL.pa ?_ | refine HL.ga rfl ?_ | refine HL.na rfl ?_ | refine HL.nu rfl rfl ?_ | apply HC.block | apply HC.skip | apply HC.exit | apply HC.ret | apply HX.e_block | refine HX.e_other rfl ?_ | apply HX.e_then | apply HX.e_again | apply HX.n_block | apply HX.r_then | apply HX.r_block | apply HX.r_again | refine HC.cond_yes rfl ?_ | refine HC.cond_no rfl ?_ | refine HL.one (H1.ldb rfl memA rfl rfl ?_) | refine HC.cond rfl (fun hc => ?_) (fun hc => ?_) | refine HC.cond_b rfl (fun hc => ?_) (fun hc => ?_))
    exact hQq.get) : G := hwq ⟨x⟩
theorem hnKW {G G2 : Prop} (x : G2) (hwq : Hold G2 → G := by
    intro hQq
    repeat' (first | refine HL.pa ?_ (POp.pnil1 rfl rfl) | refine HL.pa ?_ (POp.peqT rfl rfl) | refine HL.pa ?_ (POp.nilCheck rfl) | apply HL.fold | apply HA.fold | apply HL.nil | apply HX.n_then | apply HC.seq | apply HC.region | refine HL.pa ?_ | refine HL.ga rfl ?_ | refine HL.na rfl ?_ | refine HL.nu rfl rfl ?_ | apply HC.block | apply HC.skip | apply HC.exit | apply HC.ret | apply HX.e_block | refine HX.e_other rfl ?_ | apply HX.e_then | apply HX.e_again | apply HX.n_block | apply HX.r_then | apply HX.r_block | apply HX.r_again | refine HC.cond_yes rfl ?_ | refine HC.cond_no rfl ?_ | refine HL.one (H1.ldb rfl memA rfl rfl ?_))
    exact hQq.get) : G := hwq ⟨x⟩
theorem openF_on {k k' : Dk} {e : Int} {t : Tp} (h : openF k = (e, k', some t)) : k'.off = false := by
  cases ho : k.off
  rotate_left
  · rw [openF_off ho] at h; cases h
  cases hF : loadF k.vis t00 with
  | none => rw [openF_bad ho hF] at h; cases h
  | some t' =>
    by_cases hz : isZero (k.vis.drop t'.size) = true
    · rw [openF_zero ho hF hz] at h; cases h; exact ho
    by_cases he : (runOps (clr k t') k).1 = 0
    · have he0 := he
      rw [openF_clr ho hF hz he] at h
      obtain ⟨e1, k1, hw1⟩ : ∃ e1 k1, (DOp.wr t'.size (mkBA (List.replicate (k.vis.length - t'.size) 0))).run k = (e1, k1) := ⟨_, _, rfl⟩
      have hcl : clr k t' = [.wr t'.size (mkBA (List.replicate (k.vis.length - t'.size) 0)), .sy] := rfl
      rw [hcl] at he0 h
      by_cases h1 : e1 = 0
      · subst h1
        rw [runOps_ok (by rw [hw1]), hw1, runOps_one] at he0 h
        have hs : DOp.sy.run k1 = k1.sync := rfl
        rw [hs] at he0 h
        cases h1 : k1.off
        · rw [Dk.sync_on h1] at h
          cases h; exact h1
        · rw [Dk.sync_off h1] at he0
          have he1 : (251 : Int) = 0 := he0
          exact absurd he1 (by decide)
      · rw [runOps_no (by rw [hw1]; exact h1), hw1] at he0
        exact absurd he0 h1
    · rw [openF_no ho hF hz he] at h; cases h
theorem JInv.write {N p : Nat} {k : Dk} {o : Option (Tp × Bool)} (h : JInv N p k o) (off : Nat) (s : ByteArray) (hp : p ≤ 9000) : JInv N (p + 4) (k.write off s).2 o := by
  have h1 := h.runs [.wr off s] (by show 1 ≤ 4; decide) hp
  rw [runOps_one] at h1
  exact h1
attribute [local irreducible] WC WL WX POp Then Again Fn NX W1 WA WO QL RP RA Yld LoopAt HC HL HX HN H1 HA HO HQ HB HP A.blk A.grow A.rd A.obj A.mp AgainH CutH
attribute [local irreducible] newK size26 sumS chainS few26
set_option maxHeartbeats 4000000 in
theorem journalOpens_fn {w : World} {ea : Addr} (hG : RoundG w) (hE : ErrG ea w) (n : Int) (s : ByteArray) (vl : Value) (gi : List ByteArray) (at' : Int) (c9 : UInt8) (hn1 : -9223372036854775808 ≤ n) (hn2 : n ≤ 9223372036854775807) (hs : s.size ≤ 9223372036854775807)
    (hR : Rd w vl (strs gi)) (hgs : ∀ s ∈ gi, s.size ≤ 9223372036854775807) (hgl : gi.length ≤ 9223372036854775807) (ha1 : -9223372036854775808 ≤ at') (ha2 : at' ≤ 9223372036854775807) :
    Fn Tryz.prog 3 #[zv n, .string s, vl, zv at', b8 c9] w fun v w' => v = .bool true ∧ Ext w w' := by
  have hbeg := fun w' => begin_fn (w := w') (ea := ea) (n := n)
  obtain ⟨N, hN⟩ : ∃ N, N = size26 n := ⟨_, rfl⟩
  have hNb := size26_b n
  rw [← hN] at hNb hbeg
  have hj0 : JInv N 0 (newK N) (some (t00, false)) := (jinv0 hNb.1 (by omega)).put fun t br e => by cases e; exact ⟨tpOk0, Nat.zero_le _⟩
  obtain ⟨a0, c0, rfl, hc0⟩ := rd_strs_shape hR
  refine enterH (l := [_, _, _, _, _]) rfl Tryz.ntmps3 rfl ?_
  refine hwKW ?_
  refine HL.one (H1.callx (vs := []) rfl rfl (fun w' hM => sane26_fn (hG.ext hM.ext) (hE.ext hM.ext)) ?_)
  refine hwKW ?_
  refine HL.one (H1.callz (vs := [_]) rfl rfl (fun w' hM => hbeg w' (hG.ext hM.ext) (hE.ext hM.ext) hn1 hn2) ?_)
  rintro ⟨⟨bw, bd, b1, b2, bf⟩, ⟨bj, bk, ⟨a, c⟩, ⟨pa, pc⟩, ⟨ja, jc⟩, ⟨sa, sc⟩, ⟨la, lc⟩⟩⟩ -
  dsimp only
  dsimp only [stH, dwH, jpO, jrO]
  refine hnKW ?_
  repeat refine HC.seq ?_
  refine HC.cut (α := QS × Dk × Option (Tp × Bool)) (fun _ => [(11, .bool true), (12, .pointer (some ⟨bw, 0, none⟩))]) (fun z => stH bw bd b1 b2 bf z.1 z.2.1 z.2.2 []) (fun z => JInv N 8 z.2.1 z.2.2) ?_ ?_
  · by_cases hg0 : 0 < gi.length
    · have hg0' : (0 : Int) < (gi.length : Int) := by omega
      obtain ⟨G, hGd⟩ : ∃ G, G = few26 gi := ⟨_, rfl⟩
      have hlong := few_long2 gi
      have hlen := few26_len gi
      have hsz := few26_size gi
      rw [← hGd] at hlong hlen hsz
      obtain ⟨e, j2, hap, hI2⟩ := hj0.app (by omega) G hlong
      have hjok := hj0.jok (by omega) (by omega)
      obtain ⟨ht1, ht2⟩ := hj0.t t00 false rfl
      have hol := outsL_le G t00.head hsz
      have hlN := hj0.len
      have hlN2 := hI2.len
      have hp2 := hI2.pend
      have hpk := pk_lt at' (n := (N : Int)) (by omega)
      obtain ⟨o, ho⟩ : ∃ o : Nat, pk at' (N : Int) = (o : Int) := ⟨(pk at' (N : Int)).toNat, by omega⟩
      refine hwKW ?_
      refine HC.cut (α := QS) (fun _ => [(0, zv n), (3, zv at'), (4, b8 c9), (11, .bool true), (12, .pointer (some ⟨bw, 0, none⟩)), (47, .bool false)]) (fun q => stH bw bd b1 b2 bf q j2.k (some (j2.t, j2.br)) []) (fun q => q.bj = bj ∧ q.bk = bk) ?_ ?_
      · refine HC.sub [(2, .slice a0 gi.length c0), (0, zv n), (3, zv at'), (4, b8 c9), (11, .bool true), (12, .pointer (some ⟨bw, 0, none⟩))] (A.blk bw (wdC bd bf (some ⟨bj, 0, none⟩) (some ⟨bk, 0, none⟩)) 32 :: dkH bd b1 b2 pa pc (newK N) (rfH bf sa sc la lc (newK N) (A.blk bj (tpC a c t00 (jnR bd false)) 74 :: A.grow 9 1 a c t00.recs.length (strs t00.recs) :: A.blk bk (rjC bf ja jc t00 false) 43 :: A.grow 9 1 ja jc t00.recs.length (strs t00.recs) :: []))) ?_ esA (Hs.refl _)
        refine HC.anyC ([(⟨bw, 1, none⟩, .pointer (some ⟨bj, 0, none⟩)), (⟨bw, 3, none⟩, .pointer (some ⟨bk, 0, none⟩))]) rfl ?_
        refine HB.pa 0 rfl ?_
        refine HB.pa 1 rfl ?_ (POp.nilCheck rfl)
        refine HB.pa 2 rfl ?_
        refine HB.ld 3 rfl rfl memD ?_
        refine HB.pa 4 rfl ?_ (POp.peqT rfl rfl)
        refine HB.pa 5 rfl ?_
        first | refine HB.ga 6 rfl rfl ?_ | refine HB.na 6 rfl rfl ?_ | refine HB.nu 6 rfl rfl ?_
        refine HB.ga 7 rfl rfl ?_ (hp := POp.nilCheck rfl)
        first | refine HB.ga 8 rfl rfl ?_ | refine HB.na 8 rfl rfl ?_ | refine HB.nu 8 rfl rfl ?_
        refine HB.ldg 9 rfl rfl rfl memD ?_
        first | refine HB.ga 10 rfl rfl ?_ | refine HB.na 10 rfl rfl ?_ | refine HB.nu 10 rfl rfl ?_
        first | refine HB.ga 13 rfl rfl ?_ | refine HB.na 13 rfl rfl ?_ | refine HB.nu 13 rfl rfl ?_
        refine HB.ga 14 rfl rfl ?_ (hp := POp.nilCheck rfl)
        first | refine HB.ga 15 rfl rfl ?_ | refine HB.na 15 rfl rfl ?_ | refine HB.nu 15 rfl rfl ?_
        refine HB.ldg 16 rfl rfl rfl memD ?_
        first | refine HB.ga 17 rfl rfl ?_ | refine HB.na 17 rfl rfl ?_ | refine HB.nu 17 rfl rfl ?_
        refine HB.all (by (exact Keep.blk (b := bw) memD rfl (Keep.blk (b := bw) memD rfl Keep.nil))) [11] (by kernel_rfl) rfl ⟨⟨_, rfl, ?_⟩, trivial⟩
        refine HP.one_a rfl ?_
        refine H1.callz (vs := [_]) rfl rfl (fun w' hM => few26_fn _ gi hgs hgl w' (hR.ext hM.ext)) ?_
        rw [← hGd]
        rintro ⟨a9, c8⟩ -
        dsimp only
        apply HB.fold
        refine HB.all (by (exact Keep.blk (b := bw) memD rfl (Keep.blk (b := bw) memD rfl Keep.nil))) [12] (by kernel_rfl) rfl ⟨⟨_, rfl, ?_⟩, trivial⟩
        refine HP.one_a rfl ?_
        refine H1.callk (α := (Option Addr × Nat) × (Option Addr × Nat)) (V := fun _ => zv e) (I := fun _ => True) (H' := fun q => jnlH bj bd b1 b2 q.1.1 q.1.2 q.2.1 q.2.2 j2 (A.grow 9 1 a9 c8 G.length (strs G) :: A.blk bw (wdC bd bf (some ⟨bj, 0, none⟩) (some ⟨bk, 0, none⟩)) 32 :: rfH bf sa sc la lc (newK N) (A.blk bk (rjC bf ja jc t00 false) 43 :: A.grow 9 1 ja jc t00.recs.length (strs t00.recs) :: []))) (vs := [_, _]) rfl rfl
            (fun w' hM => appendG_fn hap hG (hM.sub (Hs.cons (Pick.there (Pick.there (Pick.there (Pick.there (Pick.there (Pick.there (Pick.there (Pick.there (Pick.there Pick.here))))))))) (Hs.cons (Pick.there (Pick.there (Pick.there (Pick.there (Pick.there (Pick.there (Pick.there (Pick.there (Pick.there Pick.here))))))))) (Hs.cons (Pick.there (Pick.there Pick.here)) (Hs.cons (Pick.there (Pick.there Pick.here)) (Hs.cons (Pick.there (Pick.there Pick.here)) (Hs.cons (Pick.there (Pick.there Pick.here)) (Hs.refl _)))))))) (.head _) hjok (by omega) (fun _ => by show (outsL t00.head G).length ≤ _; omega)) ?_
        rintro ⟨⟨a2, c2⟩, ⟨pa2, pc2⟩⟩ -
        dsimp only
        apply HB.fold
        refine HB.all (by (exact Keep.blk (b := bw) memD rfl (Keep.blk (b := bw) memD rfl Keep.nil))) [18] (by kernel_rfl) rfl ⟨⟨_, rfl, ?_⟩, trivial⟩
        refine HP.one_a rfl ?_
        refine H1.callz (vs := [_]) rfl rfl (fun w' hM => few26_fn _ gi hgs hgl w' (hR.ext hM.ext)) ?_
        rw [← hGd]
        rintro ⟨a5, c5⟩ -
        dsimp only
        apply HB.fold
        refine HB.all (by (exact Keep.blk (b := bw) memD rfl (Keep.blk (b := bw) memD rfl Keep.nil))) [19] (by kernel_rfl) rfl ⟨⟨_, rfl, ?_⟩, trivial⟩
        refine HP.one_a rfl ?_
        refine H1.callk (α := (Option Addr × Nat) × (Option Addr × Nat) × (Option Addr × Nat)) (V := fun _ => zv e) (I := fun _ => True) (H' := fun q => rjH bk bf q.1.1 q.1.2 q.2.1.1 q.2.1.2 q.2.2.1 q.2.2.2 j2.t j2.k j2.br (A.grow 9 1 a5 c5 G.length (strs G) :: jnlH bj bd b1 b2 a2 c2 pa2 pc2 j2 (A.grow 9 1 a9 c8 G.length (strs G) :: A.blk bw (wdC bd bf (some ⟨bj, 0, none⟩) (some ⟨bk, 0, none⟩)) 32 :: []))) (vs := [_, _]) rfl rfl
            (fun w' hM => by
              have h := rappend_fn (j := ⟨t00, newK N, false⟩) (g := G) (a9 := a5) (c9 := c5) (hM.sub (Hs.cons (Pick.there (Pick.there (Pick.there (Pick.there (Pick.there (Pick.there (Pick.there (Pick.there (Pick.there (Pick.there (Pick.there (Pick.there Pick.here)))))))))))) (Hs.cons (Pick.there (Pick.there (Pick.there (Pick.there (Pick.there (Pick.there (Pick.there (Pick.there (Pick.there (Pick.there (Pick.there (Pick.there Pick.here)))))))))))) (Hs.cons (Pick.there (Pick.there (Pick.there (Pick.there (Pick.there (Pick.there (Pick.there (Pick.there (Pick.there Pick.here))))))))) (Hs.cons (Pick.there (Pick.there (Pick.there (Pick.there (Pick.there (Pick.there (Pick.there (Pick.there (Pick.there Pick.here))))))))) (Hs.cons (Pick.there (Pick.there (Pick.there (Pick.there (Pick.there (Pick.there (Pick.there (Pick.there (Pick.there Pick.here))))))))) (Hs.refl _))))))) (.head _) hjok ht1 hj0.fit hj0.vis (by show (newK N).dur.length ≤ _; omega) hlen hsz
              rw [hap] at h
              exact h) ?_
        rintro ⟨⟨ja2, jc2⟩, ⟨sa2, sc2⟩, ⟨la2, lc2⟩⟩ -
        dsimp only
        apply HB.fold
        first | refine HB.ga 20 rfl rfl ?_ | refine HB.na 20 rfl rfl ?_ | refine HB.nu 20 rfl rfl ?_
        refine HB.pa 21 rfl ?_
        refine HB.done (by (exact Keep.blk (b := bw) memD rfl (Keep.blk (b := bw) memD rfl Keep.nil))) (by kernel_rfl) ?_
        refine hwKW ?_
        rw [show decide (¬ e = e) = false from decide_eq_false fun h => h rfl]
        exact HX.cut ⟨bj, bk, (a2, c2), (pa2, pc2), (ja2, jc2), (sa2, sc2), (la2, lc2)⟩ ⟨rfl, rfl⟩ esA (Hs.cons (Pick.there (Pick.there (Pick.there (Pick.there (Pick.there (Pick.there (Pick.there (Pick.there (Pick.there (Pick.there (Pick.there (Pick.there (Pick.there Pick.here))))))))))))) (Hs.cons (Pick.there (Pick.there (Pick.there (Pick.there (Pick.there (Pick.there (Pick.there (Pick.there Pick.here)))))))) (Hs.cons (Pick.there (Pick.there (Pick.there (Pick.there (Pick.there (Pick.there (Pick.there (Pick.there Pick.here)))))))) (Hs.cons (Pick.there (Pick.there (Pick.there (Pick.there (Pick.there (Pick.there (Pick.there (Pick.there Pick.here)))))))) (Hs.cons (Pick.there (Pick.there (Pick.there (Pick.there (Pick.there (Pick.there (Pick.there (Pick.there Pick.here)))))))) (Hs.cons (Pick.there (Pick.there Pick.here)) (Hs.cons (Pick.there (Pick.there Pick.here)) (Hs.cons (Pick.there (Pick.there Pick.here)) (Hs.cons (Pick.there (Pick.there (Pick.there Pick.here))) (Hs.cons (Pick.there (Pick.there (Pick.there Pick.here))) (Hs.cons Pick.here (Hs.cons Pick.here (Hs.refl _).skip.skip))))))))))))
      rintro ⟨bj, bk, ⟨a, c⟩, ⟨pa, pc⟩, ⟨ja, jc⟩, ⟨sa, sc⟩, ⟨la, lc⟩⟩ ⟨rfl, rfl⟩
      dsimp only [stH, dwH, jpO, jrO]
      obtain ⟨e3, k3, hw3⟩ : ∃ e3 k3, j2.k.write o (mkBA [c9]) = (e3, k3) := ⟨_, _, rfl⟩
      have hIw := hI2.write o (mkBA [c9]) (by omega)
      rw [hw3] at hIw
      dsimp only at hIw
      refine hwKW ?_
      refine HC.cut (α := Option Addr × Nat) (fun _ => [(0, zv n), (3, zv at'), (4, b8 c9), (11, .bool true), (12, .pointer (some ⟨bw, 0, none⟩))]) (fun q => dkH bd b1 b2 q.1 q.2 k3 (A.blk bw (wdC bd bf (some ⟨bj, 0, none⟩) (some ⟨bk, 0, none⟩)) 32 :: rfH bf sa sc la lc j2.k (A.blk bj (tpC a c j2.t (jnR bd j2.br)) 74 :: A.grow 9 1 a c j2.t.recs.length (strs j2.t.recs) :: A.blk bk (rjC bf ja jc j2.t j2.br) 43 :: A.grow 9 1 ja jc j2.t.recs.length (strs j2.t.recs) :: []))) (fun _ => True) ?_ ?_
      · refine HC.sub [(0, zv n), (3, zv at'), (4, b8 c9), (11, .bool true), (12, .pointer (some ⟨bw, 0, none⟩))] (A.blk bw (wdC bd bf (some ⟨bj, 0, none⟩) (some ⟨bk, 0, none⟩)) 32 :: dkH bd b1 b2 pa pc j2.k (rfH bf sa sc la lc j2.k (A.blk bj (tpC a c j2.t (jnR bd j2.br)) 74 :: A.grow 9 1 a c j2.t.recs.length (strs j2.t.recs) :: A.blk bk (rjC bf ja jc j2.t j2.br) 43 :: A.grow 9 1 ja jc j2.t.recs.length (strs j2.t.recs) :: []))) ?_ esA (Hs.refl _)
        refine HC.anyC ([(⟨bw, 0, none⟩, .pointer (some ⟨bd, 0, none⟩))]) rfl ?_
        refine HB.pa 0 rfl ?_
        refine HB.pa 1 rfl ?_ (POp.nilCheck rfl)
        refine HB.pa 2 rfl ?_
        refine HB.ld 3 rfl rfl memD ?_
        refine HB.pa 4 rfl ?_
        refine HB.pa 5 rfl ?_
        refine HB.pa 8 rfl ?_
        refine HB.all (by (exact Keep.blk (b := bw) memD rfl Keep.nil)) [6, 9] (by kernel_rfl) rfl ⟨⟨_, rfl, ?_⟩, ⟨_, rfl, ?_⟩, trivial⟩
        · refine HP.one ?_
          refine H1.call0 (vs := [_]) rfl rfl (fun w' hM => size26_fn n hn1 hn2 w') ?_
          rw [← hN]
          apply HB.fold
          refine HB.all (by (exact Keep.blk (b := bw) memD rfl Keep.nil)) [7, 9] (by kernel_rfl) rfl ⟨⟨_, rfl, ?_⟩, ⟨_, rfl, ?_⟩, trivial⟩
          · refine HP.one ?_
            refine H1.call0 (vs := [_, zv (N : Int)]) rfl rfl (fun w' hM => pick26_fn at' (N : Int) ha1 ha2 (by omega) w') ?_
            rw [ho]
            apply HB.fold
            refine HB.all (by (exact Keep.blk (b := bw) memD rfl Keep.nil)) [9] (by kernel_rfl) rfl ⟨⟨_, rfl, ?_⟩, trivial⟩
            refine HP.one ?_
            refine H1.lit (cs := ub [c9]) rfl rfl rfl rfl rfl rfl (fun b9 => ?_)
            apply HB.fold
            refine HB.all (by (exact Keep.blk (b := bw) memD rfl Keep.nil)) [10] (by kernel_rfl) rfl ⟨⟨_, rfl, ?_⟩, trivial⟩
            refine HP.one ?_
            refine H1.bstrB (ys := [c9]) rfl memA rfl ?_
            apply HB.fold
            refine HB.all (by (exact Keep.blk (b := bw) memD rfl Keep.nil)) [11] (by kernel_rfl) rfl ⟨⟨_, rfl, ?_⟩, trivial⟩
            refine HP.one ?_
            refine H1.callk (α := Option Addr × Nat) (V := fun _ => zv e3) (I := fun _ => True) (H' := fun q => dkH bd b1 b2 q.1 q.2 k3 (A.blk bw (wdC bd bf (some ⟨bj, 0, none⟩) (some ⟨bk, 0, none⟩)) 32 :: rfH bf sa sc la lc j2.k (A.blk bj (tpC a c j2.t (jnR bd j2.br)) 74 :: A.grow 9 1 a c j2.t.recs.length (strs j2.t.recs) :: A.blk bk (rjC bf ja jc j2.t j2.br) 43 :: A.grow 9 1 ja jc j2.t.recs.length (strs j2.t.recs) :: []))) (vs := [_, zv (o : Int), .string (mkBA [c9])]) rfl rfl
                (fun w' hM => by
                  have h := write_fn (k := j2.k) o (mkBA [c9]) (hM.sub (Hs.cons (Pick.there (Pick.there Pick.here)) (Hs.cons (Pick.there (Pick.there Pick.here)) (Hs.cons (Pick.there (Pick.there Pick.here)) (Hs.cons (Pick.there (Pick.there Pick.here)) ((Hs.refl _).skip)))))) hI2.ok (by omega) (by show 1 ≤ 5000000; decide)
                  rw [hw3] at h
                  exact h) ?_
            rintro ⟨pa2, pc2⟩ -
            dsimp only
            apply HB.fold
            refine HB.done (by (exact Keep.blk (b := bw) memD rfl Keep.nil)) (by kernel_rfl) ?_
            refine hwKW ?_
            exact HX.cut (pa2, pc2) trivial esA (Hs.refl _)
          · refine HP.one ?_
            refine H1.lit (cs := ub [c9]) rfl rfl rfl rfl rfl rfl (fun b9 => ?_)
            apply HB.fold
            refine HB.all (by (exact Keep.blk (b := bw) memD rfl Keep.nil)) [7, 10] (by kernel_rfl) rfl ⟨⟨_, rfl, ?_⟩, ⟨_, rfl, ?_⟩, trivial⟩
            · refine HP.one ?_
              refine H1.call0 (vs := [_, zv (N : Int)]) rfl rfl (fun w' hM => pick26_fn at' (N : Int) ha1 ha2 (by omega) w') ?_
              rw [ho]
              apply HB.fold
              refine HB.all (by (exact Keep.blk (b := bw) memD rfl Keep.nil)) [10] (by kernel_rfl) rfl ⟨⟨_, rfl, ?_⟩, trivial⟩
              refine HP.one ?_
              refine H1.bstrB (ys := [c9]) rfl memA rfl ?_
              apply HB.fold
              refine HB.all (by (exact Keep.blk (b := bw) memD rfl Keep.nil)) [11] (by kernel_rfl) rfl ⟨⟨_, rfl, ?_⟩, trivial⟩
              refine HP.one ?_
              refine H1.callk (α := Option Addr × Nat) (V := fun _ => zv e3) (I := fun _ => True) (H' := fun q => dkH bd b1 b2 q.1 q.2 k3 (A.blk bw (wdC bd bf (some ⟨bj, 0, none⟩) (some ⟨bk, 0, none⟩)) 32 :: rfH bf sa sc la lc j2.k (A.blk bj (tpC a c j2.t (jnR bd j2.br)) 74 :: A.grow 9 1 a c j2.t.recs.length (strs j2.t.recs) :: A.blk bk (rjC bf ja jc j2.t j2.br) 43 :: A.grow 9 1 ja jc j2.t.recs.length (strs j2.t.recs) :: []))) (vs := [_, zv (o : Int), .string (mkBA [c9])]) rfl rfl
                  (fun w' hM => by
                    have h := write_fn (k := j2.k) o (mkBA [c9]) (hM.sub (Hs.cons (Pick.there (Pick.there Pick.here)) (Hs.cons (Pick.there (Pick.there Pick.here)) (Hs.cons (Pick.there (Pick.there Pick.here)) (Hs.cons (Pick.there (Pick.there Pick.here)) ((Hs.refl _).skip)))))) hI2.ok (by omega) (by show 1 ≤ 5000000; decide)
                    rw [hw3] at h
                    exact h) ?_
              rintro ⟨pa2, pc2⟩ -
              dsimp only
              apply HB.fold
              refine HB.done (by (exact Keep.blk (b := bw) memD rfl Keep.nil)) (by kernel_rfl) ?_
              refine hwKW ?_
              exact HX.cut (pa2, pc2) trivial esA (Hs.refl _)
            · refine HP.one ?_
              refine H1.bstrB (ys := [c9]) rfl memA rfl ?_
              apply HB.fold
              refine HB.all (by (exact Keep.blk (b := bw) memD rfl Keep.nil)) [7] (by kernel_rfl) rfl ⟨⟨_, rfl, ?_⟩, trivial⟩
              refine HP.one ?_
              refine H1.call0 (vs := [_, zv (N : Int)]) rfl rfl (fun w' hM => pick26_fn at' (N : Int) ha1 ha2 (by omega) w') ?_
              rw [ho]
              apply HB.fold
              refine HB.all (by (exact Keep.blk (b := bw) memD rfl Keep.nil)) [11] (by kernel_rfl) rfl ⟨⟨_, rfl, ?_⟩, trivial⟩
              refine HP.one ?_
              refine H1.callk (α := Option Addr × Nat) (V := fun _ => zv e3) (I := fun _ => True) (H' := fun q => dkH bd b1 b2 q.1 q.2 k3 (A.blk bw (wdC bd bf (some ⟨bj, 0, none⟩) (some ⟨bk, 0, none⟩)) 32 :: rfH bf sa sc la lc j2.k (A.blk bj (tpC a c j2.t (jnR bd j2.br)) 74 :: A.grow 9 1 a c j2.t.recs.length (strs j2.t.recs) :: A.blk bk (rjC bf ja jc j2.t j2.br) 43 :: A.grow 9 1 ja jc j2.t.recs.length (strs j2.t.recs) :: []))) (vs := [_, zv (o : Int), .string (mkBA [c9])]) rfl rfl
                  (fun w' hM => by
                    have h := write_fn (k := j2.k) o (mkBA [c9]) (hM.sub (Hs.cons (Pick.there (Pick.there Pick.here)) (Hs.cons (Pick.there (Pick.there Pick.here)) (Hs.cons (Pick.there (Pick.there Pick.here)) (Hs.cons (Pick.there (Pick.there Pick.here)) ((Hs.refl _).skip)))))) hI2.ok (by omega) (by show 1 ≤ 5000000; decide)
                    rw [hw3] at h
                    exact h) ?_
              rintro ⟨pa2, pc2⟩ -
              dsimp only
              apply HB.fold
              refine HB.done (by (exact Keep.blk (b := bw) memD rfl Keep.nil)) (by kernel_rfl) ?_
              refine hwKW ?_
              exact HX.cut (pa2, pc2) trivial esA (Hs.refl _)
        · refine HP.one ?_
          refine H1.lit (cs := ub [c9]) rfl rfl rfl rfl rfl rfl (fun b9 => ?_)
          apply HB.fold
          refine HB.all (by (exact Keep.blk (b := bw) memD rfl Keep.nil)) [6, 10] (by kernel_rfl) rfl ⟨⟨_, rfl, ?_⟩, ⟨_, rfl, ?_⟩, trivial⟩
          · refine HP.one ?_
            refine H1.call0 (vs := [_]) rfl rfl (fun w' hM => size26_fn n hn1 hn2 w') ?_
            rw [← hN]
            apply HB.fold
            refine HB.all (by (exact Keep.blk (b := bw) memD rfl Keep.nil)) [7, 10] (by kernel_rfl) rfl ⟨⟨_, rfl, ?_⟩, ⟨_, rfl, ?_⟩, trivial⟩
            · refine HP.one ?_
              refine H1.call0 (vs := [_, zv (N : Int)]) rfl rfl (fun w' hM => pick26_fn at' (N : Int) ha1 ha2 (by omega) w') ?_
              rw [ho]
              apply HB.fold
              refine HB.all (by (exact Keep.blk (b := bw) memD rfl Keep.nil)) [10] (by kernel_rfl) rfl ⟨⟨_, rfl, ?_⟩, trivial⟩
              refine HP.one ?_
              refine H1.bstrB (ys := [c9]) rfl memA rfl ?_
              apply HB.fold
              refine HB.all (by (exact Keep.blk (b := bw) memD rfl Keep.nil)) [11] (by kernel_rfl) rfl ⟨⟨_, rfl, ?_⟩, trivial⟩
              refine HP.one ?_
              refine H1.callk (α := Option Addr × Nat) (V := fun _ => zv e3) (I := fun _ => True) (H' := fun q => dkH bd b1 b2 q.1 q.2 k3 (A.blk bw (wdC bd bf (some ⟨bj, 0, none⟩) (some ⟨bk, 0, none⟩)) 32 :: rfH bf sa sc la lc j2.k (A.blk bj (tpC a c j2.t (jnR bd j2.br)) 74 :: A.grow 9 1 a c j2.t.recs.length (strs j2.t.recs) :: A.blk bk (rjC bf ja jc j2.t j2.br) 43 :: A.grow 9 1 ja jc j2.t.recs.length (strs j2.t.recs) :: []))) (vs := [_, zv (o : Int), .string (mkBA [c9])]) rfl rfl
                  (fun w' hM => by
                    have h := write_fn (k := j2.k) o (mkBA [c9]) (hM.sub (Hs.cons (Pick.there (Pick.there Pick.here)) (Hs.cons (Pick.there (Pick.there Pick.here)) (Hs.cons (Pick.there (Pick.there Pick.here)) (Hs.cons (Pick.there (Pick.there Pick.here)) ((Hs.refl _).skip)))))) hI2.ok (by omega) (by show 1 ≤ 5000000; decide)
                    rw [hw3] at h
                    exact h) ?_
              rintro ⟨pa2, pc2⟩ -
              dsimp only
              apply HB.fold
              refine HB.done (by (exact Keep.blk (b := bw) memD rfl Keep.nil)) (by kernel_rfl) ?_
              refine hwKW ?_
              exact HX.cut (pa2, pc2) trivial esA (Hs.refl _)
            · refine HP.one ?_
              refine H1.bstrB (ys := [c9]) rfl memA rfl ?_
              apply HB.fold
              refine HB.all (by (exact Keep.blk (b := bw) memD rfl Keep.nil)) [7] (by kernel_rfl) rfl ⟨⟨_, rfl, ?_⟩, trivial⟩
              refine HP.one ?_
              refine H1.call0 (vs := [_, zv (N : Int)]) rfl rfl (fun w' hM => pick26_fn at' (N : Int) ha1 ha2 (by omega) w') ?_
              rw [ho]
              apply HB.fold
              refine HB.all (by (exact Keep.blk (b := bw) memD rfl Keep.nil)) [11] (by kernel_rfl) rfl ⟨⟨_, rfl, ?_⟩, trivial⟩
              refine HP.one ?_
              refine H1.callk (α := Option Addr × Nat) (V := fun _ => zv e3) (I := fun _ => True) (H' := fun q => dkH bd b1 b2 q.1 q.2 k3 (A.blk bw (wdC bd bf (some ⟨bj, 0, none⟩) (some ⟨bk, 0, none⟩)) 32 :: rfH bf sa sc la lc j2.k (A.blk bj (tpC a c j2.t (jnR bd j2.br)) 74 :: A.grow 9 1 a c j2.t.recs.length (strs j2.t.recs) :: A.blk bk (rjC bf ja jc j2.t j2.br) 43 :: A.grow 9 1 ja jc j2.t.recs.length (strs j2.t.recs) :: []))) (vs := [_, zv (o : Int), .string (mkBA [c9])]) rfl rfl
                  (fun w' hM => by
                    have h := write_fn (k := j2.k) o (mkBA [c9]) (hM.sub (Hs.cons (Pick.there (Pick.there Pick.here)) (Hs.cons (Pick.there (Pick.there Pick.here)) (Hs.cons (Pick.there (Pick.there Pick.here)) (Hs.cons (Pick.there (Pick.there Pick.here)) ((Hs.refl _).skip)))))) hI2.ok (by omega) (by show 1 ≤ 5000000; decide)
                    rw [hw3] at h
                    exact h) ?_
              rintro ⟨pa2, pc2⟩ -
              dsimp only
              apply HB.fold
              refine HB.done (by (exact Keep.blk (b := bw) memD rfl Keep.nil)) (by kernel_rfl) ?_
              refine hwKW ?_
              exact HX.cut (pa2, pc2) trivial esA (Hs.refl _)
          · refine HP.one ?_
            refine H1.bstrB (ys := [c9]) rfl memA rfl ?_
            apply HB.fold
            refine HB.all (by (exact Keep.blk (b := bw) memD rfl Keep.nil)) [6] (by kernel_rfl) rfl ⟨⟨_, rfl, ?_⟩, trivial⟩
            refine HP.one ?_
            refine H1.call0 (vs := [_]) rfl rfl (fun w' hM => size26_fn n hn1 hn2 w') ?_
            rw [← hN]
            apply HB.fold
            refine HB.all (by (exact Keep.blk (b := bw) memD rfl Keep.nil)) [7] (by kernel_rfl) rfl ⟨⟨_, rfl, ?_⟩, trivial⟩
            refine HP.one ?_
            refine H1.call0 (vs := [_, zv (N : Int)]) rfl rfl (fun w' hM => pick26_fn at' (N : Int) ha1 ha2 (by omega) w') ?_
            rw [ho]
            apply HB.fold
            refine HB.all (by (exact Keep.blk (b := bw) memD rfl Keep.nil)) [11] (by kernel_rfl) rfl ⟨⟨_, rfl, ?_⟩, trivial⟩
            refine HP.one ?_
            refine H1.callk (α := Option Addr × Nat) (V := fun _ => zv e3) (I := fun _ => True) (H' := fun q => dkH bd b1 b2 q.1 q.2 k3 (A.blk bw (wdC bd bf (some ⟨bj, 0, none⟩) (some ⟨bk, 0, none⟩)) 32 :: rfH bf sa sc la lc j2.k (A.blk bj (tpC a c j2.t (jnR bd j2.br)) 74 :: A.grow 9 1 a c j2.t.recs.length (strs j2.t.recs) :: A.blk bk (rjC bf ja jc j2.t j2.br) 43 :: A.grow 9 1 ja jc j2.t.recs.length (strs j2.t.recs) :: []))) (vs := [_, zv (o : Int), .string (mkBA [c9])]) rfl rfl
                (fun w' hM => by
                  have h := write_fn (k := j2.k) o (mkBA [c9]) (hM.sub (Hs.cons (Pick.there (Pick.there Pick.here)) (Hs.cons (Pick.there (Pick.there Pick.here)) (Hs.cons (Pick.there (Pick.there Pick.here)) (Hs.cons (Pick.there (Pick.there Pick.here)) ((Hs.refl _).skip)))))) hI2.ok (by omega) (by show 1 ≤ 5000000; decide)
                  rw [hw3] at h
                  exact h) ?_
            rintro ⟨pa2, pc2⟩ -
            dsimp only
            apply HB.fold
            refine HB.done (by (exact Keep.blk (b := bw) memD rfl Keep.nil)) (by kernel_rfl) ?_
            refine hwKW ?_
            exact HX.cut (pa2, pc2) trivial esA (Hs.refl _)
      rintro ⟨pa, pc⟩ -
      dsimp only
      refine hwKW ?_
      refine HC.anyC ([(⟨bw, 2, none⟩, .pointer (some ⟨bf, 0, none⟩))]) rfl ?_
      refine HB.pa 0 rfl ?_
      refine HB.pa 1 rfl ?_ (POp.nilCheck rfl)
      refine HB.pa 2 rfl ?_
      refine HB.ld 3 rfl rfl memD ?_
      refine HB.pa 4 rfl ?_
      refine HB.pa 5 rfl ?_
      refine HB.pa 8 rfl ?_
      refine HB.all (by (exact Keep.blk (b := bw) memD rfl Keep.nil)) [6, 9] (by kernel_rfl) rfl ⟨⟨_, rfl, ?_⟩, ⟨_, rfl, ?_⟩, trivial⟩
      · refine HP.one ?_
        refine H1.call0 (vs := [_]) rfl rfl (fun w' hM => size26_fn n hn1 hn2 w') ?_
        rw [← hN]
        apply HB.fold
        refine HB.all (by (exact Keep.blk (b := bw) memD rfl Keep.nil)) [7, 9] (by kernel_rfl) rfl ⟨⟨_, rfl, ?_⟩, ⟨_, rfl, ?_⟩, trivial⟩
        · refine HP.one ?_
          refine H1.call0 (vs := [_, zv (N : Int)]) rfl rfl (fun w' hM => pick26_fn at' (N : Int) ha1 ha2 (by omega) w') ?_
          rw [ho]
          apply HB.fold
          refine HB.all (by (exact Keep.blk (b := bw) memD rfl Keep.nil)) [9] (by kernel_rfl) rfl ⟨⟨_, rfl, ?_⟩, trivial⟩
          refine HP.one ?_
          refine H1.lit (cs := ub [c9]) rfl rfl rfl rfl rfl rfl (fun b9 => ?_)
          apply HB.fold
          refine HB.all (by (exact Keep.blk (b := bw) memD rfl Keep.nil)) [10] (by kernel_rfl) rfl ⟨⟨_, rfl, ?_⟩, trivial⟩
          refine HP.one ?_
          refine H1.bstrB (ys := [c9]) rfl memA rfl ?_
          apply HB.fold
          refine HB.all (by (exact Keep.blk (b := bw) memD rfl Keep.nil)) [11] (by kernel_rfl) rfl ⟨⟨_, rfl, ?_⟩, trivial⟩
          refine HP.one ?_
          refine H1.callk (α := (Option Addr × Nat) × (Option Addr × Nat)) (V := fun _ => zv e3) (I := fun _ => True) (H' := fun q => rfH bf q.1.1 q.1.2 q.2.1 q.2.2 k3 (dkH bd b1 b2 pa pc k3 (A.blk bw (wdC bd bf (some ⟨bj, 0, none⟩) (some ⟨bk, 0, none⟩)) 32 :: A.blk bj (tpC a c j2.t (jnR bd j2.br)) 74 :: A.grow 9 1 a c j2.t.recs.length (strs j2.t.recs) :: A.blk bk (rjC bf ja jc j2.t j2.br) 43 :: A.grow 9 1 ja jc j2.t.recs.length (strs j2.t.recs) :: []))) (vs := [_, zv (o : Int), .string (mkBA [c9])]) rfl rfl
              (fun w' hM => by
                have h := rwrite_fn (k := j2.k) o (mkBA [c9]) (hM.sub (Hs.cons (Pick.there (Pick.there (Pick.there (Pick.there (Pick.there (Pick.there Pick.here)))))) (Hs.cons (Pick.there (Pick.there (Pick.there (Pick.there (Pick.there (Pick.there Pick.here)))))) (Hs.cons (Pick.there (Pick.there (Pick.there (Pick.there (Pick.there (Pick.there Pick.here)))))) ((Hs.refl _).skip))))) hI2.ok (by omega) (by show 1 ≤ 5000000; decide)
                rw [hw3] at h
                exact h) ?_
          rintro ⟨⟨sa2, sc2⟩, ⟨la2, lc2⟩⟩ -
          dsimp only
          apply HB.fold
          refine HB.done (by (exact Keep.blk (b := bw) memD rfl Keep.nil)) (by kernel_rfl) ?_
          refine hwKW ?_
          exact HX.cut (⟨bj, bk, (a, c), (pa, pc), (ja, jc), (sa2, sc2), (la2, lc2)⟩, k3, some (j2.t, j2.br)) hIw esA (Hs.cons (Pick.there (Pick.there (Pick.there (Pick.there (Pick.there (Pick.there (Pick.there Pick.here))))))) (Hs.cons (Pick.there (Pick.there (Pick.there Pick.here))) (Hs.cons (Pick.there (Pick.there (Pick.there Pick.here))) (Hs.cons (Pick.there (Pick.there (Pick.there Pick.here))) (Hs.cons (Pick.there (Pick.there (Pick.there Pick.here))) (Hs.cons Pick.here (Hs.cons Pick.here (Hs.cons Pick.here (Hs.refl _)))))))))
        · refine HP.one ?_
          refine H1.lit (cs := ub [c9]) rfl rfl rfl rfl rfl rfl (fun b9 => ?_)
          apply HB.fold
          refine HB.all (by (exact Keep.blk (b := bw) memD rfl Keep.nil)) [7, 10] (by kernel_rfl) rfl ⟨⟨_, rfl, ?_⟩, ⟨_, rfl, ?_⟩, trivial⟩
          · refine HP.one ?_
            refine H1.call0 (vs := [_, zv (N : Int)]) rfl rfl (fun w' hM => pick26_fn at' (N : Int) ha1 ha2 (by omega) w') ?_
            rw [ho]
            apply HB.fold
            refine HB.all (by (exact Keep.blk (b := bw) memD rfl Keep.nil)) [10] (by kernel_rfl) rfl ⟨⟨_, rfl, ?_⟩, trivial⟩
            refine HP.one ?_
            refine H1.bstrB (ys := [c9]) rfl memA rfl ?_
            apply HB.fold
            refine HB.all (by (exact Keep.blk (b := bw) memD rfl Keep.nil)) [11] (by kernel_rfl) rfl ⟨⟨_, rfl, ?_⟩, trivial⟩
            refine HP.one ?_
            refine H1.callk (α := (Option Addr × Nat) × (Option Addr × Nat)) (V := fun _ => zv e3) (I := fun _ => True) (H' := fun q => rfH bf q.1.1 q.1.2 q.2.1 q.2.2 k3 (dkH bd b1 b2 pa pc k3 (A.blk bw (wdC bd bf (some ⟨bj, 0, none⟩) (some ⟨bk, 0, none⟩)) 32 :: A.blk bj (tpC a c j2.t (jnR bd j2.br)) 74 :: A.grow 9 1 a c j2.t.recs.length (strs j2.t.recs) :: A.blk bk (rjC bf ja jc j2.t j2.br) 43 :: A.grow 9 1 ja jc j2.t.recs.length (strs j2.t.recs) :: []))) (vs := [_, zv (o : Int), .string (mkBA [c9])]) rfl rfl
                (fun w' hM => by
                  have h := rwrite_fn (k := j2.k) o (mkBA [c9]) (hM.sub (Hs.cons (Pick.there (Pick.there (Pick.there (Pick.there (Pick.there (Pick.there Pick.here)))))) (Hs.cons (Pick.there (Pick.there (Pick.there (Pick.there (Pick.there (Pick.there Pick.here)))))) (Hs.cons (Pick.there (Pick.there (Pick.there (Pick.there (Pick.there (Pick.there Pick.here)))))) ((Hs.refl _).skip))))) hI2.ok (by omega) (by show 1 ≤ 5000000; decide)
                  rw [hw3] at h
                  exact h) ?_
            rintro ⟨⟨sa2, sc2⟩, ⟨la2, lc2⟩⟩ -
            dsimp only
            apply HB.fold
            refine HB.done (by (exact Keep.blk (b := bw) memD rfl Keep.nil)) (by kernel_rfl) ?_
            refine hwKW ?_
            exact HX.cut (⟨bj, bk, (a, c), (pa, pc), (ja, jc), (sa2, sc2), (la2, lc2)⟩, k3, some (j2.t, j2.br)) hIw esA (Hs.cons (Pick.there (Pick.there (Pick.there (Pick.there (Pick.there (Pick.there (Pick.there Pick.here))))))) (Hs.cons (Pick.there (Pick.there (Pick.there Pick.here))) (Hs.cons (Pick.there (Pick.there (Pick.there Pick.here))) (Hs.cons (Pick.there (Pick.there (Pick.there Pick.here))) (Hs.cons (Pick.there (Pick.there (Pick.there Pick.here))) (Hs.cons Pick.here (Hs.cons Pick.here (Hs.cons Pick.here (Hs.refl _)))))))))
          · refine HP.one ?_
            refine H1.bstrB (ys := [c9]) rfl memA rfl ?_
            apply HB.fold
            refine HB.all (by (exact Keep.blk (b := bw) memD rfl Keep.nil)) [7] (by kernel_rfl) rfl ⟨⟨_, rfl, ?_⟩, trivial⟩
            refine HP.one ?_
            refine H1.call0 (vs := [_, zv (N : Int)]) rfl rfl (fun w' hM => pick26_fn at' (N : Int) ha1 ha2 (by omega) w') ?_
            rw [ho]
            apply HB.fold
            refine HB.all (by (exact Keep.blk (b := bw) memD rfl Keep.nil)) [11] (by kernel_rfl) rfl ⟨⟨_, rfl, ?_⟩, trivial⟩
            refine HP.one ?_
            refine H1.callk (α := (Option Addr × Nat) × (Option Addr × Nat)) (V := fun _ => zv e3) (I := fun _ => True) (H' := fun q => rfH bf q.1.1 q.1.2 q.2.1 q.2.2 k3 (dkH bd b1 b2 pa pc k3 (A.blk bw (wdC bd bf (some ⟨bj, 0, none⟩) (some ⟨bk, 0, none⟩)) 32 :: A.blk bj (tpC a c j2.t (jnR bd j2.br)) 74 :: A.grow 9 1 a c j2.t.recs.length (strs j2.t.recs) :: A.blk bk (rjC bf ja jc j2.t j2.br) 43 :: A.grow 9 1 ja jc j2.t.recs.length (strs j2.t.recs) :: []))) (vs := [_, zv (o : Int), .string (mkBA [c9])]) rfl rfl
                (fun w' hM => by
                  have h := rwrite_fn (k := j2.k) o (mkBA [c9]) (hM.sub (Hs.cons (Pick.there (Pick.there (Pick.there (Pick.there (Pick.there (Pick.there Pick.here)))))) (Hs.cons (Pick.there (Pick.there (Pick.there (Pick.there (Pick.there (Pick.there Pick.here)))))) (Hs.cons (Pick.there (Pick.there (Pick.there (Pick.there (Pick.there (Pick.there Pick.here)))))) ((Hs.refl _).skip))))) hI2.ok (by omega) (by show 1 ≤ 5000000; decide)
                  rw [hw3] at h
                  exact h) ?_
            rintro ⟨⟨sa2, sc2⟩, ⟨la2, lc2⟩⟩ -
            dsimp only
            apply HB.fold
            refine HB.done (by (exact Keep.blk (b := bw) memD rfl Keep.nil)) (by kernel_rfl) ?_
            refine hwKW ?_
            exact HX.cut (⟨bj, bk, (a, c), (pa, pc), (ja, jc), (sa2, sc2), (la2, lc2)⟩, k3, some (j2.t, j2.br)) hIw esA (Hs.cons (Pick.there (Pick.there (Pick.there (Pick.there (Pick.there (Pick.there (Pick.there Pick.here))))))) (Hs.cons (Pick.there (Pick.there (Pick.there Pick.here))) (Hs.cons (Pick.there (Pick.there (Pick.there Pick.here))) (Hs.cons (Pick.there (Pick.there (Pick.there Pick.here))) (Hs.cons (Pick.there (Pick.there (Pick.there Pick.here))) (Hs.cons Pick.here (Hs.cons Pick.here (Hs.cons Pick.here (Hs.refl _)))))))))
      · refine HP.one ?_
        refine H1.lit (cs := ub [c9]) rfl rfl rfl rfl rfl rfl (fun b9 => ?_)
        apply HB.fold
        refine HB.all (by (exact Keep.blk (b := bw) memD rfl Keep.nil)) [6, 10] (by kernel_rfl) rfl ⟨⟨_, rfl, ?_⟩, ⟨_, rfl, ?_⟩, trivial⟩
        · refine HP.one ?_
          refine H1.call0 (vs := [_]) rfl rfl (fun w' hM => size26_fn n hn1 hn2 w') ?_
          rw [← hN]
          apply HB.fold
          refine HB.all (by (exact Keep.blk (b := bw) memD rfl Keep.nil)) [7, 10] (by kernel_rfl) rfl ⟨⟨_, rfl, ?_⟩, ⟨_, rfl, ?_⟩, trivial⟩
          · refine HP.one ?_
            refine H1.call0 (vs := [_, zv (N : Int)]) rfl rfl (fun w' hM => pick26_fn at' (N : Int) ha1 ha2 (by omega) w') ?_
            rw [ho]
            apply HB.fold
            refine HB.all (by (exact Keep.blk (b := bw) memD rfl Keep.nil)) [10] (by kernel_rfl) rfl ⟨⟨_, rfl, ?_⟩, trivial⟩
            refine HP.one ?_
            refine H1.bstrB (ys := [c9]) rfl memA rfl ?_
            apply HB.fold
            refine HB.all (by (exact Keep.blk (b := bw) memD rfl Keep.nil)) [11] (by kernel_rfl) rfl ⟨⟨_, rfl, ?_⟩, trivial⟩
            refine HP.one ?_
            refine H1.callk (α := (Option Addr × Nat) × (Option Addr × Nat)) (V := fun _ => zv e3) (I := fun _ => True) (H' := fun q => rfH bf q.1.1 q.1.2 q.2.1 q.2.2 k3 (dkH bd b1 b2 pa pc k3 (A.blk bw (wdC bd bf (some ⟨bj, 0, none⟩) (some ⟨bk, 0, none⟩)) 32 :: A.blk bj (tpC a c j2.t (jnR bd j2.br)) 74 :: A.grow 9 1 a c j2.t.recs.length (strs j2.t.recs) :: A.blk bk (rjC bf ja jc j2.t j2.br) 43 :: A.grow 9 1 ja jc j2.t.recs.length (strs j2.t.recs) :: []))) (vs := [_, zv (o : Int), .string (mkBA [c9])]) rfl rfl
                (fun w' hM => by
                  have h := rwrite_fn (k := j2.k) o (mkBA [c9]) (hM.sub (Hs.cons (Pick.there (Pick.there (Pick.there (Pick.there (Pick.there (Pick.there Pick.here)))))) (Hs.cons (Pick.there (Pick.there (Pick.there (Pick.there (Pick.there (Pick.there Pick.here)))))) (Hs.cons (Pick.there (Pick.there (Pick.there (Pick.there (Pick.there (Pick.there Pick.here)))))) ((Hs.refl _).skip))))) hI2.ok (by omega) (by show 1 ≤ 5000000; decide)
                  rw [hw3] at h
                  exact h) ?_
            rintro ⟨⟨sa2, sc2⟩, ⟨la2, lc2⟩⟩ -
            dsimp only
            apply HB.fold
            refine HB.done (by (exact Keep.blk (b := bw) memD rfl Keep.nil)) (by kernel_rfl) ?_
            refine hwKW ?_
            exact HX.cut (⟨bj, bk, (a, c), (pa, pc), (ja, jc), (sa2, sc2), (la2, lc2)⟩, k3, some (j2.t, j2.br)) hIw esA (Hs.cons (Pick.there (Pick.there (Pick.there (Pick.there (Pick.there (Pick.there (Pick.there Pick.here))))))) (Hs.cons (Pick.there (Pick.there (Pick.there Pick.here))) (Hs.cons (Pick.there (Pick.there (Pick.there Pick.here))) (Hs.cons (Pick.there (Pick.there (Pick.there Pick.here))) (Hs.cons (Pick.there (Pick.there (Pick.there Pick.here))) (Hs.cons Pick.here (Hs.cons Pick.here (Hs.cons Pick.here (Hs.refl _)))))))))
          · refine HP.one ?_
            refine H1.bstrB (ys := [c9]) rfl memA rfl ?_
            apply HB.fold
            refine HB.all (by (exact Keep.blk (b := bw) memD rfl Keep.nil)) [7] (by kernel_rfl) rfl ⟨⟨_, rfl, ?_⟩, trivial⟩
            refine HP.one ?_
            refine H1.call0 (vs := [_, zv (N : Int)]) rfl rfl (fun w' hM => pick26_fn at' (N : Int) ha1 ha2 (by omega) w') ?_
            rw [ho]
            apply HB.fold
            refine HB.all (by (exact Keep.blk (b := bw) memD rfl Keep.nil)) [11] (by kernel_rfl) rfl ⟨⟨_, rfl, ?_⟩, trivial⟩
            refine HP.one ?_
            refine H1.callk (α := (Option Addr × Nat) × (Option Addr × Nat)) (V := fun _ => zv e3) (I := fun _ => True) (H' := fun q => rfH bf q.1.1 q.1.2 q.2.1 q.2.2 k3 (dkH bd b1 b2 pa pc k3 (A.blk bw (wdC bd bf (some ⟨bj, 0, none⟩) (some ⟨bk, 0, none⟩)) 32 :: A.blk bj (tpC a c j2.t (jnR bd j2.br)) 74 :: A.grow 9 1 a c j2.t.recs.length (strs j2.t.recs) :: A.blk bk (rjC bf ja jc j2.t j2.br) 43 :: A.grow 9 1 ja jc j2.t.recs.length (strs j2.t.recs) :: []))) (vs := [_, zv (o : Int), .string (mkBA [c9])]) rfl rfl
                (fun w' hM => by
                  have h := rwrite_fn (k := j2.k) o (mkBA [c9]) (hM.sub (Hs.cons (Pick.there (Pick.there (Pick.there (Pick.there (Pick.there (Pick.there Pick.here)))))) (Hs.cons (Pick.there (Pick.there (Pick.there (Pick.there (Pick.there (Pick.there Pick.here)))))) (Hs.cons (Pick.there (Pick.there (Pick.there (Pick.there (Pick.there (Pick.there Pick.here)))))) ((Hs.refl _).skip))))) hI2.ok (by omega) (by show 1 ≤ 5000000; decide)
                  rw [hw3] at h
                  exact h) ?_
            rintro ⟨⟨sa2, sc2⟩, ⟨la2, lc2⟩⟩ -
            dsimp only
            apply HB.fold
            refine HB.done (by (exact Keep.blk (b := bw) memD rfl Keep.nil)) (by kernel_rfl) ?_
            refine hwKW ?_
            exact HX.cut (⟨bj, bk, (a, c), (pa, pc), (ja, jc), (sa2, sc2), (la2, lc2)⟩, k3, some (j2.t, j2.br)) hIw esA (Hs.cons (Pick.there (Pick.there (Pick.there (Pick.there (Pick.there (Pick.there (Pick.there Pick.here))))))) (Hs.cons (Pick.there (Pick.there (Pick.there Pick.here))) (Hs.cons (Pick.there (Pick.there (Pick.there Pick.here))) (Hs.cons (Pick.there (Pick.there (Pick.there Pick.here))) (Hs.cons (Pick.there (Pick.there (Pick.there Pick.here))) (Hs.cons Pick.here (Hs.cons Pick.here (Hs.cons Pick.here (Hs.refl _)))))))))
        · refine HP.one ?_
          refine H1.bstrB (ys := [c9]) rfl memA rfl ?_
          apply HB.fold
          refine HB.all (by (exact Keep.blk (b := bw) memD rfl Keep.nil)) [6] (by kernel_rfl) rfl ⟨⟨_, rfl, ?_⟩, trivial⟩
          refine HP.one ?_
          refine H1.call0 (vs := [_]) rfl rfl (fun w' hM => size26_fn n hn1 hn2 w') ?_
          rw [← hN]
          apply HB.fold
          refine HB.all (by (exact Keep.blk (b := bw) memD rfl Keep.nil)) [7] (by kernel_rfl) rfl ⟨⟨_, rfl, ?_⟩, trivial⟩
          refine HP.one ?_
          refine H1.call0 (vs := [_, zv (N : Int)]) rfl rfl (fun w' hM => pick26_fn at' (N : Int) ha1 ha2 (by omega) w') ?_
          rw [ho]
          apply HB.fold
          refine HB.all (by (exact Keep.blk (b := bw) memD rfl Keep.nil)) [11] (by kernel_rfl) rfl ⟨⟨_, rfl, ?_⟩, trivial⟩
          refine HP.one ?_
          refine H1.callk (α := (Option Addr × Nat) × (Option Addr × Nat)) (V := fun _ => zv e3) (I := fun _ => True) (H' := fun q => rfH bf q.1.1 q.1.2 q.2.1 q.2.2 k3 (dkH bd b1 b2 pa pc k3 (A.blk bw (wdC bd bf (some ⟨bj, 0, none⟩) (some ⟨bk, 0, none⟩)) 32 :: A.blk bj (tpC a c j2.t (jnR bd j2.br)) 74 :: A.grow 9 1 a c j2.t.recs.length (strs j2.t.recs) :: A.blk bk (rjC bf ja jc j2.t j2.br) 43 :: A.grow 9 1 ja jc j2.t.recs.length (strs j2.t.recs) :: []))) (vs := [_, zv (o : Int), .string (mkBA [c9])]) rfl rfl
              (fun w' hM => by
                have h := rwrite_fn (k := j2.k) o (mkBA [c9]) (hM.sub (Hs.cons (Pick.there (Pick.there (Pick.there (Pick.there (Pick.there (Pick.there Pick.here)))))) (Hs.cons (Pick.there (Pick.there (Pick.there (Pick.there (Pick.there (Pick.there Pick.here)))))) (Hs.cons (Pick.there (Pick.there (Pick.there (Pick.there (Pick.there (Pick.there Pick.here)))))) ((Hs.refl _).skip))))) hI2.ok (by omega) (by show 1 ≤ 5000000; decide)
                rw [hw3] at h
                exact h) ?_
          rintro ⟨⟨sa2, sc2⟩, ⟨la2, lc2⟩⟩ -
          dsimp only
          apply HB.fold
          refine HB.done (by (exact Keep.blk (b := bw) memD rfl Keep.nil)) (by kernel_rfl) ?_
          refine hwKW ?_
          exact HX.cut (⟨bj, bk, (a, c), (pa, pc), (ja, jc), (sa2, sc2), (la2, lc2)⟩, k3, some (j2.t, j2.br)) hIw esA (Hs.cons (Pick.there (Pick.there (Pick.there (Pick.there (Pick.there (Pick.there (Pick.there Pick.here))))))) (Hs.cons (Pick.there (Pick.there (Pick.there Pick.here))) (Hs.cons (Pick.there (Pick.there (Pick.there Pick.here))) (Hs.cons (Pick.there (Pick.there (Pick.there Pick.here))) (Hs.cons (Pick.there (Pick.there (Pick.there Pick.here))) (Hs.cons Pick.here (Hs.cons Pick.here (Hs.cons Pick.here (Hs.refl _)))))))))
    · have hg0' : ¬ (0 : Int) < (gi.length : Int) := by omega
      obtain ⟨m, hm, hms, hmN⟩ : ∃ m : Nat, min (s.size : Int) (N : Int) = (m : Int) ∧ m ≤ s.size ∧ m ≤ N := ⟨min s.size N, by omega, by omega, by omega⟩
      obtain ⟨S, hS⟩ : ∃ S, S = s.extract 0 m := ⟨_, rfl⟩
      have hSs : S.size = m := by rw [hS, ByteArray.size_extract]; omega
      obtain ⟨e3, k3, hw3⟩ : ∃ e3 k3, (newK N).write 0 S = (e3, k3) := ⟨_, _, rfl⟩
      have hIw := hj0.write 0 S (by omega)
      rw [hw3] at hIw
      dsimp only at hIw
      refine hwKW ?_
      refine HC.cut (α := Option Addr × Nat) (fun _ => [(0, zv n), (1, .string s), (11, .bool true), (12, .pointer (some ⟨bw, 0, none⟩))]) (fun q => dkH bd b1 b2 q.1 q.2 k3 (A.blk bw (wdC bd bf (some ⟨bj, 0, none⟩) (some ⟨bk, 0, none⟩)) 32 :: rfH bf sa sc la lc (newK N) (A.blk bj (tpC a c t00 (jnR bd false)) 74 :: A.grow 9 1 a c t00.recs.length (strs t00.recs) :: A.blk bk (rjC bf ja jc t00 false) 43 :: A.grow 9 1 ja jc t00.recs.length (strs t00.recs) :: []))) (fun _ => True) ?_ ?_
      · refine HC.sub [(0, zv n), (1, .string s), (11, .bool true), (12, .pointer (some ⟨bw, 0, none⟩))] (A.blk bw (wdC bd bf (some ⟨bj, 0, none⟩) (some ⟨bk, 0, none⟩)) 32 :: dkH bd b1 b2 pa pc (newK N) (rfH bf sa sc la lc (newK N) (A.blk bj (tpC a c t00 (jnR bd false)) 74 :: A.grow 9 1 a c t00.recs.length (strs t00.recs) :: A.blk bk (rjC bf ja jc t00 false) 43 :: A.grow 9 1 ja jc t00.recs.length (strs t00.recs) :: []))) ?_ esA (Hs.refl _)
        refine HC.anyC ([(⟨bw, 0, none⟩, .pointer (some ⟨bd, 0, none⟩))]) rfl ?_
        refine HB.pa 0 rfl ?_
        refine HB.pa 1 rfl ?_ (POp.nilCheck rfl)
        refine HB.pa 2 rfl ?_
        refine HB.ld 3 rfl rfl memD ?_
        refine HB.pa 4 rfl ?_
        refine HB.pa 5 rfl ?_
        refine HB.pa 6 rfl ?_
        refine HB.pa 7 rfl ?_
        refine HB.all (by (exact Keep.blk (b := bw) memD rfl Keep.nil)) [8] (by kernel_rfl) rfl ⟨⟨_, rfl, ?_⟩, trivial⟩
        refine HP.one ?_
        refine H1.call0 (vs := [_]) rfl rfl (fun w' hM => size26_fn n hn1 hn2 w') ?_
        rw [← hN]
        apply HB.fold
        refine HB.pa 9 rfl ?_ ((POp.min_int rfl rfl).of (congrArg zv hm))
        refine HB.pa 10 rfl ?_ (POp.sub_h rfl rfl (by omega) (by omega))
        rw [Int.toNat_natCast, ← hS]
        refine HB.all (by (exact Keep.blk (b := bw) memD rfl Keep.nil)) [11] (by kernel_rfl) rfl ⟨⟨_, rfl, ?_⟩, trivial⟩
        refine HP.one ?_
        refine H1.callk (α := Option Addr × Nat) (V := fun _ => zv e3) (I := fun _ => True) (H' := fun q => dkH bd b1 b2 q.1 q.2 k3 (A.blk bw (wdC bd bf (some ⟨bj, 0, none⟩) (some ⟨bk, 0, none⟩)) 32 :: rfH bf sa sc la lc (newK N) (A.blk bj (tpC a c t00 (jnR bd false)) 74 :: A.grow 9 1 a c t00.recs.length (strs t00.recs) :: A.blk bk (rjC bf ja jc t00 false) 43 :: A.grow 9 1 ja jc t00.recs.length (strs t00.recs) :: []))) (vs := [_, zv ((0 : Nat) : Int), .string S]) rfl rfl
            (fun w' hM => by
              have h := write_fn (k := newK N) 0 S (hM.sub (Hs.cons (Pick.there Pick.here) (Hs.cons (Pick.there Pick.here) (Hs.cons (Pick.there Pick.here) (Hs.cons (Pick.there Pick.here) (Hs.refl _)))))) hj0.ok (by omega) (by omega)
              rw [hw3] at h
              exact h) ?_
        rintro ⟨pa2, pc2⟩ -
        dsimp only
        apply HB.fold
        refine HB.done (by (exact Keep.blk (b := bw) memD rfl Keep.nil)) (by kernel_rfl) ?_
        refine hwKW ?_
        exact HX.cut (pa2, pc2) trivial esA (Hs.refl _)
      rintro ⟨pa, pc⟩ -
      dsimp only
      refine hwKW ?_
      refine HC.anyC ([(⟨bw, 2, none⟩, .pointer (some ⟨bf, 0, none⟩))]) rfl ?_
      refine HB.pa 0 rfl ?_
      refine HB.pa 1 rfl ?_ (POp.nilCheck rfl)
      refine HB.pa 2 rfl ?_
      refine HB.ld 3 rfl rfl memD ?_
      refine HB.pa 4 rfl ?_
      refine HB.pa 5 rfl ?_
      refine HB.pa 6 rfl ?_
      refine HB.pa 7 rfl ?_
      refine HB.all (by (exact Keep.blk (b := bw) memD rfl Keep.nil)) [8] (by kernel_rfl) rfl ⟨⟨_, rfl, ?_⟩, trivial⟩
      refine HP.one ?_
      refine H1.call0 (vs := [_]) rfl rfl (fun w' hM => size26_fn n hn1 hn2 w') ?_
      rw [← hN]
      apply HB.fold
      refine HB.pa 9 rfl ?_ ((POp.min_int rfl rfl).of (congrArg zv hm))
      refine HB.pa 10 rfl ?_ (POp.sub_h rfl rfl (by omega) (by omega))
      rw [Int.toNat_natCast, ← hS]
      refine HB.all (by (exact Keep.blk (b := bw) memD rfl Keep.nil)) [11] (by kernel_rfl) rfl ⟨⟨_, rfl, ?_⟩, trivial⟩
      refine HP.one ?_
      refine H1.callk (α := (Option Addr × Nat) × (Option Addr × Nat)) (V := fun _ => zv e3) (I := fun _ => True) (H' := fun q => rfH bf q.1.1 q.1.2 q.2.1 q.2.2 k3 (dkH bd b1 b2 pa pc k3 (A.blk bw (wdC bd bf (some ⟨bj, 0, none⟩) (some ⟨bk, 0, none⟩)) 32 :: A.blk bj (tpC a c t00 (jnR bd false)) 74 :: A.grow 9 1 a c t00.recs.length (strs t00.recs) :: A.blk bk (rjC bf ja jc t00 false) 43 :: A.grow 9 1 ja jc t00.recs.length (strs t00.recs) :: []))) (vs := [_, zv ((0 : Nat) : Int), .string S]) rfl rfl
          (fun w' hM => by
            have h := rwrite_fn (k := newK N) 0 S (hM.sub (Hs.cons (Pick.there (Pick.there (Pick.there (Pick.there (Pick.there Pick.here))))) (Hs.cons (Pick.there (Pick.there (Pick.there (Pick.there (Pick.there Pick.here))))) (Hs.cons (Pick.there (Pick.there (Pick.there (Pick.there (Pick.there Pick.here))))) (Hs.refl _))))) hj0.ok (by omega) (by omega)
            rw [hw3] at h
            exact h) ?_
      rintro ⟨⟨sa2, sc2⟩, ⟨la2, lc2⟩⟩ -
      dsimp only
      apply HB.fold
      refine HB.done (by (exact Keep.blk (b := bw) memD rfl Keep.nil)) (by kernel_rfl) ?_
      refine hwKW ?_
      exact HX.cut (⟨bj, bk, (a, c), (pa, pc), (ja, jc), (sa2, sc2), (la2, lc2)⟩, k3, some (t00, false)) hIw.more esA (Hs.cons (Pick.there (Pick.there (Pick.there (Pick.there (Pick.there (Pick.there (Pick.there Pick.here))))))) (Hs.cons (Pick.there (Pick.there (Pick.there Pick.here))) (Hs.cons (Pick.there (Pick.there (Pick.there Pick.here))) (Hs.cons (Pick.there (Pick.there (Pick.there Pick.here))) (Hs.cons (Pick.there (Pick.there (Pick.there Pick.here))) (Hs.cons Pick.here (Hs.cons Pick.here (Hs.cons Pick.here (Hs.refl _)))))))))
  rintro ⟨⟨bj, bk, ⟨a, c⟩, ⟨pa, pc⟩, ⟨ja, jc⟩, ⟨sa, sc⟩, ⟨la, lc⟩⟩, k, o⟩ hI
  dsimp only at hI ⊢
  refine hwKW ?_
  refine HL.one (H1.callk (α := QS × Dk × Option (Tp × Bool)) (V := fun _ => .bool true) (I := fun z => OpI N 12 k z) (H' := fun z => stH bw bd b1 b2 bf z.1 z.2.1 z.2.2 []) (vs := [_]) rfl rfl
    (fun w' hM => wopen_fn (N := N) (p := 8) (q := ⟨bj, bk, (a, c), (pa, pc), (ja, jc), (sa, sc), (la, lc)⟩) hG hE (hM.sub (Hs.cons Pick.here (Hs.cons Pick.here (Hs.cons Pick.here (Hs.cons Pick.here (Hs.cons Pick.here (Hs.cons Pick.here (Hs.cons Pick.here (Hs.cons Pick.here (jrO_sub _ _ _ _ _)))))))))) (hI.put fun _ _ e => by cases e) (by omega) (by omega)) ?_)
  rintro ⟨⟨bj, bk, ⟨a, c⟩, ⟨pa, pc⟩, ⟨ja, jc⟩, ⟨sa, sc⟩, ⟨la, lc⟩⟩, k3, o3⟩ ⟨hI3, hk3, ho3⟩
  dsimp only at hI3 hk3 ho3 ⊢
  cases o3 with
  | none =>
    dsimp only [stH, dwH, jpO, jrO]
    refine hwKW ?_
    refine HC.anyC ([(⟨bw, 1, none⟩, .pointer none)]) rfl ?_
    refine HB.pa 0 rfl ?_
    refine HB.pa 1 rfl ?_
    first | refine HB.ga 2 rfl rfl ?_ | refine HB.na 2 rfl rfl ?_ | refine HB.nu 2 rfl rfl ?_
    refine HB.pa 3 rfl ?_
    refine HB.pa 4 rfl ?_
    first | refine HB.ga 5 rfl rfl ?_ | refine HB.na 5 rfl rfl ?_ | refine HB.nu 5 rfl rfl ?_
    refine HB.ga 6 rfl rfl ?_ (hp := POp.nilCheck rfl)
    first | refine HB.ga 7 rfl rfl ?_ | refine HB.na 7 rfl rfl ?_ | refine HB.nu 7 rfl rfl ?_
    refine HB.ldg 8 rfl rfl rfl memD ?_
    refine HB.ga 9 rfl rfl ?_ (hp := POp.pnil1 rfl rfl)
    first | refine HB.ga 10 rfl rfl ?_ | refine HB.na 10 rfl rfl ?_ | refine HB.nu 10 rfl rfl ?_
    first | refine HB.ga 11 rfl rfl ?_ | refine HB.na 11 rfl rfl ?_ | refine HB.nu 11 rfl rfl ?_
    first | refine HB.ga 12 rfl rfl ?_ | refine HB.na 12 rfl rfl ?_ | refine HB.nu 12 rfl rfl ?_
    first | refine HB.ga 13 rfl rfl ?_ | refine HB.na 13 rfl rfl ?_ | refine HB.nu 13 rfl rfl ?_
    first | refine HB.ga 14 rfl rfl ?_ | refine HB.na 14 rfl rfl ?_ | refine HB.nu 14 rfl rfl ?_
    first | refine HB.ga 16 rfl rfl ?_ | refine HB.na 16 rfl rfl ?_ | refine HB.nu 16 rfl rfl ?_
    first | refine HB.ga 17 rfl rfl ?_ | refine HB.na 17 rfl rfl ?_ | refine HB.nu 17 rfl rfl ?_
    first | refine HB.ga 18 rfl rfl ?_ | refine HB.na 18 rfl rfl ?_ | refine HB.nu 18 rfl rfl ?_
    first | refine HB.ga 19 rfl rfl ?_ | refine HB.na 19 rfl rfl ?_ | refine HB.nu 19 rfl rfl ?_
    first | refine HB.ga 20 rfl rfl ?_ | refine HB.na 20 rfl rfl ?_ | refine HB.nu 20 rfl rfl ?_
    first | refine HB.ga 21 rfl rfl ?_ | refine HB.na 21 rfl rfl ?_ | refine HB.nu 21 rfl rfl ?_
    first | refine HB.ga 22 rfl rfl ?_ | refine HB.na 22 rfl rfl ?_ | refine HB.nu 22 rfl rfl ?_
    refine HB.all (by (exact Keep.blk (b := bw) memD rfl Keep.nil)) [15] (by kernel_rfl) rfl ⟨⟨_, rfl, ?_⟩, trivial⟩
    refine HP.drop_a rfl ?_
    refine HB.all (by (exact Keep.blk (b := bw) memD rfl Keep.nil)) [23] (by kernel_rfl) rfl ⟨⟨_, rfl, ?_⟩, trivial⟩
    refine HP.drop_a rfl ?_
    first | refine HB.ga 24 rfl rfl ?_ | refine HB.na 24 rfl rfl ?_ | refine HB.nu 24 rfl rfl ?_
    first | refine HB.ga 25 rfl rfl ?_ | refine HB.na 25 rfl rfl ?_ | refine HB.nu 25 rfl rfl ?_
    first | refine HB.ga 26 rfl rfl ?_ | refine HB.na 26 rfl rfl ?_ | refine HB.nu 26 rfl rfl ?_
    first | refine HB.ga 27 rfl rfl ?_ | refine HB.na 27 rfl rfl ?_ | refine HB.nu 27 rfl rfl ?_
    first | refine HB.ga 28 rfl rfl ?_ | refine HB.na 28 rfl rfl ?_ | refine HB.nu 28 rfl rfl ?_
    first | refine HB.ga 30 rfl rfl ?_ | refine HB.na 30 rfl rfl ?_ | refine HB.nu 30 rfl rfl ?_
    first | refine HB.ga 31 rfl rfl ?_ | refine HB.na 31 rfl rfl ?_ | refine HB.nu 31 rfl rfl ?_
    first | refine HB.ga 32 rfl rfl ?_ | refine HB.na 32 rfl rfl ?_ | refine HB.nu 32 rfl rfl ?_
    first | refine HB.ga 33 rfl rfl ?_ | refine HB.na 33 rfl rfl ?_ | refine HB.nu 33 rfl rfl ?_
    refine HB.all (by (exact Keep.blk (b := bw) memD rfl Keep.nil)) [29] (by kernel_rfl) rfl ⟨⟨_, rfl, ?_⟩, trivial⟩
    refine HP.drop_u rfl ?_
    refine HB.all (by (exact Keep.blk (b := bw) memD rfl Keep.nil)) [34] (by kernel_rfl) rfl ⟨⟨_, rfl, ?_⟩, trivial⟩
    refine HP.drop_u rfl ?_
    first | refine HB.ga 35 rfl rfl ?_ | refine HB.na 35 rfl rfl ?_ | refine HB.nu 35 rfl rfl ?_
    first | refine HB.ga 36 rfl rfl ?_ | refine HB.na 36 rfl rfl ?_ | refine HB.nu 36 rfl rfl ?_
    first | refine HB.ga 37 rfl rfl ?_ | refine HB.na 37 rfl rfl ?_ | refine HB.nu 37 rfl rfl ?_
    first | refine HB.ga 38 rfl rfl ?_ | refine HB.na 38 rfl rfl ?_ | refine HB.nu 38 rfl rfl ?_
    first | refine HB.ga 39 rfl rfl ?_ | refine HB.na 39 rfl rfl ?_ | refine HB.nu 39 rfl rfl ?_
    first | refine HB.ga 40 rfl rfl ?_ | refine HB.na 40 rfl rfl ?_ | refine HB.nu 40 rfl rfl ?_
    first | refine HB.ga 41 rfl rfl ?_ | refine HB.na 41 rfl rfl ?_ | refine HB.nu 41 rfl rfl ?_
    first | refine HB.ga 43 rfl rfl ?_ | refine HB.na 43 rfl rfl ?_ | refine HB.nu 43 rfl rfl ?_
    first | refine HB.ga 44 rfl rfl ?_ | refine HB.na 44 rfl rfl ?_ | refine HB.nu 44 rfl rfl ?_
    first | refine HB.ga 45 rfl rfl ?_ | refine HB.na 45 rfl rfl ?_ | refine HB.nu 45 rfl rfl ?_
    first | refine HB.ga 46 rfl rfl ?_ | refine HB.na 46 rfl rfl ?_ | refine HB.nu 46 rfl rfl ?_
    refine HB.all (by (exact Keep.blk (b := bw) memD rfl Keep.nil)) [42] (by kernel_rfl) rfl ⟨⟨_, rfl, ?_⟩, trivial⟩
    refine HP.drop_u rfl ?_
    refine HB.all (by (exact Keep.blk (b := bw) memD rfl Keep.nil)) [47] (by kernel_rfl) rfl ⟨⟨_, rfl, ?_⟩, trivial⟩
    refine HP.drop_u rfl ?_
    refine HB.all (by (exact Keep.blk (b := bw) memD rfl Keep.nil)) [48] (by kernel_rfl) rfl ⟨⟨_, rfl, ?_⟩, trivial⟩
    refine HP.drop_u rfl ?_
    first | refine HB.ga 49 rfl rfl ?_ | refine HB.na 49 rfl rfl ?_ | refine HB.nu 49 rfl rfl ?_
    first | refine HB.ga 50 rfl rfl ?_ | refine HB.na 50 rfl rfl ?_ | refine HB.nu 50 rfl rfl ?_
    first | refine HB.ga 51 rfl rfl ?_ | refine HB.na 51 rfl rfl ?_ | refine HB.nu 51 rfl rfl ?_
    refine HB.pa 52 rfl ?_
    refine HB.pa 53 rfl ?_
    refine HB.done (by (exact Keep.blk (b := bw) memD rfl Keep.nil)) (by kernel_rfl) ?_
    refine hwKW ?_
    exact HX.ret1 rfl rfl fun w' hM => ⟨rfl, hM.ext⟩
  | some x =>
    obtain ⟨t, br⟩ := x
    obtain ⟨ht1, ht2⟩ := hI3.t t br rfl
    have htl := ht1.len
    have hvl := hI3.ok.len
    have hlo := hI3.ok.lo
    have hlN := hI3.len
    have hoff : k3.off = false := by
      obtain ⟨e, k4, o4, hop⟩ : ∃ e k4 o4, openF k = (e, k4, o4) := ⟨_, _, _, rfl⟩
      rw [hop] at hk3 ho3
      dsimp only at hk3 ho3
      cases o4 with
      | none => cases ho3
      | some t4 => rw [hk3]; exact openF_on hop
    dsimp only [stH, dwH, jpO, jrO]
    refine hwKW ?_
    refine HC.anyC ([(⟨bw, 0, none⟩, .pointer (some ⟨bd, 0, none⟩)), (⟨bw, 1, none⟩, .pointer (some ⟨bj, 0, none⟩)), (⟨bw, 2, none⟩, .pointer (some ⟨bf, 0, none⟩)), (⟨bw, 3, none⟩, .pointer (some ⟨bk, 0, none⟩)), (⟨bk, 1, none⟩, .slice ja t.recs.length jc)]) rfl ?_
    refine HB.pa 0 rfl ?_
    refine HB.pa 1 rfl ?_
    first | refine HB.ga 2 rfl rfl ?_ | refine HB.na 2 rfl rfl ?_ | refine HB.nu 2 rfl rfl ?_
    refine HB.pa 3 rfl ?_
    refine HB.pa 4 rfl ?_
    first | refine HB.ga 5 rfl rfl ?_ | refine HB.na 5 rfl rfl ?_ | refine HB.nu 5 rfl rfl ?_
    refine HB.ga 6 rfl rfl ?_ (hp := POp.nilCheck rfl)
    first | refine HB.ga 7 rfl rfl ?_ | refine HB.na 7 rfl rfl ?_ | refine HB.nu 7 rfl rfl ?_
    refine HB.ldg 8 rfl rfl rfl memD ?_
    refine HB.ga 9 rfl rfl ?_ (hp := POp.peqT rfl rfl)
    first | refine HB.ga 10 rfl rfl ?_ | refine HB.na 10 rfl rfl ?_ | refine HB.nu 10 rfl rfl ?_
    first | refine HB.ga 11 rfl rfl ?_ | refine HB.na 11 rfl rfl ?_ | refine HB.nu 11 rfl rfl ?_
    refine HB.ga 12 rfl rfl ?_ (hp := POp.nilCheck rfl)
    first | refine HB.ga 13 rfl rfl ?_ | refine HB.na 13 rfl rfl ?_ | refine HB.nu 13 rfl rfl ?_
    refine HB.ldg 14 rfl rfl rfl memD ?_
    first | refine HB.ga 16 rfl rfl ?_ | refine HB.na 16 rfl rfl ?_ | refine HB.nu 16 rfl rfl ?_
    refine HB.ga 17 rfl rfl ?_ (hp := POp.nilCheck rfl)
    first | refine HB.ga 18 rfl rfl ?_ | refine HB.na 18 rfl rfl ?_ | refine HB.nu 18 rfl rfl ?_
    refine HB.ldg 19 rfl rfl rfl memD ?_
    refine HB.ga 20 rfl rfl ?_ (hp := POp.nilCheck rfl)
    first | refine HB.ga 21 rfl rfl ?_ | refine HB.na 21 rfl rfl ?_ | refine HB.nu 21 rfl rfl ?_
    refine HB.ldg 22 rfl rfl rfl memD ?_
    refine HB.all (by (exact Keep.blk (b := bw) memD rfl (Keep.blk (b := bw) memD rfl (Keep.blk (b := bw) memD rfl (Keep.blk (b := bw) memD rfl (Keep.blk (b := bk) memD rfl Keep.nil)))))) [15] (by kernel_rfl) rfl ⟨⟨_, rfl, ?_⟩, trivial⟩
    refine HP.one_a rfl ?_
    refine H1.callz (α := Option Addr × Nat) (V := fun z => .slice z.1 t.recs.length z.2) (Hn := fun z => [A.grow 9 1 z.1 z.2 t.recs.length (strs t.recs)]) (I := fun _ => True) (vs := [_]) rfl rfl (fun w' hM => records2_fn (bj := bj) (bd := bd) (a := a) (c := c) (t := t) (br := br) (hM.blk memA) (Mm.gr (e := 9) (a := a) (c := c) hM memA) (by omega)) ?_
    rintro ⟨ax, cx⟩ -
    dsimp only
    apply HB.fold
    refine HB.all (by (exact Keep.blk (b := bw) memD rfl (Keep.blk (b := bw) memD rfl (Keep.blk (b := bw) memD rfl (Keep.blk (b := bw) memD rfl (Keep.blk (b := bk) memD rfl Keep.nil)))))) [23] (by kernel_rfl) rfl ⟨⟨_, rfl, ?_⟩, trivial⟩
    refine HP.one_a rfl ?_
    refine H1.callx (u := .bool true) (vs := [_, _]) rfl rfl (fun w' hM => by
        have := same26_fn (.slice ax t.recs.length cx) (.slice ja t.recs.length jc) t.recs t.recs (by omega) (by omega) w' (Mm.gr (e := 9) (a := ax) (c := cx) hM (.head _)) (Mm.gr (e := 9) (a := ja) (c := jc) hM memA)
        rw [decide_eq_true rfl] at this
        exact this) ?_
    apply HB.fold
    first | refine HB.ga 24 rfl rfl ?_ | refine HB.na 24 rfl rfl ?_ | refine HB.nu 24 rfl rfl ?_
    first | refine HB.ga 25 rfl rfl ?_ | refine HB.na 25 rfl rfl ?_ | refine HB.nu 25 rfl rfl ?_
    refine HB.ga 26 rfl rfl ?_ (hp := POp.nilCheck rfl)
    first | refine HB.ga 27 rfl rfl ?_ | refine HB.na 27 rfl rfl ?_ | refine HB.nu 27 rfl rfl ?_
    refine HB.ldg 28 rfl rfl rfl memD ?_
    first | refine HB.ga 30 rfl rfl ?_ | refine HB.na 30 rfl rfl ?_ | refine HB.nu 30 rfl rfl ?_
    refine HB.ga 31 rfl rfl ?_ (hp := POp.nilCheck rfl)
    first | refine HB.ga 32 rfl rfl ?_ | refine HB.na 32 rfl rfl ?_ | refine HB.nu 32 rfl rfl ?_
    refine HB.ldg 33 rfl rfl rfl memD ?_
    refine HB.all (by (exact Keep.blk (b := bw) memD rfl (Keep.blk (b := bw) memD rfl (Keep.blk (b := bw) memD rfl (Keep.blk (b := bw) memD rfl (Keep.blk (b := bk) memD rfl Keep.nil)))))) [29] (by kernel_rfl) rfl ⟨⟨_, rfl, ?_⟩, trivial⟩
    refine HP.one_a rfl ?_
    refine H1.callx (vs := [_]) rfl rfl (fun w' hM => room2_fn (bj := bj) (bd := bd) (b1 := b1) (b2 := b2) (a := a) (c := c) (pa := pa) (pc := pc) (t := t) (k := k3) (br := br) (hM.blk memA) (hM.blk memA) hI3.ok (by omega)) ?_
    apply HB.fold
    refine HB.all (by (exact Keep.blk (b := bw) memD rfl (Keep.blk (b := bw) memD rfl (Keep.blk (b := bw) memD rfl (Keep.blk (b := bw) memD rfl (Keep.blk (b := bk) memD rfl Keep.nil)))))) [34] (by kernel_rfl) rfl ⟨⟨_, rfl, ?_⟩, trivial⟩
    refine HP.one_a rfl ?_
    refine H1.callk (α := Unit) (V := fun _ => zv ((k3.dur.length : Int) - (t.size : Int))) (I := fun _ => True) (H' := fun _ => rjH bk bf ja jc sa sc la lc t k3 br (A.grow 9 1 ax cx t.recs.length (strs t.recs) :: A.blk bw (wdC bd bf (some ⟨bj, 0, none⟩) (some ⟨bk, 0, none⟩)) 32 :: jnlH bj bd b1 b2 a c pa pc ⟨t, k3, br⟩ [])) (vs := [_]) rfl rfl (fun w' hM => rroom_fn (hM.sub (by repeat (first | exact Hs.nil _ | (refine Hs.cons pickA ?_)))) hI3.ok (by omega)) ?_
    rintro - -
    apply HB.fold
    first | refine HB.ga 35 rfl rfl ?_ | refine HB.na 35 rfl rfl ?_ | refine HB.nu 35 rfl rfl ?_
    first | refine HB.ga 36 rfl rfl ?_ | refine HB.na 36 rfl rfl ?_ | refine HB.nu 36 rfl rfl ?_
    first | refine HB.ga 37 rfl rfl ?_ | refine HB.na 37 rfl rfl ?_ | refine HB.nu 37 rfl rfl ?_
    first | refine HB.ga 38 rfl rfl ?_ | refine HB.na 38 rfl rfl ?_ | refine HB.nu 38 rfl rfl ?_
    refine HB.ga 39 rfl rfl ?_ (hp := POp.nilCheck rfl)
    first | refine HB.ga 40 rfl rfl ?_ | refine HB.na 40 rfl rfl ?_ | refine HB.nu 40 rfl rfl ?_
    refine HB.ldg 41 rfl rfl rfl memD ?_
    first | refine HB.ga 43 rfl rfl ?_ | refine HB.na 43 rfl rfl ?_ | refine HB.nu 43 rfl rfl ?_
    refine HB.ga 44 rfl rfl ?_ (hp := POp.nilCheck rfl)
    first | refine HB.ga 45 rfl rfl ?_ | refine HB.na 45 rfl rfl ?_ | refine HB.nu 45 rfl rfl ?_
    refine HB.ldg 46 rfl rfl rfl memD ?_
    refine HB.all (by (exact Keep.blk (b := bw) memD rfl (Keep.blk (b := bw) memD rfl (Keep.blk (b := bw) memD rfl (Keep.blk (b := bw) memD rfl (Keep.blk (b := bk) memD rfl Keep.nil)))))) [42] (by kernel_rfl) rfl ⟨⟨_, rfl, ?_⟩, trivial⟩
    refine HP.one_a rfl ?_
    refine H1.callx (u := .string (mkBA k3.vis)) (vs := [_]) rfl rfl (fun w' hM => by
        have := content26_fn (hM.blk (b := bd) memA) (hM.blk (b := b2) memA) hI3.ok
        rw [hoff] at this
        exact this) ?_
    apply HB.fold
    refine HB.all (by (exact Keep.blk (b := bw) memD rfl (Keep.blk (b := bw) memD rfl (Keep.blk (b := bw) memD rfl (Keep.blk (b := bw) memD rfl (Keep.blk (b := bk) memD rfl Keep.nil)))))) [47] (by kernel_rfl) rfl ⟨⟨_, rfl, ?_⟩, trivial⟩
    refine HP.one_a rfl ?_
    refine H1.callk (α := Option Addr × Nat) (V := fun z => .slice z.1 k3.dur.length z.2) (I := fun _ => True) (H' := fun z => A.grow 5 1 z.1 z.2 k3.dur.length (ub (visL k3.pend k3.dur)) :: rfH bf sa sc la lc k3 (A.blk bk (rjC bf ja jc t br) 43 :: A.blk bw (wdC bd bf (some ⟨bj, 0, none⟩) (some ⟨bk, 0, none⟩)) 32 :: [])) (vs := [_]) rfl rfl (fun w' hM => visible_fn (hM.sub (by repeat (first | exact Hs.nil _ | (refine Hs.cons pickA ?_)))) hI3.ok hI3.fit (by omega)) ?_
    rintro ⟨a3, c3⟩ -
    dsimp only
    rw [← hI3.vis]
    refine HN.openg2 (e := 5) (sz := 1) (a := a3) (c := c3) (n := k3.dur.length) (xs := ub k3.vis) (.head _) (by omega) ?_
    rintro g rfl
    apply HB.fold
    refine HB.all (by (exact Keep.blk (b := bw) memD rfl (Keep.blk (b := bw) memD rfl (Keep.blk (b := bw) memD rfl (Keep.blk (b := bw) memD rfl (Keep.blk (b := bk) memD rfl Keep.nil)))))) [48] (by kernel_rfl) rfl ⟨⟨_, rfl, ?_⟩, trivial⟩
    refine HP.one_a rfl ?_
    refine H1.bstrC (ys := k3.vis) rfl (by omega) (fun w' hM => Mm.gr (e := 5) (a := some ⟨g, 0, none⟩) (c := c3) hM (.head _)) rfl ?_
    apply HB.fold
    first | refine HB.ga 49 rfl rfl ?_ | refine HB.na 49 rfl rfl ?_ | refine HB.nu 49 rfl rfl ?_
    first | refine HB.ga 50 rfl rfl ?_ | refine HB.na 50 rfl rfl ?_ | refine HB.nu 50 rfl rfl ?_
    first | refine HB.ga 51 rfl rfl ?_ | refine HB.na 51 rfl rfl ?_ | refine HB.nu 51 rfl rfl ?_
    refine HB.pa 52 rfl ?_
    refine HB.pa 53 rfl ?_
    refine HB.done (by (exact Keep.blk (b := bw) memD rfl (Keep.blk (b := bw) memD rfl (Keep.blk (b := bw) memD rfl (Keep.blk (b := bw) memD rfl (Keep.blk (b := bk) memD rfl Keep.nil)))))) (by kernel_rfl) ?_
    refine hwKW ?_
    rw [show decide (mkBA k3.vis = ⟨k3.vis.toArray⟩) = true from decide_eq_true rfl]
    exact HX.ret1 rfl rfl fun w' hM => ⟨rfl, hM.ext⟩
end Go.Sx

