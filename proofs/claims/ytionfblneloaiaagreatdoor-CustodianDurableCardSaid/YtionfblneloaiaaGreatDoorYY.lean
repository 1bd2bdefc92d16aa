/- Chapter 27: the law CustodianDurable: the walk. -/
import Derived.Test.YtionfblneloaiaaGreatDoorYT
import Derived.Test.YtionfblneloaiaaGreatDoorKF
namespace Go.Sx
open Go Go.Proofs Go.RowKit
theorem hwYY {G G2 : Prop} (x : G2) (hwq : Hold G2 → G := by
    intro hQq
    repeat' (first | refine HL.pa ?_ (POp.pneN rfl rfl) | refine HL.pa ?_ (POp.pnil1 rfl rfl) | refine HL.pa ?_ (POp.pnil0 rfl rfl) | refine HL.pa ?_ (POp.nilCheck rfl) | apply HL.fold | apply HA.fold | apply HL.nil | apply HX.n_then | apply HC.seq | apply HC.region | refine HL.pa ?_ | refine HL.ga rfl ?_ | refine HL.na rfl ?_ | refine HL.nu rfl rfl ?_ | apply HC.block | apply HC.skip | apply HC.exit | apply HC.ret | apply HX.e_block | refine HX.e_other rfl ?_ | apply HX.e_then | apply HX.e_again | apply HX.n_block | apply HX.r_then | apply HX.r_block | apply HX.r_again | refine HC.cond_yes rfl ?_ | refine HC.cond_no rfl ?_ | refine HL.one (H1.ldb rfl memA rfl rfl ?_) | refine HC.cond rfl (fun hc => ?_) (fun hc => ?_) | refine HC.cond_b rfl (fun hc => ?_) (fun hc => ?_))
    exact hQq.get) : G := hwq ⟨x⟩
theorem hnYY {G G2 : Prop} (x : G2) (hwq : Hold G2 → G := by
    intro hQq
    repeat' (first | refine HL.pa ?_ (POp.pneN rfl rfl) | refine HL.pa ?_ (POp.pnil1 rfl rfl) | refine HL.pa ?_ (POp.pnil0 rfl rfl) | refine HL.pa ?_ (POp.nilCheck rfl) | apply HL.fold | apply HA.fold | apply HL.nil | apply HX.n_then | apply HC.seq | apply HC.region | refine HL.pa ?_ | refine HL.ga rfl ?_ | refine HL.na rfl ?_ | refine HL.nu rfl rfl ?_ | apply HC.block | apply HC.skip | apply HC.exit | apply HC.ret | apply HX.e_block | refine HX.e_other rfl ?_ | apply HX.e_then | apply HX.e_again | apply HX.n_block | apply HX.r_then | apply HX.r_block | apply HX.r_again | refine HC.cond_yes rfl ?_ | refine HC.cond_no rfl ?_ | refine HL.one (H1.ldb rfl memA rfl rfl ?_))
    exact hQq.get) : G := hwq ⟨x⟩
theorem hbYY {G G2 : Prop} (x : G2) (hwq : Hold G2 → G := by
    intro hQq
    repeat' (first | refine HL.pa ?_ (POp.pneN rfl rfl) | refine HL.pa ?_ (POp.pnil1 rfl rfl) | refine HL.pa ?_ (POp.pnil0 rfl rfl) | refine HL.pa ?_ (POp.nilCheck rfl) | apply HL.fold | apply HA.fold | apply HL.nil | apply HX.n_then | apply HC.seq | apply HC.region | refine HL.pa ?_ | refine HL.ga rfl ?_ | refine HL.na rfl ?_ | refine HL.nu rfl rfl ?_ | apply HC.skip | apply HC.exit | apply HC.ret | apply HX.e_block | refine HX.e_other rfl ?_ | apply HX.e_then | apply HX.e_again | apply HX.n_block | apply HX.r_then | apply HX.r_block | apply HX.r_again | refine HC.cond_yes rfl ?_ | refine HC.cond_no rfl ?_ | refine HL.one (H1.ldb rfl memA rfl rfl ?_) | refine HC.cond rfl (fun hc => ?_) (fun hc => ?_) | refine HC.cond_b rfl (fun hc => ?_) (fun hc => ?_))
    exact hQq.get) : G := hwq ⟨x⟩
abbrev CuS := PM × Jn × List ByteArray
/-- Three custodians: the first has what the others have, or its disk reads as one of them behind a power failure. -/
structure DurI (n i : Nat) (x : PM × Jn) (y z : CuS) : Prop where
  le : i ≤ n
  fy : DI i y.1 y.2.1 y.2.2
  fz : DI i z.1 z.2.1 z.2.2
  ends : Ends 20000 y.2.2 z.2.2 x.2.k
  same : i < n → x = (y.1, y.2.1) ∧ y = z
theorem DI.to {i k : Nat} {m : PM} {j : Jn} {l : List ByteArray} (h : DI i m j l) (hk : i ≤ k) : DI k m j l := ⟨h.c, Nat.le_trans h.len hk, h.sz⟩
theorem DI.jokC {i : Nat} {m : PM} {j : Jn} {l : List ByteArray} (h : DI i m j l) (hi : i ≤ 20) (n : Nat) (hn : n ≤ 1000000) : JOk ⟨j.t, (j.k.cut n).2, j.br⟩ := by
  have hh := h.c.jn.half.cut n hn
  have h0 := h.jok hi
  have hl := h.len
  exact ⟨hh.ok, by show (j.k.cut n).2.pend.length ≤ 9000; rw [hh.pend]; exact Nat.zero_le _, by show j.t.size ≤ (j.k.cut n).2.dur.length; rw [hh.dur, hh.len]; exact h.c.jn.fit, h0.recs, h0.head⟩
attribute [local irreducible] WC WL WX POp Then Again Fn NX W1 WA WO QL RP RA Yld LoopAt HC HL HX HN H1 HA HO HQ HB HP A.blk A.grow A.rd A.obj A.mp AgainH CutH
attribute [local irreducible] A.pm A.mx A.mit sumS newK expB
set_option maxHeartbeats 8000000 in
theorem custodianDurable_fn {w : World} {ea ec : Addr} {a0 : Option Addr} {c0 : Nat} {ds : List DeedV} {K : List Int} {vk : Value} (hG : RoundG w) (hE : ErrG ea w) (hC : CErrG ec w) (hR : RdDeeds w a0 c0 ds) (hdl : ds.length ≤ 9223372036854775807) (power torn : Int) (hp1 : -9223372036854775808 ≤ power) (hp2 : power ≤ 9223372036854775807)
    (ht1 : -9223372036854775808 ≤ torn) (ht2 : torn ≤ 9223372036854775807) (hK : Rd w vk (ints K)) (hKl : K.length ≤ 9223372036854775807) :
    Fn Tryz.prog 8 #[.slice a0 ds.length c0, zv power, vk, zv torn] w fun v w' => v = .bool true ∧ Ext w w' := by
  obtain ⟨ak, ck, rfl, hKc⟩ : ∃ ak ck, vk = .slice ak K.length ck ∧ K.length ≤ ck := by
    obtain ⟨a, c, h1, h2, -⟩ := hK
    rw [ints_len] at h1 h2
    exact ⟨a, c, h1, h2⟩
  have hpk := pk_lt power (n := 3) (by decide)
  obtain ⟨P, hP, hP3⟩ : ∃ P : Nat, 1 + pk power 3 = (P : Int) ∧ P ≤ 3 := ⟨(1 + pk power 3).toNat, by omega⟩
  have hcap := hR.cap
  have hm15 : min (ds.length : Int) 15 = ((min ds.length 15 : Nat) : Int) := by omega
  obtain ⟨n, hn⟩ : ∃ n, n = min ds.length 15 := ⟨_, rfl⟩
  refine enterH (l := [_, _, _, _]) rfl Tryz.ntmps8 rfl ?_
  refine hwYY ?_
  refine HL.one (H1.callx (vs := []) rfl rfl (fun w' hM => sane27_fn (hG.ext hM.ext) (hE.ext hM.ext) (hC.ext hM.ext)) ?_)
  refine hwYY ?_
  refine HL.one (H1.callz (α := (Nat × Nat × Nat) × Nat × Nat × Nat × (Option Addr × Nat) × (Option Addr × Nat)) (V := fun z => .tuple #[.pointer (some ⟨z.2.1, 0, none⟩), .pointer (some ⟨z.1.1, 0, none⟩), .bool true])
    (Hn := fun z => cuH z.2.1 z.2.2.1 z.2.2.2.1 z.1.1 z.1.2.1 z.1.2.2 z.2.2.2.2.1.1 z.2.2.2.2.1.2 z.2.2.2.2.2.1 z.2.2.2.2.2.2 [] ⟨t00, newK 20000, false⟩ []) (I := fun _ => True) (vs := [zv 20000]) rfl rfl (fun w' hM => opened_fn (hG.ext hM.ext) (hE.ext hM.ext) (hC.ext hM.ext) 20000 (by decide) (by decide)) ?_)
  rintro ⟨⟨bd, b1, b2⟩, bx, bm, bj, ⟨a, c⟩, ⟨pa, pc⟩⟩ -
  dsimp only
  refine hwYY ?_
  refine HL.one (H1.callz (α := (Nat × Nat × Nat) × Nat × Nat × Nat × (Option Addr × Nat) × (Option Addr × Nat)) (V := fun z => .tuple #[.pointer (some ⟨z.2.1, 0, none⟩), .pointer (some ⟨z.1.1, 0, none⟩), .bool true])
    (Hn := fun z => cuH z.2.1 z.2.2.1 z.2.2.2.1 z.1.1 z.1.2.1 z.1.2.2 z.2.2.2.2.1.1 z.2.2.2.2.1.2 z.2.2.2.2.2.1 z.2.2.2.2.2.2 [] ⟨t00, newK 20000, false⟩ []) (I := fun _ => True) (vs := [zv 20000]) rfl rfl (fun w' hM => opened_fn (hG.ext hM.ext) (hE.ext hM.ext) (hC.ext hM.ext) 20000 (by decide) (by decide)) ?_)
  rintro ⟨⟨be, b3, b4⟩, by_, bn, bk, ⟨a', c'⟩, ⟨pa', pc'⟩⟩ -
  dsimp only
  refine hwYY ?_
  refine HL.one (H1.callz (α := (Nat × Nat × Nat) × Nat × Nat × Nat × (Option Addr × Nat) × (Option Addr × Nat)) (V := fun z => .tuple #[.pointer (some ⟨z.2.1, 0, none⟩), .pointer (some ⟨z.1.1, 0, none⟩), .bool true])
    (Hn := fun z => cuH z.2.1 z.2.2.1 z.2.2.2.1 z.1.1 z.1.2.1 z.1.2.2 z.2.2.2.2.1.1 z.2.2.2.2.1.2 z.2.2.2.2.2.1 z.2.2.2.2.2.2 [] ⟨t00, newK 20000, false⟩ []) (I := fun _ => True) (vs := [zv 20000]) rfl rfl (fun w' hM => opened_fn (hG.ext hM.ext) (hE.ext hM.ext) (hC.ext hM.ext) 20000 (by decide) (by decide)) ?_)
  rintro ⟨⟨bf, b5, b6⟩, bz, bo, bl, ⟨a2, c2⟩, ⟨pa2, pc2⟩⟩ -
  dsimp only
  refine hwYY ?_
  refine HL.pa ?_ (POp.pre_any rfl rfl (by omega) (by omega))
  rw [hm15, Int.toNat_natCast, ← hn]
  have hn15 : n ≤ 15 := by omega
  have hnd : n ≤ ds.length := by omega
  clear hm15
  refine hbYY ?_
  repeat refine HC.seq ?_
  refine HC.cut (α := (PM × Jn) × CuS × CuS × (Nat × (Option Addr × Nat) × (Option Addr × Nat)) × (Nat × (Option Addr × Nat) × (Option Addr × Nat)) × (Nat × (Option Addr × Nat) × (Option Addr × Nat)))
    (fun z => [(2, .slice ak K.length ck), (3, zv torn), (9, .bool true), (11, .pointer (some ⟨bd, 0, none⟩)), (13, .pointer (some ⟨by_, 0, none⟩)), (16, .pointer (some ⟨bz, 0, none⟩))])
    (fun z => cuH bx z.2.2.2.1.1 bj bd b1 b2 z.2.2.2.1.2.1.1 z.2.2.2.1.2.1.2 z.2.2.2.1.2.2.1 z.2.2.2.1.2.2.2 z.1.1 z.1.2 (cuH by_ z.2.2.2.2.1.1 bk be b3 b4 z.2.2.2.2.1.2.1.1 z.2.2.2.2.1.2.1.2 z.2.2.2.2.1.2.2.1 z.2.2.2.2.1.2.2.2 z.2.1.1 z.2.1.2.1
      (cuH bz z.2.2.2.2.2.1 bl bf b5 b6 z.2.2.2.2.2.2.1.1 z.2.2.2.2.2.2.1.2 z.2.2.2.2.2.2.2.1 z.2.2.2.2.2.2.2.2 z.2.2.1.1 z.2.2.1.2.1 [])))
    (fun z => DurI n n z.1 z.2.1 z.2.2.1) ?_ ?_
  · refine HC.block ?_
    refine HC.loop (α := Nat × (PM × Jn) × CuS × CuS × (Nat × (Option Addr × Nat) × (Option Addr × Nat)) × (Nat × (Option Addr × Nat) × (Option Addr × Nat)) × (Nat × (Option Addr × Nat) × (Option Addr × Nat)))
      (fun z => [(0, .slice a0 n c0), (1, zv power), (2, .slice ak K.length ck), (3, zv torn), (9, .bool true), (10, .pointer (some ⟨bx, 0, none⟩)), (11, .pointer (some ⟨bd, 0, none⟩)), (13, .pointer (some ⟨by_, 0, none⟩)), (16, .pointer (some ⟨bz, 0, none⟩)), (19, zv (z.1 : Int))])
      (fun z => cuH bx z.2.2.2.2.1.1 bj bd b1 b2 z.2.2.2.2.1.2.1.1 z.2.2.2.2.1.2.1.2 z.2.2.2.2.1.2.2.1 z.2.2.2.2.1.2.2.2 z.2.1.1 z.2.1.2 (cuH by_ z.2.2.2.2.2.1.1 bk be b3 b4 z.2.2.2.2.2.1.2.1.1 z.2.2.2.2.2.1.2.1.2 z.2.2.2.2.2.1.2.2.1 z.2.2.2.2.2.1.2.2.2 z.2.2.1.1 z.2.2.1.2.1
        (cuH bz z.2.2.2.2.2.2.1 bl bf b5 b6 z.2.2.2.2.2.2.2.1.1 z.2.2.2.2.2.2.2.1.2 z.2.2.2.2.2.2.2.2.1 z.2.2.2.2.2.2.2.2.2 z.2.2.2.1.1 z.2.2.2.1.2.1 [])))
      (fun z => DurI n z.1 z.2.1 z.2.2.1 z.2.2.2.1) (fun z => n - z.1) (0, ([], ⟨t00, newK 20000, false⟩), ([], ⟨t00, newK 20000, false⟩, []), ([], ⟨t00, newK 20000, false⟩, []), (bm, (a, c), (pa, pc)), (bn, (a', c'), (pa', pc')), (bo, (a2, c2), (pa2, pc2)))
      ⟨Nat.zero_le _, di0, di0, di0.c.jn.half.ends, fun _ => ⟨rfl, rfl⟩⟩ esA (Hs.cons (Pick.there (Pick.there (Pick.there (Pick.there (Pick.there (Pick.there (Pick.there (Pick.there (Pick.there (Pick.there (Pick.there (Pick.there (Pick.there (Pick.there (Pick.there (Pick.there Pick.here)))))))))))))))) (Hs.cons (Pick.there (Pick.there (Pick.there (Pick.there (Pick.there (Pick.there (Pick.there (Pick.there (Pick.there (Pick.there (Pick.there (Pick.there (Pick.there (Pick.there (Pick.there (Pick.there Pick.here)))))))))))))))) (Hs.cons (Pick.there (Pick.there (Pick.there (Pick.there (Pick.there (Pick.there (Pick.there (Pick.there (Pick.there (Pick.there (Pick.there (Pick.there (Pick.there (Pick.there (Pick.there (Pick.there Pick.here)))))))))))))))) (Hs.cons (Pick.there (Pick.there (Pick.there (Pick.there (Pick.there (Pick.there (Pick.there (Pick.there (Pick.there (Pick.there (Pick.there (Pick.there (Pick.there (Pick.there (Pick.there (Pick.there Pick.here)))))))))))))))) (Hs.cons (Pick.there (Pick.there (Pick.there (Pick.there (Pick.there (Pick.there (Pick.there (Pick.there (Pick.there (Pick.there (Pick.there (Pick.there (Pick.there (Pick.there (Pick.there (Pick.there Pick.here)))))))))))))))) (Hs.cons (Pick.there (Pick.there (Pick.there (Pick.there (Pick.there (Pick.there (Pick.there (Pick.there (Pick.there (Pick.there (Pick.there (Pick.there (Pick.there (Pick.there (Pick.there (Pick.there Pick.here)))))))))))))))) (Hs.cons (Pick.there (Pick.there (Pick.there (Pick.there (Pick.there (Pick.there (Pick.there (Pick.there (Pick.there (Pick.there (Pick.there (Pick.there (Pick.there (Pick.there (Pick.there (Pick.there Pick.here)))))))))))))))) (Hs.cons (Pick.there (Pick.there (Pick.there (Pick.there (Pick.there (Pick.there (Pick.there (Pick.there (Pick.there (Pick.there (Pick.there (Pick.there (Pick.there (Pick.there (Pick.there (Pick.there Pick.here)))))))))))))))) (Hs.cons (Pick.there (Pick.there (Pick.there (Pick.there (Pick.there (Pick.there (Pick.there (Pick.there Pick.here)))))))) (Hs.cons (Pick.there (Pick.there (Pick.there (Pick.there (Pick.there (Pick.there (Pick.there (Pick.there Pick.here)))))))) (Hs.cons (Pick.there (Pick.there (Pick.there (Pick.there (Pick.there (Pick.there (Pick.there (Pick.there Pick.here)))))))) (Hs.cons (Pick.there (Pick.there (Pick.there (Pick.there (Pick.there (Pick.there (Pick.there (Pick.there Pick.here)))))))) (Hs.cons (Pick.there (Pick.there (Pick.there (Pick.there (Pick.there (Pick.there (Pick.there (Pick.there Pick.here)))))))) (Hs.cons (Pick.there (Pick.there (Pick.there (Pick.there (Pick.there (Pick.there (Pick.there (Pick.there Pick.here)))))))) (Hs.cons (Pick.there (Pick.there (Pick.there (Pick.there (Pick.there (Pick.there (Pick.there (Pick.there Pick.here)))))))) (Hs.cons (Pick.there (Pick.there (Pick.there (Pick.there (Pick.there (Pick.there (Pick.there (Pick.there Pick.here)))))))) (Hs.refl _))))))))))))))))) ?_
    rintro ⟨i, ⟨my, jy⟩, ⟨mx, jx, ly⟩, ⟨mz, jz, lz⟩, ⟨bm, ⟨a, c⟩, ⟨pa, pc⟩⟩, ⟨bn, ⟨a', c'⟩, ⟨pa', pc'⟩⟩, ⟨bo, ⟨a2, c2⟩, ⟨pa2, pc2⟩⟩⟩ hI
    dsimp only at hI ⊢
    have hin : i ≤ n := hI.le
    by_cases hlt : i < n
    rotate_left
    · obtain rfl : i = n := by omega
      refine hwYY ?_
      exact HX.cut ((my, jy), (mx, jx, ly), (mz, jz, lz), (bm, (a, c), (pa, pc)), (bn, (a', c'), (pa', pc')), (bo, (a2, c2), (pa2, pc2))) hI esA (Hs.refl _)
    obtain ⟨e1, e2⟩ := hI.same hlt
    have hy := hI.fy
    dsimp only at hy e1 e2
    clear hI
    cases e1
    cases e2
    have hltd : i < ds.length := by omega
    have hi15 : i ≤ 15 := by omega
    have hq := hR.ok hltd
    obtain ⟨b, off, rfl, hbs, hcell⟩ : ∃ b off, a0 = some ⟨b, off, none⟩ ∧ b < w.heap.size ∧ ∀ (j : Nat) (u : Value), (deedC (deedAt ds i))[j]? = some u → w.cell? ⟨b, off + i * 5 + j, none⟩ = some u := by
      rcases hR.cells with h | ⟨b, off, h1, h2, h3⟩
      · rw [h] at hltd; cases hltd
      · exact ⟨b, off, h1, h2, h3 i hltd⟩
    generalize deedAt ds i = q at hq hcell
    obtain ⟨j2, hd1, hy2⟩ := hy.does q hi15
    obtain ⟨hap1, hap2⟩ := hy.app q
    have hjy := hy.jok (by omega)
    have hmy := hy.mlen
    refine hnYY ?_
    refine HC.cut (α := Jn) (fun _ => [(0, .slice (some ⟨b, off, none⟩) n c0), (1, zv power), (2, .slice ak K.length ck), (3, zv torn), (9, .bool true), (10, .pointer (some ⟨bx, 0, none⟩)), (11, .pointer (some ⟨bd, 0, none⟩)), (13, .pointer (some ⟨by_, 0, none⟩)), (16, .pointer (some ⟨bz, 0, none⟩)), (19, zv (i : Int))])
      (fun j3 => cuH bx bm bj bd b1 b2 a c pa pc my j3 (cuH by_ bn bk be b3 b4 a' c' pa' pc' my jy (cuH bz bo bl bf b5 b6 a2 c2 pa2 pc2 my jy [])))
      (fun j3 => JOk j3 ∧ ∃ (e : Int) (m4 : PM) (j4 : Jn), doF my j3 q = (e, m4, j4) ∧ (e = 0 → Ends 20000 (ly ++ doR my q) (ly ++ doR my q) j4.k) ∧ (e ≠ 0 → Ends 20000 ly (ly ++ doR my q) j4.k ∧ i + 1 = n) ∧ (i + 1 < n → e = 0 ∧ m4 = doM my q ∧ j4 = j2)) ?_ ?_
    · by_cases hA : i + 1 = n
      · have hA' : (i : Int) = (n : Int) - 1 := by omega
        have hcut := cut_ok2 hy.c.jn.ok hy.c.jn.off P (by omega)
        obtain ⟨e, m4, j4, p1, p2, p3⟩ := hy.power q P (by omega)
        refine hwYY ?_
        refine HL.one (H1.call0 (vs := [_, zv 3]) rfl rfl (fun w' hM => pick27_fn power 3 hp1 hp2 (by decide) w') ?_)
        refine hwYY ?_
        rw [hP]
        refine HL.one (H1.callk (α := Unit) (V := fun _ => zv 0) (I := fun _ => True) (H' := fun _ => cuH bx bm bj bd b1 b2 a c pa pc my ⟨jy.t, (jy.k.cut P).2, jy.br⟩ (cuH by_ bn bk be b3 b4 a' c' pa' pc' my jy (cuH bz bo bl bf b5 b6 a2 c2 pa2 pc2 my jy []))) (vs := [_, zv (P : Int)]) rfl rfl
          (fun w' hM => (cut_fn (k := jy.k) P (hM.sub (Hs.cons (Pick.there (Pick.there (Pick.there (Pick.there Pick.here)))) (Hs.cons (Pick.there (Pick.there (Pick.there (Pick.there Pick.here)))) (Hs.cons (Pick.there (Pick.there (Pick.there (Pick.there Pick.here)))) (Hs.cons (Pick.there (Pick.there (Pick.there (Pick.there Pick.here)))) (Hs.refl _))))))).mono fun v w2 h => ⟨(), trivial, by rw [h.1, hcut.2.2.2.2.1], h.2.sub (Hs.cons (Pick.there (Pick.there (Pick.there (Pick.there Pick.here)))) (Hs.cons (Pick.there (Pick.there (Pick.there (Pick.there Pick.here)))) (Hs.cons (Pick.there (Pick.there (Pick.there (Pick.there Pick.here)))) (Hs.cons (Pick.there (Pick.there (Pick.there (Pick.there Pick.here)))) (Hs.refl _)))))⟩) ?_)
        rintro - -
        refine hwYY ?_
        exact HX.cut ⟨jy.t, (jy.k.cut P).2, jy.br⟩ ⟨hy.jokC (by omega) P (by omega), e, m4, j4, p1, p2, fun h => ⟨p3 h, hA⟩, fun h => by omega⟩ esA (Hs.refl _)
      · have hA' : ¬ (i : Int) = (n : Int) - 1 := by omega
        refine hwYY ?_
        exact HX.cut jy ⟨hjy, 0, _, j2, hd1, fun _ => hy2.c.jn.half.ends, fun h => absurd rfl h, fun _ => ⟨rfl, rfl, rfl⟩⟩ esA (Hs.refl _)
    rintro j3 ⟨hj3, e, m4, j4, hd3, he0, he1, hes⟩
    refine hwYY ?_
    refine HL.one (H1.ldAggw (b := b) (off := off + i * 5) (vs := [zv q.kind, zv q.object, zv q.fragment, .string q.s, q.vk]) rfl rfl (fun w' hM j u hu => cell_ext hM.ext (hcell j u hu)) rfl ?_)
    refine hwYY ?_
    refine HL.one (H1.callk (α := Nat × (Option Addr × Nat) × (Option Addr × Nat)) (V := fun _ => zv e) (I := fun _ => True) (H' := fun z => cuH bx z.1 bj bd b1 b2 z.2.1.1 z.2.1.2 z.2.2.1 z.2.2.2 m4 j4 (cuH by_ bn bk be b3 b4 a' c' pa' pc' my jy (cuH bz bo bl bf b5 b6 a2 c2 pa2 pc2 my jy []))) (vs := [_, .agg [zv q.kind, zv q.object, zv q.fragment, .string q.s, q.vk].toArray]) rfl rfl
      (fun w' hM => does27_fn q hd3 hq hG hM hj3 hy.c.nd (by omega)) ?_)
    rintro ⟨bm, ⟨a, c⟩, ⟨pa, pc⟩⟩ -
    dsimp only
    refine hwYY ?_
    refine HL.one (H1.ldAggw (b := b) (off := off + i * 5) (vs := [zv q.kind, zv q.object, zv q.fragment, .string q.s, q.vk]) rfl rfl (fun w' hM j u hu => cell_ext hM.ext (hcell j u hu)) rfl ?_)
    refine hwYY ?_
    refine HL.one (H1.callk (α := Nat × (Option Addr × Nat) × (Option Addr × Nat)) (V := fun _ => zv 0) (I := fun _ => True) (H' := fun z => cuH bz z.1 bl bf b5 b6 z.2.1.1 z.2.1.2 z.2.2.1 z.2.2.2 (doM my q) j2 (cuH bx bm bj bd b1 b2 a c pa pc m4 j4 (cuH by_ bn bk be b3 b4 a' c' pa' pc' my jy []))) (vs := [_, .agg [zv q.kind, zv q.object, zv q.fragment, .string q.s, q.vk].toArray]) rfl rfl
      (fun w' hM => does27_fn q hd1 hq hG (hM.sub (Hs.cons (Pick.there (Pick.there (Pick.there (Pick.there (Pick.there (Pick.there (Pick.there (Pick.there (Pick.there (Pick.there (Pick.there (Pick.there (Pick.there (Pick.there (Pick.there (Pick.there Pick.here)))))))))))))))) (Hs.cons (Pick.there (Pick.there (Pick.there (Pick.there (Pick.there (Pick.there (Pick.there (Pick.there (Pick.there (Pick.there (Pick.there (Pick.there (Pick.there (Pick.there (Pick.there (Pick.there Pick.here)))))))))))))))) (Hs.cons (Pick.there (Pick.there (Pick.there (Pick.there (Pick.there (Pick.there (Pick.there (Pick.there (Pick.there (Pick.there (Pick.there (Pick.there (Pick.there (Pick.there (Pick.there (Pick.there Pick.here)))))))))))))))) (Hs.cons (Pick.there (Pick.there (Pick.there (Pick.there (Pick.there (Pick.there (Pick.there (Pick.there (Pick.there (Pick.there (Pick.there (Pick.there (Pick.there (Pick.there (Pick.there (Pick.there Pick.here)))))))))))))))) (Hs.cons (Pick.there (Pick.there (Pick.there (Pick.there (Pick.there (Pick.there (Pick.there (Pick.there (Pick.there (Pick.there (Pick.there (Pick.there (Pick.there (Pick.there (Pick.there (Pick.there Pick.here)))))))))))))))) (Hs.cons (Pick.there (Pick.there (Pick.there (Pick.there (Pick.there (Pick.there (Pick.there (Pick.there (Pick.there (Pick.there (Pick.there (Pick.there (Pick.there (Pick.there (Pick.there (Pick.there Pick.here)))))))))))))))) (Hs.cons (Pick.there (Pick.there (Pick.there (Pick.there (Pick.there (Pick.there (Pick.there (Pick.there (Pick.there (Pick.there (Pick.there (Pick.there (Pick.there (Pick.there (Pick.there (Pick.there Pick.here)))))))))))))))) (Hs.cons (Pick.there (Pick.there (Pick.there (Pick.there (Pick.there (Pick.there (Pick.there (Pick.there (Pick.there (Pick.there (Pick.there (Pick.there (Pick.there (Pick.there (Pick.there (Pick.there Pick.here)))))))))))))))) (Hs.refl _)))))))))) hjy hy.c.nd (by omega)) ?_)
    rintro ⟨bo, ⟨a2, c2⟩, ⟨pa2, pc2⟩⟩ -
    dsimp only
    by_cases he : e = 0
    · subst he
      have hen := he0 rfl
      refine hwYY ?_
      refine HL.one (H1.ldAggw (b := b) (off := off + i * 5) (vs := [zv q.kind, zv q.object, zv q.fragment, .string q.s, q.vk]) rfl rfl (fun w' hM j u hu => cell_ext hM.ext (hcell j u hu)) rfl ?_)
      refine hwYY ?_
      refine HL.one (H1.callk (α := Nat × (Option Addr × Nat) × (Option Addr × Nat)) (V := fun _ => zv 0) (I := fun _ => True) (H' := fun z => cuH by_ z.1 bk be b3 b4 z.2.1.1 z.2.1.2 z.2.2.1 z.2.2.2 (doM my q) j2 (cuH bz bo bl bf b5 b6 a2 c2 pa2 pc2 (doM my q) j2 (cuH bx bm bj bd b1 b2 a c pa pc m4 j4 []))) (vs := [_, .agg [zv q.kind, zv q.object, zv q.fragment, .string q.s, q.vk].toArray]) rfl rfl
        (fun w' hM => does27_fn q hd1 hq hG (hM.sub (Hs.cons (Pick.there (Pick.there (Pick.there (Pick.there (Pick.there (Pick.there (Pick.there (Pick.there (Pick.there (Pick.there (Pick.there (Pick.there (Pick.there (Pick.there (Pick.there (Pick.there Pick.here)))))))))))))))) (Hs.cons (Pick.there (Pick.there (Pick.there (Pick.there (Pick.there (Pick.there (Pick.there (Pick.there (Pick.there (Pick.there (Pick.there (Pick.there (Pick.there (Pick.there (Pick.there (Pick.there Pick.here)))))))))))))))) (Hs.cons (Pick.there (Pick.there (Pick.there (Pick.there (Pick.there (Pick.there (Pick.there (Pick.there (Pick.there (Pick.there (Pick.there (Pick.there (Pick.there (Pick.there (Pick.there (Pick.there Pick.here)))))))))))))))) (Hs.cons (Pick.there (Pick.there (Pick.there (Pick.there (Pick.there (Pick.there (Pick.there (Pick.there (Pick.there (Pick.there (Pick.there (Pick.there (Pick.there (Pick.there (Pick.there (Pick.there Pick.here)))))))))))))))) (Hs.cons (Pick.there (Pick.there (Pick.there (Pick.there (Pick.there (Pick.there (Pick.there (Pick.there (Pick.there (Pick.there (Pick.there (Pick.there (Pick.there (Pick.there (Pick.there (Pick.there Pick.here)))))))))))))))) (Hs.cons (Pick.there (Pick.there (Pick.there (Pick.there (Pick.there (Pick.there (Pick.there (Pick.there (Pick.there (Pick.there (Pick.there (Pick.there (Pick.there (Pick.there (Pick.there (Pick.there Pick.here)))))))))))))))) (Hs.cons (Pick.there (Pick.there (Pick.there (Pick.there (Pick.there (Pick.there (Pick.there (Pick.there (Pick.there (Pick.there (Pick.there (Pick.there (Pick.there (Pick.there (Pick.there (Pick.there Pick.here)))))))))))))))) (Hs.cons (Pick.there (Pick.there (Pick.there (Pick.there (Pick.there (Pick.there (Pick.there (Pick.there (Pick.there (Pick.there (Pick.there (Pick.there (Pick.there (Pick.there (Pick.there (Pick.there Pick.here)))))))))))))))) (Hs.refl _)))))))))) hjy hy.c.nd (by omega)) ?_)
      rintro ⟨bn, ⟨a', c'⟩, ⟨pa', pc'⟩⟩ -
      dsimp only
      refine hwYY ?_
      exact HX.again (i + 1, (m4, j4), (doM my q, j2, ly ++ doR my q), (doM my q, j2, ly ++ doR my q), (bm, (a, c), (pa, pc)), (bn, (a', c'), (pa', pc')), (bo, (a2, c2), (pa2, pc2))) ⟨hlt, hy2, hy2, hen, fun h => ⟨by obtain ⟨-, rfl, rfl⟩ := hes h; rfl, rfl⟩⟩ (by show n - (i + 1) < n - i; omega) esA (Hs.cons (Pick.there (Pick.there (Pick.there (Pick.there (Pick.there (Pick.there (Pick.there (Pick.there (Pick.there (Pick.there (Pick.there (Pick.there (Pick.there (Pick.there (Pick.there (Pick.there Pick.here)))))))))))))))) (Hs.cons (Pick.there (Pick.there (Pick.there (Pick.there (Pick.there (Pick.there (Pick.there (Pick.there (Pick.there (Pick.there (Pick.there (Pick.there (Pick.there (Pick.there (Pick.there (Pick.there Pick.here)))))))))))))))) (Hs.cons (Pick.there (Pick.there (Pick.there (Pick.there (Pick.there (Pick.there (Pick.there (Pick.there (Pick.there (Pick.there (Pick.there (Pick.there (Pick.there (Pick.there (Pick.there (Pick.there Pick.here)))))))))))))))) (Hs.cons (Pick.there (Pick.there (Pick.there (Pick.there (Pick.there (Pick.there (Pick.there (Pick.there (Pick.there (Pick.there (Pick.there (Pick.there (Pick.there (Pick.there (Pick.there (Pick.there Pick.here)))))))))))))))) (Hs.cons (Pick.there (Pick.there (Pick.there (Pick.there (Pick.there (Pick.there (Pick.there (Pick.there (Pick.there (Pick.there (Pick.there (Pick.there (Pick.there (Pick.there (Pick.there (Pick.there Pick.here)))))))))))))))) (Hs.cons (Pick.there (Pick.there (Pick.there (Pick.there (Pick.there (Pick.there (Pick.there (Pick.there (Pick.there (Pick.there (Pick.there (Pick.there (Pick.there (Pick.there (Pick.there (Pick.there Pick.here)))))))))))))))) (Hs.cons (Pick.there (Pick.there (Pick.there (Pick.there (Pick.there (Pick.there (Pick.there (Pick.there (Pick.there (Pick.there (Pick.there (Pick.there (Pick.there (Pick.there (Pick.there (Pick.there Pick.here)))))))))))))))) (Hs.cons (Pick.there (Pick.there (Pick.there (Pick.there (Pick.there (Pick.there (Pick.there (Pick.there (Pick.there (Pick.there (Pick.there (Pick.there (Pick.there (Pick.there (Pick.there (Pick.there Pick.here)))))))))))))))) (Hs.refl _)))))))))
    · obtain ⟨hen, hlast⟩ := he1 he
      have hlast' : ¬ (i : Int) < (n : Int) - 1 := by omega
      refine hwYY ?_
      exact HX.again (i + 1, (m4, j4), (my, jy, ly), (doM my q, j2, ly ++ doR my q), (bm, (a, c), (pa, pc)), (bn, (a', c'), (pa', pc')), (bo, (a2, c2), (pa2, pc2))) ⟨hlt, hy.more, hy2, hen, fun h => by omega⟩ (by show n - (i + 1) < n - i; omega) esA (Hs.cons (Pick.there (Pick.there (Pick.there (Pick.there (Pick.there (Pick.there (Pick.there (Pick.there Pick.here)))))))) (Hs.cons (Pick.there (Pick.there (Pick.there (Pick.there (Pick.there (Pick.there (Pick.there (Pick.there Pick.here)))))))) (Hs.cons (Pick.there (Pick.there (Pick.there (Pick.there (Pick.there (Pick.there (Pick.there (Pick.there Pick.here)))))))) (Hs.cons (Pick.there (Pick.there (Pick.there (Pick.there (Pick.there (Pick.there (Pick.there (Pick.there Pick.here)))))))) (Hs.cons (Pick.there (Pick.there (Pick.there (Pick.there (Pick.there (Pick.there (Pick.there (Pick.there Pick.here)))))))) (Hs.cons (Pick.there (Pick.there (Pick.there (Pick.there (Pick.there (Pick.there (Pick.there (Pick.there Pick.here)))))))) (Hs.cons (Pick.there (Pick.there (Pick.there (Pick.there (Pick.there (Pick.there (Pick.there (Pick.there Pick.here)))))))) (Hs.cons (Pick.there (Pick.there (Pick.there (Pick.there (Pick.there (Pick.there (Pick.there (Pick.there Pick.here)))))))) (Hs.cons (Pick.there (Pick.there (Pick.there (Pick.there (Pick.there (Pick.there (Pick.there (Pick.there Pick.here)))))))) (Hs.cons (Pick.there (Pick.there (Pick.there (Pick.there (Pick.there (Pick.there (Pick.there (Pick.there Pick.here)))))))) (Hs.cons (Pick.there (Pick.there (Pick.there (Pick.there (Pick.there (Pick.there (Pick.there (Pick.there Pick.here)))))))) (Hs.cons (Pick.there (Pick.there (Pick.there (Pick.there (Pick.there (Pick.there (Pick.there (Pick.there Pick.here)))))))) (Hs.cons (Pick.there (Pick.there (Pick.there (Pick.there (Pick.there (Pick.there (Pick.there (Pick.there Pick.here)))))))) (Hs.cons (Pick.there (Pick.there (Pick.there (Pick.there (Pick.there (Pick.there (Pick.there (Pick.there Pick.here)))))))) (Hs.cons (Pick.there (Pick.there (Pick.there (Pick.there (Pick.there (Pick.there (Pick.there (Pick.there Pick.here)))))))) (Hs.cons (Pick.there (Pick.there (Pick.there (Pick.there (Pick.there (Pick.there (Pick.there (Pick.there Pick.here)))))))) (Hs.refl _)))))))))))))))))
  rintro ⟨⟨mx, jx⟩, ⟨my, jy, ly⟩, ⟨mz, jz, lz⟩, ⟨bm, ⟨a, c⟩, ⟨pa, pc⟩⟩, ⟨bn, ⟨a', c'⟩, ⟨pa', pc'⟩⟩, ⟨bo, ⟨a2, c2⟩, ⟨pa2, pc2⟩⟩⟩ ⟨-, hy, hz, hen, -⟩
  dsimp only at hy hz hen ⊢
  have hmy := hy.mlen
  have hmz := hz.mlen
  have hm20 : min (K.length : Int) 20 = ((min K.length 20 : Nat) : Int) := by omega
  obtain ⟨K2, hK2⟩ : ∃ K2, K2 = K.take (min K.length 20) := ⟨_, rfl⟩
  have hK2l : K2.length = min K.length 20 := by rw [hK2, List.length_take]; omega
  have hsy : ∀ r ∈ ly, r.size ≤ 65536 := fun r h => Nat.le_trans (hy.sz r h) (by decide)
  have hsz : ∀ r ∈ lz, r.size ≤ 65536 := fun r h => Nat.le_trans (hz.sz r h) (by decide)
  obtain ⟨l3, k3, hl3, hop, -, hok3, hp3⟩ := hen.opens hsy hsz (by decide) (by decide) K2 torn
  obtain ⟨m3, hrp, hm3, hnd3, hml3⟩ : ∃ m3, replaysF [] l3 = some m3 ∧ (m3 = my ∨ m3 = mz) ∧ (m3.map Prod.fst).Nodup ∧ m3.length ≤ 15 := by
    rcases hl3 with rfl | rfl
    · exact ⟨my, hy.c.rep, .inl rfl, hy.c.nd, by omega⟩
    · exact ⟨mz, hz.c.rep, .inr rfl, hz.c.nd, by omega⟩
  have hl3l : l3.length ≤ 100000 ∧ ∀ r ∈ l3, r.size ≤ 65536 := by
    rcases hl3 with rfl | rfl
    · exact ⟨Nat.le_trans hy.len (by omega), hsy⟩
    · exact ⟨Nat.le_trans hz.len (by omega), hsz⟩
  have hrec := adds0_recs l3
  refine hwYY ?_
  refine HL.pa ?_ (POp.pre_any rfl rfl (by omega) (by omega))
  rw [hm20, Int.toNat_natCast, ← hK2l]
  refine hwYY ?_
  refine HL.one (H1.callk (α := Unit) (V := fun _ => zv 0) (I := fun _ => True) (H' := fun _ => dkH bd b1 b2 pa pc (jx.k.crash K2 torn) (cuH by_ bn bk be b3 b4 a' c' pa' pc' my jy (cuH bz bo bl bf b5 b6 a2 c2 pa2 pc2 mz jz []))) (vs := [_, _, _]) rfl rfl
    (fun w' hM => (crash_fn K2 torn ht1 ht2 (hM.sub (Hs.cons (Pick.there (Pick.there (Pick.there (Pick.there Pick.here)))) (Hs.cons (Pick.there (Pick.there (Pick.there (Pick.there Pick.here)))) (Hs.cons (Pick.there (Pick.there (Pick.there (Pick.there Pick.here)))) (Hs.cons (Pick.there (Pick.there (Pick.there (Pick.there Pick.here)))) (Hs.refl _).skip.skip.skip.skip))))) hen.ok hen.fits (by omega) (fun w2 hM2 => by
      have := (hK.ext hM2.ext).ipre (k := K2.length) (by omega)
      rw [hK2l, ← hK2] at this
      rw [hK2l]
      exact this)).mono fun v w2 h => ⟨(), trivial, h⟩) ?_)
  rintro - -
  generalize jx.k.crash K2 torn = k2 at hop hok3 hp3
  refine hwYY ?_
  refine HL.one (H1.callk (α := Nat × Nat × Nat × (Option Addr × Nat) × (Option Addr × Nat)) (V := fun z => .tuple #[.pointer (some ⟨z.1, 0, none⟩), zv 0]) (I := fun _ => True) (H' := fun z => cuH z.1 z.2.1 z.2.2.1 bd b1 b2 z.2.2.2.1.1 z.2.2.2.1.2 z.2.2.2.2.1 z.2.2.2.2.2 m3 ⟨adds t00 l3, k3, false⟩ (cuH by_ bn bk be b3 b4 a' c' pa' pc' my jy (cuH bz bo bl bf b5 b6 a2 c2 pa2 pc2 mz jz []))) (vs := [_]) rfl rfl
    (fun w' hM => (copen_F hG hE hC hM hok3 (by rw [hp3]; exact Nat.zero_le _) (.inl ⟨_, _, hop, by rw [hrec]; exact hl3l.1, by rw [hrec]; exact hl3l.2⟩)).mono fun v w2 h => by
      rw [hop] at h
      unfold copenP at h
      dsimp only at h
      rw [hrec, hrp] at h
      obtain ⟨z, h1, h2⟩ := h
      exact ⟨z, trivial, h1, h2⟩) ?_)
  rintro ⟨bw, bu, bv, ⟨a3, c3⟩, ⟨pa3, pc3⟩⟩ -
  dsimp only
  refine hwYY ?_
  refine HL.one (H1.callk (α := Bool) (V := fun z => .bool z) (I := fun z => m3 = my → z = true) (H' := fun _ => A.blk bw (cuC bu bv) 84 :: A.pm bu (liftP m3) :: A.blk bz (cuC bo bl) 84 :: A.pm bo (liftP mz) :: []) (vs := [_, _]) rfl rfl
    (fun w' hM => (same27_fn (H := A.blk bz (cuC bo bl) 84 :: A.pm bo (liftP mz) :: []) (hM.sub (Hs.cons Pick.here (Hs.cons Pick.here (Hs.cons (Pick.there (Pick.there (Pick.there (Pick.there (Pick.there (Pick.there Pick.here)))))) (Hs.cons (Pick.there (Pick.there (Pick.there (Pick.there (Pick.there (Pick.there Pick.here)))))) (Hs.cons (Pick.there (Pick.there (Pick.there (Pick.there (Pick.there (Pick.there (Pick.there (Pick.there (Pick.there (Pick.there (Pick.there (Pick.there Pick.here)))))))))))) (Hs.cons (Pick.there (Pick.there (Pick.there (Pick.there (Pick.there (Pick.there (Pick.there (Pick.there (Pick.there (Pick.there (Pick.there (Pick.there Pick.here)))))))))))) (Hs.refl _).skip.skip.skip.skip.skip.skip.skip.skip.skip.skip.skip.skip.skip.skip.skip.skip.skip.skip))))))) hnd3 hy.c.nd (by omega) (by omega)).mono fun v w2 ⟨z, h1, h2, h3⟩ => ⟨z, h1, h2, h3.sub (Hs.cons Pick.here (Hs.cons Pick.here (Hs.cons (Pick.there (Pick.there Pick.here)) (Hs.cons (Pick.there (Pick.there Pick.here)) (Hs.refl _).skip.skip))))⟩) ?_)
  intro z1 hz1
  cases z1 with
  | true =>
    refine hwYY ?_
    exact HX.ret1 rfl rfl fun w' hM => ⟨rfl, hM.ext⟩
  | false =>
    have hmz3 : m3 = mz := hm3.resolve_left fun h => by cases hz1 h
    refine hwYY ?_
    refine HL.one (H1.callk (α := Bool) (V := fun z => .bool z) (I := fun z => m3 = mz → z = true) (H' := fun _ => []) (vs := [_, _]) rfl rfl
      (fun w' hM => (same27_fn (H := []) hM hnd3 hz.c.nd (by omega) (by omega)).mono fun v w2 ⟨z, h1, h2, h3⟩ => ⟨z, h1, h2, h3.sub (Hs.nil _)⟩) ?_)
    intro z2 hz2
    obtain rfl := hz2 hmz3
    refine hwYY ?_
    exact HX.ret1 rfl rfl fun w' hM => ⟨rfl, hM.ext⟩
end Go.Sx

