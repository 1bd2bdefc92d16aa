/- Chapter 27: the law CustodianOthers: the walk. -/
import Derived.Test.YtionfblneloaiaaGreatDoorYT
namespace Go.Sx
open Go Go.Proofs Go.RowKit
theorem hwYU {G G2 : Prop} (x : G2) (hwq : Hold G2 → G := by
    intro hQq
    repeat' (first | refine HL.pa ?_ (POp.pneN rfl rfl) | refine HL.pa ?_ (POp.pnil1 rfl rfl) | refine HL.pa ?_ (POp.pnil0 rfl rfl) | refine HL.pa ?_ (POp.nilCheck rfl) | apply HL.fold | apply HA.fold | apply HL.nil | apply HX.n_then | apply HC.seq | apply HC.region | refine HL.pa ?_ | refine HL.ga rfl ?_ | refine HL.na rfl ?_ | refine HL.nu rfl rfl ?_ | apply HC.block | apply HC.skip | apply HC.exit | apply HC.ret | apply HX.e_block | refine HX.e_other rfl ?_ | apply HX.e_then | apply HX.e_again | apply HX.n_block | apply HX.r_then | apply HX.r_block | apply HX.r_again | refine HC.cond_yes rfl ?_ | refine HC.cond_no rfl ?_ | refine HL.one (H1.ldb rfl memA rfl rfl ?_) | refine HC.cond rfl (fun hc => ?_) (fun hc => ?_) | refine HC.cond_b rfl (fun hc => ?_) (fun hc => ?_))
    exact hQq.get) : G := hwq ⟨x⟩
theorem hnYU {G G2 : Prop} (x : G2) (hwq : Hold G2 → G := by
    intro hQq
    repeat' (first | refine HL.pa ?_ (POp.pneN rfl rfl) | refine HL.pa ?_ (POp.pnil1 rfl rfl) | refine HL.pa ?_ (POp.pnil0 rfl rfl) | refine HL.pa ?_ (POp.nilCheck rfl) | apply HL.fold | apply HA.fold | apply HL.nil | apply HX.n_then | apply HC.seq | apply HC.region | refine HL.pa ?_ | refine HL.ga rfl ?_ | refine HL.na rfl ?_ | refine HL.nu rfl rfl ?_ | apply HC.block | apply HC.skip | apply HC.exit | apply HC.ret | apply HX.e_block | refine HX.e_other rfl ?_ | apply HX.e_then | apply HX.e_again | apply HX.n_block | apply HX.r_then | apply HX.r_block | apply HX.r_again | refine HC.cond_yes rfl ?_ | refine HC.cond_no rfl ?_ | refine HL.one (H1.ldb rfl memA rfl rfl ?_))
    exact hQq.get) : G := hwq ⟨x⟩
theorem hbYU {G G2 : Prop} (x : G2) (hwq : Hold G2 → G := by
    intro hQq
    repeat' (first | refine HL.pa ?_ (POp.pneN rfl rfl) | refine HL.pa ?_ (POp.pnil1 rfl rfl) | refine HL.pa ?_ (POp.pnil0 rfl rfl) | refine HL.pa ?_ (POp.nilCheck rfl) | apply HL.fold | apply HA.fold | apply HL.nil | apply HX.n_then | apply HC.seq | apply HC.region | refine HL.pa ?_ | refine HL.ga rfl ?_ | refine HL.na rfl ?_ | refine HL.nu rfl rfl ?_ | apply HC.skip | apply HC.exit | apply HC.ret | apply HX.e_block | refine HX.e_other rfl ?_ | apply HX.e_then | apply HX.e_again | apply HX.n_block | apply HX.r_then | apply HX.r_block | apply HX.r_again | refine HC.cond_yes rfl ?_ | refine HC.cond_no rfl ?_ | refine HL.one (H1.ldb rfl memA rfl rfl ?_) | refine HC.cond rfl (fun hc => ?_) (fun hc => ?_) | refine HC.cond_b rfl (fun hc => ?_) (fun hc => ?_))
    exact hQq.get) : G := hwq ⟨x⟩
/-- Two custodians, of which the second has all but one object of the first. -/
structure OthI (o : Int) (i : Nat) (x y : PM × Jn × List ByteArray) : Prop where
  fx : DI i x.1 x.2.1 x.2.2
  fy : DI i y.1 y.2.1 y.2.2
  eq : y.1 = dropM x.1 o
theorem take_pk {l : List PK} {i : Nat} {p : PK} (h : l[i]? = some p) : l.take (i + 1) = l.take i ++ [p] := by rw [List.take_add_one, h]; rfl
attribute [local irreducible] WC WL WX POp Then Again Fn NX W1 WA WO QL RP RA Yld LoopAt HC HL HX HN H1 HA HO HQ HB HP A.blk A.grow A.rd A.obj A.mp AgainH CutH
attribute [local irreducible] A.pm A.mx A.mit sumS newK expB
set_option maxHeartbeats 4000000 in
theorem custodianOthers_fn {w : World} {ea ec : Addr} {a0 : Option Addr} {c0 : Nat} {ds : List DeedV} (hG : RoundG w) (hE : ErrG ea w) (hC : CErrG ec w) (hR : RdDeeds w a0 c0 ds) (hdl : ds.length ≤ 9223372036854775807) (o : Int) (ho1 : -9223372036854775808 ≤ o) (ho2 : o ≤ 9223372036854775807) :
    Fn Tryz.prog 4 #[.slice a0 ds.length c0, zv o] w fun v w' => v = .bool true ∧ Ext w w' := by
  have hpk := pk_lt o (n := 4) (by decide)
  obtain ⟨O, hO⟩ : ∃ O, O = 1 + pk o 4 := ⟨_, rfl⟩
  have hO4 : 1 ≤ O ∧ O ≤ 4 := by omega
  refine enterH (l := [_, _]) rfl Tryz.ntmps4 rfl ?_
  refine hwYU ?_
  refine HL.one (H1.callx (vs := []) rfl rfl (fun w' hM => sane27_fn (hG.ext hM.ext) (hE.ext hM.ext) (hC.ext hM.ext)) ?_)
  refine hwYU ?_
  refine HL.one (H1.callz (α := (Nat × Nat × Nat) × Nat × Nat × Nat × (Option Addr × Nat) × (Option Addr × Nat)) (V := fun z => .tuple #[.pointer (some ⟨z.2.1, 0, none⟩), .pointer (some ⟨z.1.1, 0, none⟩), .bool true])
    (Hn := fun z => cuH z.2.1 z.2.2.1 z.2.2.2.1 z.1.1 z.1.2.1 z.1.2.2 z.2.2.2.2.1.1 z.2.2.2.2.1.2 z.2.2.2.2.2.1 z.2.2.2.2.2.2 [] ⟨t00, newK 20000, false⟩ []) (I := fun _ => True) (vs := [zv 20000]) rfl rfl (fun w' hM => opened_fn (hG.ext hM.ext) (hE.ext hM.ext) (hC.ext hM.ext) 20000 (by decide) (by decide)) ?_)
  rintro ⟨⟨bd, b1, b2⟩, bx, bm, bj, ⟨a, c⟩, ⟨pa, pc⟩⟩ -
  dsimp only
  refine hwYU ?_
  refine HL.one (H1.callz (α := (Nat × Nat × Nat) × Nat × Nat × Nat × (Option Addr × Nat) × (Option Addr × Nat)) (V := fun z => .tuple #[.pointer (some ⟨z.2.1, 0, none⟩), .pointer (some ⟨z.1.1, 0, none⟩), .bool true])
    (Hn := fun z => cuH z.2.1 z.2.2.1 z.2.2.2.1 z.1.1 z.1.2.1 z.1.2.2 z.2.2.2.2.1.1 z.2.2.2.2.1.2 z.2.2.2.2.2.1 z.2.2.2.2.2.2 [] ⟨t00, newK 20000, false⟩ []) (I := fun _ => True) (vs := [zv 20000]) rfl rfl (fun w' hM => opened_fn (hG.ext hM.ext) (hE.ext hM.ext) (hC.ext hM.ext) 20000 (by decide) (by decide)) ?_)
  rintro ⟨⟨be, b3, b4⟩, by_, bn, bk, ⟨a', c'⟩, ⟨pa', pc'⟩⟩ -
  dsimp only
  refine hwYU ?_
  refine HL.one (H1.call0 (vs := [_, zv 4]) rfl rfl (fun w' _ => pick27_fn o 4 ho1 ho2 (by decide) w') ?_)
  refine hbYU ?_
  rw [← hO]
  repeat refine HC.seq ?_
  refine HC.cut (α := Nat × (PM × Jn × List ByteArray) × (PM × Jn × List ByteArray) × (Nat × (Option Addr × Nat) × (Option Addr × Nat)) × (Nat × (Option Addr × Nat) × (Option Addr × Nat)))
    (fun z => [(1, zv O), (5, .bool true), (6, .pointer (some ⟨bx, 0, none⟩)), (9, .pointer (some ⟨by_, 0, none⟩))])
    (fun z => cuH bx z.2.2.2.1.1 bj bd b1 b2 z.2.2.2.1.2.1.1 z.2.2.2.1.2.1.2 z.2.2.2.1.2.2.1 z.2.2.2.1.2.2.2 z.2.1.1 z.2.1.2.1 (cuH by_ z.2.2.2.2.1 bk be b3 b4 z.2.2.2.2.2.1.1 z.2.2.2.2.2.1.2 z.2.2.2.2.2.2.1 z.2.2.2.2.2.2.2 z.2.2.1.1 z.2.2.1.2.1 []))
    (fun z => OthI O 15 z.2.1 z.2.2.1) ?_ ?_
  · refine HC.block ?_
    refine HC.loop (α := Nat × (PM × Jn × List ByteArray) × (PM × Jn × List ByteArray) × (Nat × (Option Addr × Nat) × (Option Addr × Nat)) × (Nat × (Option Addr × Nat) × (Option Addr × Nat)))
      (fun z => [(0, .slice a0 ds.length c0), (1, zv O), (5, .bool true), (6, .pointer (some ⟨bx, 0, none⟩)), (9, .pointer (some ⟨by_, 0, none⟩)), (12, zv (z.1 : Int))])
      (fun z => cuH bx z.2.2.2.1.1 bj bd b1 b2 z.2.2.2.1.2.1.1 z.2.2.2.1.2.1.2 z.2.2.2.1.2.2.1 z.2.2.2.1.2.2.2 z.2.1.1 z.2.1.2.1 (cuH by_ z.2.2.2.2.1 bk be b3 b4 z.2.2.2.2.2.1.1 z.2.2.2.2.2.1.2 z.2.2.2.2.2.2.1 z.2.2.2.2.2.2.2 z.2.2.1.1 z.2.2.1.2.1 []))
      (fun z => z.1 ≤ 15 ∧ OthI O z.1 z.2.1 z.2.2.1) (fun z => 15 - z.1) (0, ([], ⟨t00, newK 20000, false⟩, []), ([], ⟨t00, newK 20000, false⟩, []), (bm, (a, c), (pa, pc)), (bn, (a', c'), (pa', pc'))) ⟨Nat.zero_le _, di0, di0, rfl⟩ esA (Hs.cons (Pick.there (Pick.there (Pick.there (Pick.there (Pick.there (Pick.there (Pick.there (Pick.there Pick.here)))))))) (Hs.cons (Pick.there (Pick.there (Pick.there (Pick.there (Pick.there (Pick.there (Pick.there (Pick.there Pick.here)))))))) (Hs.cons (Pick.there (Pick.there (Pick.there (Pick.there (Pick.there (Pick.there (Pick.there (Pick.there Pick.here)))))))) (Hs.cons (Pick.there (Pick.there (Pick.there (Pick.there (Pick.there (Pick.there (Pick.there (Pick.there Pick.here)))))))) (Hs.cons (Pick.there (Pick.there (Pick.there (Pick.there (Pick.there (Pick.there (Pick.there (Pick.there Pick.here)))))))) (Hs.cons (Pick.there (Pick.there (Pick.there (Pick.there (Pick.there (Pick.there (Pick.there (Pick.there Pick.here)))))))) (Hs.cons (Pick.there (Pick.there (Pick.there (Pick.there (Pick.there (Pick.there (Pick.there (Pick.there Pick.here)))))))) (Hs.cons (Pick.there (Pick.there (Pick.there (Pick.there (Pick.there (Pick.there (Pick.there (Pick.there Pick.here)))))))) (Hs.refl _))))))))) ?_
    rintro ⟨i, ⟨mx, jx, lx⟩, ⟨my, jy, ly⟩, ⟨bm, ⟨a, c⟩, ⟨pa, pc⟩⟩, ⟨bn, ⟨a', c'⟩, ⟨pa', pc'⟩⟩⟩ ⟨hi15, hI⟩
    dsimp only at hi15 hI ⊢
    obtain ⟨hx, hy, heq⟩ := hI
    dsimp only at hx hy heq
    by_cases hlt : i < ds.length ∧ i < 15
    rotate_left
    · have hx15 : DI 15 mx jx lx := ⟨hx.c, Nat.le_trans hx.len hi15, hx.sz⟩
      have hy15 : DI 15 my jy ly := ⟨hy.c, Nat.le_trans hy.len hi15, hy.sz⟩
      by_cases hin : i < ds.length
      · have hn8 : ¬ i < 15 := fun h => hlt ⟨hin, h⟩
        refine hwYU ?_
        exact HX.cut (i, (mx, jx, lx), (my, jy, ly), (bm, (a, c), (pa, pc)), (bn, (a', c'), (pa', pc'))) ⟨hx15, hy15, heq⟩ esA (Hs.refl _)
      · refine hwYU ?_
        exact HX.cut (i, (mx, jx, lx), (my, jy, ly), (bm, (a, c), (pa, pc)), (bn, (a', c'), (pa', pc'))) ⟨hx15, hy15, heq⟩ esA (Hs.refl _)
    obtain ⟨hlt, hl15⟩ := hlt
    have hq := hR.ok hlt
    obtain ⟨b, off, rfl, hbs, hcell⟩ : ∃ b off, a0 = some ⟨b, off, none⟩ ∧ b < w.heap.size ∧ ∀ (j : Nat) (u : Value), (deedC (deedAt ds i))[j]? = some u → w.cell? ⟨b, off + i * 5 + j, none⟩ = some u := by
      rcases hR.cells with h | ⟨b, off, h1, h2, h3⟩
      · rw [h] at hlt; cases hlt
      · exact ⟨b, off, h1, h2, h3 i hlt⟩
    generalize deedAt ds i = q at hq hcell
    have hc1 := hcell 1 (zv q.object) rfl
    obtain ⟨j2, hd1, hx2⟩ := hx.does q hi15
    obtain ⟨j3, hd2, hy2⟩ := hy.does q hi15
    have hjx := hx.jok (by omega)
    have hjy := hy.jok (by omega)
    have hmx := hx.mlen
    have hmy := hy.mlen
    have ho1' := hq.o1
    have ho2' := hq.o2
    have hpq := pk_lt q.object (n := 4) (by decide)
    refine hwYU ?_
    refine HL.one (H1.ldAggw (b := b) (off := off + i * 5) (vs := [zv q.kind, zv q.object, zv q.fragment, .string q.s, q.vk]) rfl rfl (fun w' hM j u hu => cell_ext hM.ext (hcell j u hu)) rfl ?_)
    refine hwYU ?_
    refine HL.one (H1.callk (α := Nat × (Option Addr × Nat) × (Option Addr × Nat)) (V := fun _ => zv 0) (I := fun _ => True) (H' := fun z => cuH bx z.1 bj bd b1 b2 z.2.1.1 z.2.1.2 z.2.2.1 z.2.2.2 (doM mx q) j2 (cuH by_ bn bk be b3 b4 a' c' pa' pc' my jy [])) (vs := [_, .agg [zv q.kind, zv q.object, zv q.fragment, .string q.s, q.vk].toArray]) rfl rfl
      (fun w' hM => does27_fn q hd1 hq hG hM hjx hx.c.nd (by omega)) ?_)
    rintro ⟨bm, ⟨a, c⟩, ⟨pa, pc⟩⟩ -
    dsimp only
    refine hwYU ?_
    refine HL.one (H1.ld0 rfl hc1 rfl ?_)
    refine hwYU ?_
    refine HL.one (H1.call0 (vs := [_, zv 4]) rfl rfl (fun w' _ => pick27_fn q.object 4 ho1' ho2' (by decide) w') ?_)
    refine hnYU ?_
    by_cases hqo : objD q = O
    · have hqo2 : 1 + pk q.object 4 = O := hqo
      refine hwYU ?_
      exact HX.again (i + 1, (doM mx q, j2, lx ++ doR mx q), (my, jy, ly), (bm, (a, c), (pa, pc)), (bn, (a', c'), (pa', pc'))) ⟨hl15, hx2, hy.more, by rw [doM_own hqo]; exact heq⟩ (by show 15 - (i + 1) < 15 - i; omega) esA (Hs.refl _)
    · have hqo2 : ¬ 1 + pk q.object 4 = O := hqo
      have hqo3 : ¬ O = 1 + pk q.object 4 := fun h => hqo2 h.symm
      refine hwYU ?_
      refine HL.one (H1.ldAggw (b := b) (off := off + i * 5) (vs := [zv q.kind, zv q.object, zv q.fragment, .string q.s, q.vk]) rfl rfl (fun w' hM j u hu => cell_ext hM.ext (hcell j u hu)) rfl ?_)
      refine hwYU ?_
      refine HL.one (H1.callk (α := Nat × (Option Addr × Nat) × (Option Addr × Nat)) (V := fun _ => zv 0) (I := fun _ => True) (H' := fun z => cuH by_ z.1 bk be b3 b4 z.2.1.1 z.2.1.2 z.2.2.1 z.2.2.2 (doM my q) j3 (cuH bx bm bj bd b1 b2 a c pa pc (doM mx q) j2 [])) (vs := [_, .agg [zv q.kind, zv q.object, zv q.fragment, .string q.s, q.vk].toArray]) rfl rfl
        (fun w' hM => does27_fn q hd2 hq hG (hM.sub (Hs.cons (Pick.there (Pick.there (Pick.there (Pick.there (Pick.there (Pick.there (Pick.there (Pick.there Pick.here)))))))) (Hs.cons (Pick.there (Pick.there (Pick.there (Pick.there (Pick.there (Pick.there (Pick.there (Pick.there Pick.here)))))))) (Hs.cons (Pick.there (Pick.there (Pick.there (Pick.there (Pick.there (Pick.there (Pick.there (Pick.there Pick.here)))))))) (Hs.cons (Pick.there (Pick.there (Pick.there (Pick.there (Pick.there (Pick.there (Pick.there (Pick.there Pick.here)))))))) (Hs.cons (Pick.there (Pick.there (Pick.there (Pick.there (Pick.there (Pick.there (Pick.there (Pick.there Pick.here)))))))) (Hs.cons (Pick.there (Pick.there (Pick.there (Pick.there (Pick.there (Pick.there (Pick.there (Pick.there Pick.here)))))))) (Hs.cons (Pick.there (Pick.there (Pick.there (Pick.there (Pick.there (Pick.there (Pick.there (Pick.there Pick.here)))))))) (Hs.cons (Pick.there (Pick.there (Pick.there (Pick.there (Pick.there (Pick.there (Pick.there (Pick.there Pick.here)))))))) (Hs.refl _)))))))))) hjy hy.c.nd (by omega)) ?_)
      rintro ⟨bn, ⟨a', c'⟩, ⟨pa', pc'⟩⟩ -
      dsimp only
      refine hwYU ?_
      exact HX.again (i + 1, (doM mx q, j2, lx ++ doR mx q), (doM my q, j3, ly ++ doR my q), (bm, (a, c), (pa, pc)), (bn, (a', c'), (pa', pc'))) ⟨hl15, hx2, hy2, by rw [doM_other hqo]; dsimp only; rw [heq]⟩ (by show 15 - (i + 1) < 15 - i; omega) esA (Hs.cons (Pick.there (Pick.there (Pick.there (Pick.there (Pick.there (Pick.there (Pick.there (Pick.there Pick.here)))))))) (Hs.cons (Pick.there (Pick.there (Pick.there (Pick.there (Pick.there (Pick.there (Pick.there (Pick.there Pick.here)))))))) (Hs.cons (Pick.there (Pick.there (Pick.there (Pick.there (Pick.there (Pick.there (Pick.there (Pick.there Pick.here)))))))) (Hs.cons (Pick.there (Pick.there (Pick.there (Pick.there (Pick.there (Pick.there (Pick.there (Pick.there Pick.here)))))))) (Hs.cons (Pick.there (Pick.there (Pick.there (Pick.there (Pick.there (Pick.there (Pick.there (Pick.there Pick.here)))))))) (Hs.cons (Pick.there (Pick.there (Pick.there (Pick.there (Pick.there (Pick.there (Pick.there (Pick.there Pick.here)))))))) (Hs.cons (Pick.there (Pick.there (Pick.there (Pick.there (Pick.there (Pick.there (Pick.there (Pick.there Pick.here)))))))) (Hs.cons (Pick.there (Pick.there (Pick.there (Pick.there (Pick.there (Pick.there (Pick.there (Pick.there Pick.here)))))))) (Hs.refl _)))))))))
  rintro ⟨n9, ⟨mx, jx, lx⟩, ⟨my, jy, ly⟩, ⟨bm, ⟨a, c⟩, ⟨pa, pc⟩⟩, ⟨bn, ⟨a', c'⟩, ⟨pa', pc'⟩⟩⟩ ⟨hx, hy, heq⟩
  dsimp only at hx hy heq ⊢
  have hjx := hx.jok (by omega)
  have hmx := hx.mlen
  have hmy := hy.mlen
  refine hwYU ?_
  refine HL.one (H1.callk (α := List PK × Option Addr × Nat) (V := fun z => .slice z.2.1 z.1.length z.2.2) (I := fun z => SortedP z.1 mx)
    (H' := fun z => A.grow 43 2 z.2.1 z.2.2 z.1.length (pcl z.1) :: A.blk bx (cuC bm bj) 84 :: A.pm bm (liftP mx) :: jnlH bj bd b1 b2 a c pa pc jx (cuH by_ bn bk be b3 b4 a' c' pa' pc' my jy [])) (vs := [_]) rfl rfl
    (fun w' hM => holds27_fn hM hx.c.nd (by omega)) ?_)
  rintro ⟨l, a9, c9⟩ hS
  dsimp only at hS ⊢
  have hll := hS.1.length_eq
  rw [List.length_map] at hll
  refine hbYU ?_
  repeat refine HC.seq ?_
  refine HC.cut (α := Unit) (fun _ => [(1, zv O), (5, .bool true), (6, .pointer (some ⟨bx, 0, none⟩)), (9, .pointer (some ⟨by_, 0, none⟩)), (14, zv ((ownC O l : Nat) : Int))]) (fun _ => cuH bx bm bj bd b1 b2 a c pa pc mx jx (cuH by_ bn bk be b3 b4 a' c' pa' pc' my jy [])) (fun _ => True) ?_ ?_
  · refine HC.block ?_
    refine HC.loop (α := Nat) (fun i => [(1, zv O), (5, .bool true), (6, .pointer (some ⟨bx, 0, none⟩)), (9, .pointer (some ⟨by_, 0, none⟩)), (14, zv ((ownC O (l.take i) : Nat) : Int)), (15, .slice a9 l.length c9), (16, zv (i : Int))]) (fun _ => A.grow 43 2 a9 c9 l.length (pcl l) :: cuH bx bm bj bd b1 b2 a c pa pc mx jx (cuH by_ bn bk be b3 b4 a' c' pa' pc' my jy [])) (fun i => i ≤ l.length) (fun i => l.length - i) 0 (Nat.zero_le _) esA (Hs.refl _) ?_
    intro i hi
    have hoc := ownC_le O (l.take i)
    rw [List.length_take] at hoc
    by_cases hlt : i < l.length
    · obtain ⟨p, hp9⟩ : ∃ p, l[i]? = some p := ⟨_, List.getElem?_eq_getElem hlt⟩
      have hg1 : (pcl l)[i * 2]? = some (zv p.1) := pcl_get hp9 0 _ rfl
      have hsn := ownC_snoc (o := O) (l.take i) p
      rw [← take_pk hp9] at hsn
      refine HC.openg (e := 43) (sz := 2) (a := a9) (c := c9) (n := l.length) (xs := pcl l) (.head _) (by omega) ?_
      rintro g rfl
      refine hwYU ?_
      refine HL.one (H1.ldg (b := g) (e := 43) (sz := 2) rfl memA hg1 rfl ?_)
      by_cases hpo : p.1 = O
      · rw [if_pos hpo] at hsn
        refine hwYU ?_
        exact HX.again (i + 1) hlt (by show l.length - (i + 1) < l.length - i; omega) ⟨rfl, rfl, rfl, rfl, by rw [hsn]; rfl, rfl, rfl, trivial⟩ (Hs.refl _)
      · rw [if_neg hpo] at hsn
        refine hwYU ?_
        exact HX.again (i + 1) hlt (by show l.length - (i + 1) < l.length - i; omega) ⟨rfl, rfl, rfl, rfl, by rw [hsn]; rfl, rfl, rfl, trivial⟩ (Hs.refl _)
    · obtain rfl : i = l.length := by omega
      rw [List.take_length]
      refine hwYU ?_
      exact HX.cut () trivial esA (Hs.refl _).skip
  rintro - -
  have hown := hS.ownC O
  have hOq : objD ⟨5, o, 0, ByteArray.mk #[], [], undef⟩ = O := hO.symm
  obtain ⟨j4, l4, hdr, hx4⟩ := hx.drop ⟨5, o, 0, ByteArray.mk #[], [], undef⟩ (Nat.le_refl _)
  rw [hOq] at hdr hx4
  have hon : (mx.length : Int) - ((dropM mx O).length : Int) = ((ownC O l : Nat) : Int) := by omega
  rw [hon] at hdr
  refine hwYU ?_
  refine HL.one (H1.callk (α := Nat × (Option Addr × Nat) × (Option Addr × Nat)) (V := fun _ => .tuple #[zv ((ownC O l : Nat) : Int), zv 0]) (I := fun _ => True) (H' := fun q => cuH bx q.1 bj bd b1 b2 q.2.1.1 q.2.1.2 q.2.2.1 q.2.2.2 (dropM mx O) j4 (cuH by_ bn bk be b3 b4 a' c' pa' pc' my jy [])) (vs := [_, zv O]) rfl rfl
    (fun w' hM => by
      have h := cdrop_fn O hG hM hjx hx.c.nd (by omega)
      rw [hdr] at h
      exact h) ?_)
  rintro ⟨bm, ⟨a, c⟩, ⟨pa, pc⟩⟩ -
  dsimp only
  have hml4 := hx4.mlen
  refine hwYU ?_
  refine HL.one (H1.callk (α := Bool) (V := fun z => .bool z) (I := fun z => dropM mx O = my → z = true) (H' := fun _ => []) (vs := [_, _]) rfl rfl
    (fun w' hM => (same27_fn (H := []) (hM.sub (Hs.cons Pick.here (Hs.cons Pick.here (Hs.cons (Pick.there (Pick.there (Pick.there (Pick.there (Pick.there (Pick.there Pick.here)))))) (Hs.cons (Pick.there (Pick.there (Pick.there (Pick.there (Pick.there (Pick.there Pick.here)))))) (Hs.refl _).skip.skip.skip.skip.skip.skip.skip.skip.skip.skip.skip.skip))))) hx4.c.nd hy.c.nd (by omega) (by omega)).mono fun v w2 ⟨z, h1, h2, h3⟩ => ⟨z, h1, h2, h3.sub (Hs.nil _)⟩) ?_)
  intro z hz
  obtain rfl := hz heq.symm
  refine hwYU ?_
  exact HX.ret1 rfl rfl fun w' hM => ⟨rfl, hM.ext⟩
end Go.Sx

