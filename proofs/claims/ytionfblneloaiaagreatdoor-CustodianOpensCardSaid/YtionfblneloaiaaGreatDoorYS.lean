/- Chapter 27: the law CustodianOpens: the walk. -/
import Derived.Test.YtionfblneloaiaaGreatDoorYL
namespace Go.Sx
open Go Go.Proofs Go.RowKit
theorem hwYS {G G2 : Prop} (x : G2) (hwq : Hold G2 → G := by
    intro hQq
    repeat' (first | refine HL.pa ?_ (POp.pneN rfl rfl) | refine HL.pa ?_ (POp.pnil1 rfl rfl) | refine HL.pa ?_ (POp.pnil0 rfl rfl) | refine HL.pa ?_ (POp.nilCheck rfl) | apply HL.fold | apply HA.fold | apply HL.nil | apply HX.n_then | apply HC.seq | apply HC.region | refine HL.pa ?_ | refine HL.ga rfl ?_ | refine HL.na rfl ?_ | refine HL.nu rfl rfl ?_ | apply HC.block | apply HC.skip | apply HC.exit | apply HC.ret | apply HX.e_block | refine HX.e_other rfl ?_ | apply HX.e_then | apply HX.e_again | apply HX.n_block | apply HX.r_then | apply HX.r_block | apply HX.r_again | refine HC.cond_yes rfl ?_ | refine HC.cond_no rfl ?_ | refine HL.one (H1.ldb rfl memA rfl rfl ?_) | refine HC.cond rfl (fun hc => ?_) (fun hc => ?_) | refine HC.cond_b rfl (fun hc => ?_) (fun hc => ?_))
    exact hQq.get) : G := hwq ⟨x⟩
attribute [local irreducible] WC WL WX POp Then Again Fn NX W1 WA WO QL RP RA Yld LoopAt HC HL HX HN H1 HA HO HQ HB HP A.blk A.grow A.rd A.obj A.mp AgainH CutH
attribute [local irreducible] A.pm A.mx A.mit sumS newK expB
set_option maxHeartbeats 4000000 in
theorem custodianOpens_fn {w : World} {ea ec : Addr} (hG : RoundG w) (hE : ErrG ea w) (hC : CErrG ec w) (s : ByteArray) (hs : s.size ≤ 9223372036854775807) :
    Fn Tryz.prog 5 #[.string s] w fun v w' => v = .bool true ∧ Ext w w' := by
  obtain ⟨S, hS⟩ : ∃ S, S = cutS 300 s := ⟨_, rfl⟩
  have hS3 : S.size ≤ 300 := by rw [hS]; exact cutS_size 300 s
  obtain ⟨k, hw, hk, hp, hop⟩ := written27 S hS3
  refine enterH (l := [_]) rfl Tryz.ntmps5 rfl ?_
  refine hwYS ?_
  refine HL.one (H1.callx (vs := []) rfl rfl (fun w' hM => sane27_fn (hG.ext hM.ext) (hE.ext hM.ext) (hC.ext hM.ext)) ?_)
  refine hwYS ?_
  refine HL.one (H1.callz (vs := [zv ((400 : Nat) : Int)]) rfl rfl (fun w' hM => new_fn 400 (by decide) (by decide) w') ?_)
  rintro ⟨bd, b1, b2⟩ -
  dsimp only
  refine hwYS ?_
  refine HL.one (H1.call0 (vs := [_, zv ((300 : Nat) : Int)]) rfl rfl (fun w' hM => cut27_fn s 300 hs w') ?_)
  rw [← hS]
  refine hwYS ?_
  refine HL.one (H1.callk (α := Option Addr × Nat) (V := fun _ => zv 0) (I := fun _ => True) (H' := fun q => dkH bd b1 b2 q.1 q.2 k []) (vs := [_, zv ((0 : Nat) : Int), .string S]) rfl rfl
    (fun w' hM => by
      have h := write_fn (k := newK 400) 0 S hM (newK_ok (by decide) (by decide)) (by decide) (by omega)
      rw [hw] at h
      exact h) ?_)
  rintro ⟨pa, pc⟩ -
  dsimp only
  refine hwYS ?_
  rcases hop with ⟨k', hop⟩ | ⟨t, k', hop, hT, htl, -, -⟩
  · refine HL.one (H1.callk (α := Option Addr × Nat) (V := fun _ => .tuple #[.pointer none, zv 262]) (I := fun _ => True) (H' := fun q => dkH bd b1 b2 q.1 q.2 k' []) (vs := [_]) rfl rfl
      (fun w' hM => (copen_F hG hE hC hM hk hp (.inr ⟨262, k', hop, by decide⟩)).mono fun v w2 h => by
        rw [hop] at h
        unfold copenP at h
        obtain ⟨q, h1, h2⟩ := h
        exact ⟨q, trivial, h1, h2⟩) ?_)
    rintro ⟨pa, pc⟩ -
    dsimp only
    refine hwYS ?_
    exact HX.ret1 rfl rfl fun w' hM => ⟨rfl, hM.ext⟩
  have hrl : t.recs.length ≤ 400 := by have := hT.len; omega
  have hF := fun w' hM => copen_F (w0 := w) (w := w') (H := []) (bd := bd) (b1 := b1) (b2 := b2) (pc := pc) (pa := pa) hG hE hC hM hk hp (.inl ⟨t, k', hop, by omega, hT.sz⟩)
  rw [hop] at hF
  unfold copenP at hF
  dsimp only at hF
  cases hrp : replaysF [] t.recs with
  | none =>
    rw [hrp] at hF
    dsimp only at hF
    refine HL.one (H1.callk (α := Option Addr × Nat) (V := fun _ => .tuple #[.pointer none, zv 270]) (I := fun _ => True) (H' := fun q => dkH bd b1 b2 q.1 q.2 k' []) (vs := [_]) rfl rfl
      (fun w' hM => (hF w' hM).mono fun v w2 ⟨q, h1, h2⟩ => ⟨q, trivial, h1, h2⟩) ?_)
    rintro ⟨pa, pc⟩ -
    dsimp only
    refine hwYS ?_
    exact HX.ret1 rfl rfl fun w' hM => ⟨rfl, hM.ext⟩
  | some m =>
    rw [hrp] at hF
    dsimp only at hF
    obtain ⟨hg, hnd, hml⟩ := replays_good _ hrp (fun _ h => by cases h) List.nodup_nil
    have hml4 : m.length ≤ 400 := by
      have : m.length ≤ 0 + t.recs.length := hml
      omega
    clear hF
    refine HL.one (H1.callk (α := Nat × Nat × Nat × (Option Addr × Nat) × (Option Addr × Nat)) (V := fun z => .tuple #[.pointer (some ⟨z.1, 0, none⟩), zv 0]) (I := fun _ => True) (H' := fun z => cuH z.1 z.2.1 z.2.2.1 bd b1 b2 z.2.2.2.1.1 z.2.2.2.1.2 z.2.2.2.2.1 z.2.2.2.2.2 m ⟨t, k', false⟩ []) (vs := [_]) rfl rfl
      (fun w' hM => (copen_F (w0 := w) (w := w') (H := []) (bd := bd) (b1 := b1) (b2 := b2) (pc := pc) (pa := pa) hG hE hC hM hk hp (.inl ⟨t, k', hop, by omega, hT.sz⟩)).mono fun v w2 h => by
        rw [hop] at h
        unfold copenP at h
        dsimp only at h
        rw [hrp] at h
        obtain ⟨z, h1, h2⟩ := h
        exact ⟨z, trivial, h1, h2⟩) ?_)
    rintro ⟨bx, bm, bj, ⟨a, c⟩, ⟨pa, pc⟩⟩ -
    dsimp only
    refine hwYS ?_
    refine HL.one (H1.callk (α := List PK × Option Addr × Nat) (V := fun z => .slice z.2.1 z.1.length z.2.2) (I := fun z => SortedP z.1 m)
      (H' := fun z => A.grow 43 2 z.2.1 z.2.2 z.1.length (pcl z.1) :: A.blk bx (cuC bm bj) 84 :: A.pm bm (liftP m) :: []) (vs := [_]) rfl rfl
      (fun w' hM => holds27_fn (H := []) (hM.sub (Hs.cons Pick.here (Hs.cons Pick.here (Hs.refl _).skip.skip.skip.skip.skip.skip))) hnd (by omega)) ?_)
    rintro ⟨l, a9, c9⟩ hS9
    dsimp only at hS9 ⊢
    have hll := hS9.1.length_eq
    rw [List.length_map] at hll
    refine hwYS ?_
    refine HC.loop (α := Nat) (fun i => [(3, .bool true), (6, .pointer (some ⟨bx, 0, none⟩)), (8, .slice a9 l.length c9), (9, zv (i : Int))]) (fun _ => A.grow 43 2 a9 c9 l.length (pcl l) :: A.blk bx (cuC bm bj) 84 :: A.pm bm (liftP m) :: []) (fun i => i ≤ l.length) (fun i => l.length - i) 0 (Nat.zero_le _) esA (Hs.refl _) ?_
    intro i hi
    by_cases hlt : i < l.length
    · obtain ⟨p, hp9⟩ : ∃ p, l[i]? = some p := ⟨_, List.getElem?_eq_getElem hlt⟩
      have hg1 : (pcl l)[i * 2]? = some (zv p.1) := pcl_get hp9 0 _ rfl
      have hg2 : (pcl l)[i * 2 + 1]? = some (zv p.2) := pcl_get hp9 1 _ rfl
      obtain ⟨u, hu, hmu⟩ := hS9.get (List.mem_of_getElem? hp9)
      obtain ⟨⟨k1, k2, k3, k4⟩, k5⟩ := hg _ hmu
      dsimp only at k1 k2 k3 k4 k5
      have hfv := fetchV_some hu
      refine HC.openg (e := 43) (sz := 2) (a := a9) (c := c9) (n := l.length) (xs := pcl l) (.head _) (by omega) ?_
      rintro g rfl
      refine hwYS ?_
      refine HC.anyC ([(⟨g, i * 2, none⟩, zv p.1), (⟨g, i * 2 + 1, none⟩, zv p.2)]) rfl ?_
      refine HB.pa 0 rfl ?_
      refine HB.pa 1 rfl ?_
      refine HB.pa 2 rfl ?_
      refine HB.pa 3 rfl ?_
      refine HB.pa 4 rfl ?_
      refine HB.ld 5 rfl rfl memD ?_
      refine HB.pa 6 rfl ?_
      refine HB.pa 7 rfl ?_
      refine HB.pa 8 rfl ?_
      refine HB.pa 9 rfl ?_
      refine HB.ld 10 rfl rfl memD ?_
      refine HB.all (by (exact Keep.grow (b := g) (e := 43) (sz := 2) memD hg1 (Keep.grow (b := g) (e := 43) (sz := 2) memD hg2 Keep.nil))) [11] (by kernel_rfl) rfl ⟨⟨_, rfl, ?_⟩, trivial⟩
      refine HP.one ?_
      refine H1.callk (α := Unit) (V := fun _ => .tuple #[.string u, zv 0]) (I := fun _ => True) (H' := fun _ => A.blk bx (cuC bm bj) 84 :: A.pm bm (liftP m) :: [A.grow 43 2 (some ⟨g, 0, none⟩) c9 l.length (pcl l)]) (vs := [_, zv p.1, zv p.2]) rfl rfl
          (fun w' hM => by
            have h := fetch_fn p (hM.sub (Hs.cons (Pick.there Pick.here) (Hs.cons (Pick.there Pick.here) (Hs.cons Pick.here (Hs.refl _)))))
            rw [hfv] at h
            exact h) ?_
      rintro - -
      apply HB.fold
      refine HB.pa 12 rfl ?_
      refine HB.pa 13 rfl ?_
      refine HB.pa 14 rfl ?_
      refine HB.pa 15 rfl ?_
      refine HB.pa 16 rfl ?_
      refine HB.done (by (exact Keep.grow (b := g) (e := 43) (sz := 2) memD hg1 (Keep.grow (b := g) (e := 43) (sz := 2) memD hg2 Keep.nil))) (by kernel_rfl) ?_
      refine hwYS ?_
      refine HL.one (H1.ldg (b := g) (e := 43) (sz := 2) rfl memA hg1 rfl ?_)
      refine hwYS ?_
      refine HL.one (H1.ldg (b := g) (e := 43) (sz := 2) rfl memA hg1 rfl ?_)
      refine hwYS ?_
      refine HL.one (H1.ldg (b := g) (e := 43) (sz := 2) rfl memA hg2 rfl ?_)
      refine hwYS ?_
      refine HL.one (H1.ldg (b := g) (e := 43) (sz := 2) rfl memA hg2 rfl ?_)
      refine hwYS ?_
      exact HX.again (i + 1) hlt (by show l.length - (i + 1) < l.length - i; omega) esA (Hs.cons (Pick.there (Pick.there Pick.here)) (Hs.cons Pick.here (Hs.cons Pick.here (Hs.refl _))))
    · obtain rfl : i = l.length := by omega
      refine hwYS ?_
      exact HX.ret1 rfl rfl fun w' hM => ⟨rfl, hM.ext⟩
end Go.Sx

