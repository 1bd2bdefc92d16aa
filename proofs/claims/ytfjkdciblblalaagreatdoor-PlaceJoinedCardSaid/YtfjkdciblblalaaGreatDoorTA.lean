/- Chapter 18: Best. -/
import Derived.Test.YtfjkdciblblalaaGreatDoorT9
namespace Go.Sx
open Go Go.Proofs Go.RowKit
theorem natI_range (n : Nat) : natI (List.range (n + 1)) = natI (List.range n) ++ [(n : Int)] := by rw [List.range_succ, natI_app]; rfl
theorem best_bad {S : List St} {d : Di} {k : Int} (h : ¬ (pvalid S d = true ∧ 1 ≤ k ∧ k ≤ 9)) : best S d k = none := by unfold best; rw [if_neg h]
theorem best_ok {S : List St} {d : Di} {k : Int} (h : pvalid S d = true ∧ 1 ≤ k ∧ k ≤ 9) : best S d k = bestFrom S d k (S.length + 1 - k.toNat) k.toNat := by unfold best; rw [if_pos h]
def bestL (o : Option (List Nat)) : List Nat := o.getD []
def bestE (o : Option (List Nat)) : Int := match o with | some _ => 0 | none => 180
theorem HX.pureOf {N : Nat} {ds : List Deferred} {Q : Post} {E : Env} {w0 : World} {H : List Atom} {e : Exit} {p : Prop} (hm : A.pure p ∈ H) (h : p → HX N ds e Q E w0 H) : HX N ds e Q E w0 H := fun w hM => h (hM.pureE hm) w hM
attribute [local irreducible] WC WL WX POp Then Again Fn NX W1 WA WO QL RP RA Yld LoopAt HC HL HX HN H1 HA HO HQ HB HP A.blk A.grow A.rd A.obj A.mp AgainH CutH
attribute [local irreducible] A.mq A.mit A.dfrs A.loop mapsA A.land A.pure chk
set_option maxHeartbeats 2000000 in
theorem best_fn (v : Value) (S : List St) (d : Di) (k : Int) (hS : S.length ≤ 100000) (w : World) (hT : RdS w v S) :
    Fn Tryz.prog 33 #[v, .agg d.cells.toArray, zv k] w fun x w' => ∃ z : Option Addr × Nat, True ∧ x = .tuple #[.slice z.1 (bestL (best S d k)).length z.2, zv (bestE (best S d k))] ∧ Mm w [A.grow 3 1 z.1 z.2 (bestL (best S d k)).length (ints (natI (bestL (best S d k))))] w' := by
  obtain ⟨a, c, rfl, hc⟩ := hT.shape
  refine enterN (l := [_, _, _]) (Mm.refl w) rfl Tryz.ntmps33 rfl ?_
  refine HC.dfrs0 ?_
  repeat' (first | apply HL.fold | apply HA.fold | apply HL.nil | apply HX.n_then | apply HC.seq | apply HC.region | refine HL.pa ?_ | refine HL.ga rfl ?_ | refine HL.na rfl ?_ | refine HL.nu rfl rfl ?_ | apply HC.block | apply HC.skip | apply HC.exit | apply HC.ret | apply HX.e_block | refine HX.e_other rfl ?_ | apply HX.e_then | apply HX.e_again | apply HX.n_block | apply HX.r_then | apply HX.r_block | apply HX.r_again | refine HC.cond_yes rfl ?_ | refine HC.cond_no rfl ?_ | refine HL.one (H1.ldb rfl memA rfl rfl ?_) | refine HC.cond rfl (fun hc => ?_) (fun hc => ?_) | refine HC.cond_b rfl (fun hc => ?_) (fun hc => ?_))
  refine HL.one (H1.box rfl rfl rfl (fun b3 => ?_))
  repeat' (first | apply HL.fold | apply HA.fold | apply HL.nil | apply HX.n_then | apply HC.seq | apply HC.region | refine HL.pa ?_ | refine HL.ga rfl ?_ | refine HL.na rfl ?_ | refine HL.nu rfl rfl ?_ | apply HC.block | apply HC.skip | apply HC.exit | apply HC.ret | apply HX.e_block | refine HX.e_other rfl ?_ | apply HX.e_then | apply HX.e_again | apply HX.n_block | apply HX.r_then | apply HX.r_block | apply HX.r_again | refine HC.cond_yes rfl ?_ | refine HC.cond_no rfl ?_ | refine HL.one (H1.ldb rfl memA rfl rfl ?_) | refine HC.cond rfl (fun hc => ?_) (fun hc => ?_) | refine HC.cond_b rfl (fun hc => ?_) (fun hc => ?_))
  refine HL.one (H1.boxAgg (cs := d.cells) rfl rfl (fun b4 => ?_))
  repeat' (first | apply HL.fold | apply HA.fold | apply HL.nil | apply HX.n_then | apply HC.seq | apply HC.region | refine HL.pa ?_ | refine HL.ga rfl ?_ | refine HL.na rfl ?_ | refine HL.nu rfl rfl ?_ | apply HC.block | apply HC.skip | apply HC.exit | apply HC.ret | apply HX.e_block | refine HX.e_other rfl ?_ | apply HX.e_then | apply HX.e_again | apply HX.n_block | apply HX.r_then | apply HX.r_block | apply HX.r_again | refine HC.cond_yes rfl ?_ | refine HC.cond_no rfl ?_ | refine HL.one (H1.ldb rfl memA rfl rfl ?_) | refine HC.cond rfl (fun hc => ?_) (fun hc => ?_) | refine HC.cond_b rfl (fun hc => ?_) (fun hc => ?_))
  refine HL.one (H1.box rfl rfl rfl (fun b5 => ?_))
  repeat' (first | apply HL.fold | apply HA.fold | apply HL.nil | apply HX.n_then | apply HC.seq | apply HC.region | refine HL.pa ?_ | refine HL.ga rfl ?_ | refine HL.na rfl ?_ | refine HL.nu rfl rfl ?_ | apply HC.block | apply HC.skip | apply HC.exit | apply HC.ret | apply HX.e_block | refine HX.e_other rfl ?_ | apply HX.e_then | apply HX.e_again | apply HX.n_block | apply HX.r_then | apply HX.r_block | apply HX.r_again | refine HC.cond_yes rfl ?_ | refine HC.cond_no rfl ?_ | refine HL.one (H1.ldb rfl memA rfl rfl ?_) | refine HC.cond rfl (fun hc => ?_) (fun hc => ?_) | refine HC.cond_b rfl (fun hc => ?_) (fun hc => ?_))
  refine HL.one (H1.alloc (cs := [.slice none 0 0]) rfl rfl (fun b6 => ?_))
  repeat' (first | apply HL.fold | apply HA.fold | apply HL.nil | apply HX.n_then | apply HC.seq | apply HC.region | refine HL.pa ?_ | refine HL.ga rfl ?_ | refine HL.na rfl ?_ | refine HL.nu rfl rfl ?_ | apply HC.block | apply HC.skip | apply HC.exit | apply HC.ret | apply HX.e_block | refine HX.e_other rfl ?_ | apply HX.e_then | apply HX.e_again | apply HX.n_block | apply HX.r_then | apply HX.r_block | apply HX.r_again | refine HC.cond_yes rfl ?_ | refine HC.cond_no rfl ?_ | refine HL.one (H1.ldb rfl memA rfl rfl ?_) | refine HC.cond rfl (fun hc => ?_) (fun hc => ?_) | refine HC.cond_b rfl (fun hc => ?_) (fun hc => ?_))
  refine HL.one (H1.alloc (cs := [zv 0]) rfl rfl (fun b7 => ?_))
  repeat' (first | apply HL.fold | apply HA.fold | apply HL.nil | apply HX.n_then | apply HC.seq | apply HC.region | refine HL.pa ?_ | refine HL.ga rfl ?_ | refine HL.na rfl ?_ | refine HL.nu rfl rfl ?_ | apply HC.block | apply HC.skip | apply HC.exit | apply HC.ret | apply HX.e_block | refine HX.e_other rfl ?_ | apply HX.e_then | apply HX.e_again | apply HX.n_block | apply HX.r_then | apply HX.r_block | apply HX.r_again | refine HC.cond_yes rfl ?_ | refine HC.cond_no rfl ?_ | refine HL.one (H1.ldb rfl memA rfl rfl ?_) | refine HC.cond rfl (fun hc => ?_) (fun hc => ?_) | refine HC.cond_b rfl (fun hc => ?_) (fun hc => ?_))
  refine HL.one (H1.ldAgg (vs := d.cells) rfl memA rfl (fun i v hv => by rw [Nat.zero_add]; exact hv) rfl ?_)
  repeat' (first | apply HL.fold | apply HA.fold | apply HL.nil | apply HX.n_then | apply HC.seq | apply HC.region | refine HL.pa ?_ | refine HL.ga rfl ?_ | refine HL.na rfl ?_ | refine HL.nu rfl rfl ?_ | apply HC.block | apply HC.skip | apply HC.exit | apply HC.ret | apply HX.e_block | refine HX.e_other rfl ?_ | apply HX.e_then | apply HX.e_again | apply HX.n_block | apply HX.r_then | apply HX.r_block | apply HX.r_again | refine HC.cond_yes rfl ?_ | refine HC.cond_no rfl ?_ | refine HL.one (H1.ldb rfl memA rfl rfl ?_) | refine HC.cond rfl (fun hc => ?_) (fun hc => ?_) | refine HC.cond_b rfl (fun hc => ?_) (fun hc => ?_))
  refine HL.one (H1.callx (vs := [.slice a S.length c, .agg d.cells.toArray]) rfl rfl (fun w' hM => pvalid_fn _ S d (by omega) w' (hT.ext hM.ext)) ?_)
  cases hv : pvalid S d with
  | false =>
    have hbad : ¬ (pvalid S d = true ∧ 1 ≤ k ∧ k ≤ 9) := fun h => by have := h.1; rw [hv] at this; cases this
    repeat' (first | apply HL.fold | apply HA.fold | apply HL.nil | apply HX.n_then | apply HC.seq | apply HC.region | refine HL.pa ?_ | refine HL.ga rfl ?_ | refine HL.na rfl ?_ | refine HL.nu rfl rfl ?_ | apply HC.block | apply HC.skip | apply HC.exit | apply HC.ret | apply HX.e_block | refine HX.e_other rfl ?_ | apply HX.e_then | apply HX.e_again | apply HX.n_block | apply HX.r_then | apply HX.r_block | apply HX.r_again | refine HC.cond_yes rfl ?_ | refine HC.cond_no rfl ?_ | refine HL.one (H1.ldb rfl memA rfl rfl ?_) | refine HC.cond rfl (fun hc => ?_) (fun hc => ?_) | refine HC.cond_b rfl (fun hc => ?_) (fun hc => ?_))
    refine HL.one (H1.st rfl rfl (by intro _ h; cases h) (by intro _ h; cases h) rplA (by decide) ?_)
    repeat' (first | apply HL.fold | apply HA.fold | apply HL.nil | apply HX.n_then | apply HC.seq | apply HC.region | refine HL.pa ?_ | refine HL.ga rfl ?_ | refine HL.na rfl ?_ | refine HL.nu rfl rfl ?_ | apply HC.block | apply HC.skip | apply HC.exit | apply HC.ret | apply HX.e_block | refine HX.e_other rfl ?_ | apply HX.e_then | apply HX.e_again | apply HX.n_block | apply HX.r_then | apply HX.r_block | apply HX.r_again | refine HC.cond_yes rfl ?_ | refine HC.cond_no rfl ?_ | refine HL.one (H1.ldb rfl memA rfl rfl ?_) | refine HC.cond rfl (fun hc => ?_) (fun hc => ?_) | refine HC.cond_b rfl (fun hc => ?_) (fun hc => ?_))
    refine HL.one (H1.st rfl rfl (by intro _ h; cases h) (by intro _ h; cases h) rplA (by decide) ?_)
    repeat' (first | apply HL.fold | apply HA.fold | apply HL.nil | apply HX.n_then | apply HC.seq | apply HC.region | refine HL.pa ?_ | refine HL.ga rfl ?_ | refine HL.na rfl ?_ | refine HL.nu rfl rfl ?_ | apply HC.block | apply HC.skip | apply HC.exit | apply HC.ret | apply HX.e_block | refine HX.e_other rfl ?_ | apply HX.e_then | apply HX.e_again | apply HX.n_block | apply HX.r_then | apply HX.r_block | apply HX.r_again | refine HC.cond_yes rfl ?_ | refine HC.cond_no rfl ?_ | refine HL.one (H1.ldb rfl memA rfl rfl ?_) | refine HC.cond rfl (fun hc => ?_) (fun hc => ?_) | refine HC.cond_b rfl (fun hc => ?_) (fun hc => ?_))
    exact HX.retMsC2 (Ds := []) rfl rfl rfl (by repeat (first | exact Pick.here | apply Pick.there)) memA memA fun w' hM => ⟨(none, 0), trivial, by rw [best_bad hbad]; rfl, by rw [best_bad hbad]; exact (hM.sub (Hs.nil _)).grow0 _ _⟩
  | true =>
  repeat' (first | apply HL.fold | apply HA.fold | apply HL.nil | apply HX.n_then | apply HC.seq | apply HC.region | refine HL.pa ?_ | refine HL.ga rfl ?_ | refine HL.na rfl ?_ | refine HL.nu rfl rfl ?_ | apply HC.block | apply HC.skip | apply HC.exit | apply HC.ret | apply HX.e_block | refine HX.e_other rfl ?_ | apply HX.e_then | apply HX.e_again | apply HX.n_block | apply HX.r_then | apply HX.r_block | apply HX.r_again | refine HC.cond_yes rfl ?_ | refine HC.cond_no rfl ?_ | refine HL.one (H1.ldb rfl memA rfl rfl ?_) | refine HC.cond rfl (fun hc => ?_) (fun hc => ?_) | refine HC.cond_b rfl (fun hc => ?_) (fun hc => ?_))
  refine HL.one (H1.call0 (vs := [zv k, zv 1, zv 9]) rfl rfl (fun w' _ => pwithin_fn _ _ _ w') ?_)
  by_cases hk : 1 ≤ k ∧ k ≤ 9
  rotate_left
  · have hbad : ¬ (pvalid S d = true ∧ 1 ≤ k ∧ k ≤ 9) := fun h => hk h.2
    repeat' (first | apply HL.fold | apply HA.fold | apply HL.nil | apply HX.n_then | apply HC.seq | apply HC.region | refine HL.pa ?_ | refine HL.ga rfl ?_ | refine HL.na rfl ?_ | refine HL.nu rfl rfl ?_ | apply HC.block | apply HC.skip | apply HC.exit | apply HC.ret | apply HX.e_block | refine HX.e_other rfl ?_ | apply HX.e_then | apply HX.e_again | apply HX.n_block | apply HX.r_then | apply HX.r_block | apply HX.r_again | refine HC.cond_yes rfl ?_ | refine HC.cond_no rfl ?_ | refine HL.one (H1.ldb rfl memA rfl rfl ?_) | refine HC.cond rfl (fun hc => ?_) (fun hc => ?_) | refine HC.cond_b rfl (fun hc => ?_) (fun hc => ?_))
    refine HL.one (H1.st rfl rfl (by intro _ h; cases h) (by intro _ h; cases h) rplA (by decide) ?_)
    repeat' (first | apply HL.fold | apply HA.fold | apply HL.nil | apply HX.n_then | apply HC.seq | apply HC.region | refine HL.pa ?_ | refine HL.ga rfl ?_ | refine HL.na rfl ?_ | refine HL.nu rfl rfl ?_ | apply HC.block | apply HC.skip | apply HC.exit | apply HC.ret | apply HX.e_block | refine HX.e_other rfl ?_ | apply HX.e_then | apply HX.e_again | apply HX.n_block | apply HX.r_then | apply HX.r_block | apply HX.r_again | refine HC.cond_yes rfl ?_ | refine HC.cond_no rfl ?_ | refine HL.one (H1.ldb rfl memA rfl rfl ?_) | refine HC.cond rfl (fun hc => ?_) (fun hc => ?_) | refine HC.cond_b rfl (fun hc => ?_) (fun hc => ?_))
    refine HL.one (H1.st rfl rfl (by intro _ h; cases h) (by intro _ h; cases h) rplA (by decide) ?_)
    repeat' (first | apply HL.fold | apply HA.fold | apply HL.nil | apply HX.n_then | apply HC.seq | apply HC.region | refine HL.pa ?_ | refine HL.ga rfl ?_ | refine HL.na rfl ?_ | refine HL.nu rfl rfl ?_ | apply HC.block | apply HC.skip | apply HC.exit | apply HC.ret | apply HX.e_block | refine HX.e_other rfl ?_ | apply HX.e_then | apply HX.e_again | apply HX.n_block | apply HX.r_then | apply HX.r_block | apply HX.r_again | refine HC.cond_yes rfl ?_ | refine HC.cond_no rfl ?_ | refine HL.one (H1.ldb rfl memA rfl rfl ?_) | refine HC.cond rfl (fun hc => ?_) (fun hc => ?_) | refine HC.cond_b rfl (fun hc => ?_) (fun hc => ?_))
    exact HX.retMsC2 (Ds := []) rfl rfl rfl (by repeat (first | exact Pick.here | apply Pick.there)) memA memA fun w' hM => ⟨(none, 0), trivial, by rw [best_bad hbad]; rfl, by rw [best_bad hbad]; exact (hM.sub (Hs.nil _)).grow0 _ _⟩
  have hpv := pvalid_ok hv
  have hS9 := hpv.n9
  obtain ⟨kk, rfl⟩ : ∃ n : Nat, k = (n : Int) := ⟨k.toNat, by omega⟩
  have hbest := best_ok ⟨hv, hk⟩
  rw [Int.toNat_natCast] at hbest
  repeat' (first | apply HL.fold | apply HA.fold | apply HL.nil | apply HX.n_then | apply HC.seq | apply HC.region | refine HL.pa ?_ | refine HL.ga rfl ?_ | refine HL.na rfl ?_ | refine HL.nu rfl rfl ?_ | apply HC.skip | apply HC.exit | apply HC.ret | apply HX.e_block | refine HX.e_other rfl ?_ | apply HX.e_then | apply HX.e_again | apply HX.n_block | apply HX.r_then | apply HX.r_block | apply HX.r_again | refine HC.cond_yes rfl ?_ | refine HC.cond_no rfl ?_ | refine HL.one (H1.ldb rfl memA rfl rfl ?_) | refine HC.cond rfl (fun hc => ?_) (fun hc => ?_) | refine HC.cond_b rfl (fun hc => ?_) (fun hc => ?_))
  refine HC.grow0 3 1 ?_
  repeat' (first | apply HL.fold | apply HA.fold | apply HL.nil | apply HX.n_then | apply HC.seq | apply HC.region | refine HL.pa ?_ | refine HL.ga rfl ?_ | refine HL.na rfl ?_ | refine HL.nu rfl rfl ?_ | apply HC.skip | apply HC.exit | apply HC.ret | apply HX.e_block | refine HX.e_other rfl ?_ | apply HX.e_then | apply HX.e_again | apply HX.n_block | apply HX.r_then | apply HX.r_block | apply HX.r_again | refine HC.cond_yes rfl ?_ | refine HC.cond_no rfl ?_ | refine HL.one (H1.ldb rfl memA rfl rfl ?_) | refine HC.cond rfl (fun hc => ?_) (fun hc => ?_) | refine HC.cond_b rfl (fun hc => ?_) (fun hc => ?_))
  refine HC.cut (α := Option Addr × Nat) (fun z => [(3, .pointer (some ⟨b3, 0, none⟩)), (4, .pointer (some ⟨b4, 0, none⟩)), (5, .pointer (some ⟨b5, 0, none⟩)), (6, .pointer (some ⟨b6, 0, none⟩)), (7, .pointer (some ⟨b7, 0, none⟩)), (8, .slice z.1 S.length z.2)])
    (fun z => [A.grow 3 1 z.1 z.2 S.length (ints (natI (List.range S.length))), A.blk b7 [zv 0] 29, A.blk b6 [.slice none 0 0] 23, A.blk b5 [zv (kk : Int)] 3, A.blk b4 d.cells 48, A.blk b3 [.slice a S.length c] 46, A.dfrs []]) (fun _ => True) ?_ ?_
  · repeat' (first | apply HL.fold | apply HA.fold | apply HL.nil | apply HX.n_then | apply HC.seq | apply HC.region | refine HL.pa ?_ | refine HL.ga rfl ?_ | refine HL.na rfl ?_ | refine HL.nu rfl rfl ?_ | apply HC.block | apply HC.skip | apply HC.exit | apply HC.ret | apply HX.e_block | refine HX.e_other rfl ?_ | apply HX.e_then | apply HX.e_again | apply HX.n_block | apply HX.r_then | apply HX.r_block | apply HX.r_again | refine HC.cond_yes rfl ?_ | refine HC.cond_no rfl ?_ | refine HL.one (H1.ldb rfl memA rfl rfl ?_) | refine HC.cond rfl (fun hc => ?_) (fun hc => ?_) | refine HC.cond_b rfl (fun hc => ?_) (fun hc => ?_))
    refine HC.loop (α := Nat × Option Addr × Nat) (fun z => [(3, .pointer (some ⟨b3, 0, none⟩)), (4, .pointer (some ⟨b4, 0, none⟩)), (5, .pointer (some ⟨b5, 0, none⟩)), (6, .pointer (some ⟨b6, 0, none⟩)), (7, .pointer (some ⟨b7, 0, none⟩)), (8, .slice z.2.1 z.1 z.2.2), (24, zv (S.length : Int)), (25, zv (z.1 : Int))])
      (fun z => [A.grow 3 1 z.2.1 z.2.2 z.1 (ints (natI (List.range z.1))), A.blk b7 [zv 0] 29, A.blk b6 [.slice none 0 0] 23, A.blk b5 [zv (kk : Int)] 3, A.blk b4 d.cells 48, A.blk b3 [.slice a S.length c] 46, A.dfrs []]) (fun z => z.1 ≤ S.length) (fun z => S.length - z.1) (0, none, 0) (Nat.zero_le _) esA (by repeat (first | exact Hs.nil _ | (refine Hs.cons pickA ?_))) ?_
    rintro ⟨i, ar, cr⟩ hi
    dsimp only at hi ⊢
    by_cases hlt : i < S.length
    rotate_left
    · obtain rfl : i = S.length := by omega
      repeat' (first | apply HL.fold | apply HA.fold | apply HL.nil | apply HX.n_then | apply HC.seq | apply HC.region | refine HL.pa ?_ | refine HL.ga rfl ?_ | refine HL.na rfl ?_ | refine HL.nu rfl rfl ?_ | apply HC.block | apply HC.skip | apply HC.exit | apply HC.ret | apply HX.e_block | refine HX.e_other rfl ?_ | apply HX.e_then | apply HX.e_again | apply HX.n_block | apply HX.r_then | apply HX.r_block | apply HX.r_again | refine HC.cond_yes rfl ?_ | refine HC.cond_no rfl ?_ | refine HL.one (H1.ldb rfl memA rfl rfl ?_) | refine HC.cond rfl (fun hc => ?_) (fun hc => ?_) | refine HC.cond_b rfl (fun hc => ?_) (fun hc => ?_))
      exact HX.cut (ar, cr) trivial esA (by repeat (first | exact Hs.nil _ | (refine Hs.cons pickA ?_)))
    repeat' (first | apply HL.fold | apply HA.fold | apply HL.nil | apply HX.n_then | apply HC.seq | apply HC.region | refine HL.pa ?_ | refine HL.ga rfl ?_ | refine HL.na rfl ?_ | refine HL.nu rfl rfl ?_ | apply HC.block | apply HC.skip | apply HC.exit | apply HC.ret | apply HX.e_block | refine HX.e_other rfl ?_ | apply HX.e_then | apply HX.e_again | apply HX.n_block | apply HX.r_then | apply HX.r_block | apply HX.r_again | refine HC.cond_yes rfl ?_ | refine HC.cond_no rfl ?_ | refine HL.one (H1.ldb rfl memA rfl rfl ?_) | refine HC.cond rfl (fun hc => ?_) (fun hc => ?_) | refine HC.cond_b rfl (fun hc => ?_) (fun hc => ?_))
    refine HL.one (H1.lit (cs := [zv (i : Int)]) rfl rfl rfl rfl rfl rfl (fun b9 => ?_))
    repeat' (first | apply HL.fold | apply HA.fold | apply HL.nil | apply HX.n_then | apply HC.seq | apply HC.region | refine HL.pa ?_ | refine HL.ga rfl ?_ | refine HL.na rfl ?_ | refine HL.nu rfl rfl ?_ | apply HC.block | apply HC.skip | apply HC.exit | apply HC.ret | apply HX.e_block | refine HX.e_other rfl ?_ | apply HX.e_then | apply HX.e_again | apply HX.n_block | apply HX.r_then | apply HX.r_block | apply HX.r_again | refine HC.cond_yes rfl ?_ | refine HC.cond_no rfl ?_ | refine HL.one (H1.ldb rfl memA rfl rfl ?_) | refine HC.cond rfl (fun hc => ?_) (fun hc => ?_) | refine HC.cond_b rfl (fun hc => ?_) (fun hc => ?_))
    refine HL.one (H1.app1 (u := zv (i : Int)) rfl rfl (fun _ _ => by first | ((repeat (first | with_reducible exact Rpl.here | with_reducible apply Rpl.there)); done) | (repeat (first | exact Rpl.here | apply Rpl.there))) (by repeat (first | exact mem_hd | apply mem_tl)) rfl rfl (by omega) rfl rfl (fun a9 c9 => ?_))
    repeat' (first | apply HL.fold | apply HA.fold | apply HL.nil | apply HX.n_then | apply HC.seq | apply HC.region | refine HL.pa ?_ | refine HL.ga rfl ?_ | refine HL.na rfl ?_ | refine HL.nu rfl rfl ?_ | apply HC.block | apply HC.skip | apply HC.exit | apply HC.ret | apply HX.e_block | refine HX.e_other rfl ?_ | apply HX.e_then | apply HX.e_again | apply HX.n_block | apply HX.r_then | apply HX.r_block | apply HX.r_again | refine HC.cond_yes rfl ?_ | refine HC.cond_no rfl ?_ | refine HL.one (H1.ldb rfl memA rfl rfl ?_) | refine HC.cond rfl (fun hc => ?_) (fun hc => ?_) | refine HC.cond_b rfl (fun hc => ?_) (fun hc => ?_))
    refine HX.again (i + 1, some ⟨a9, 0, none⟩, c9) (by show i + 1 ≤ S.length; omega) (by show S.length - (i + 1) < S.length - i; omega) esA ?_
    dsimp only
    rw [natI_range, ints_app]
    repeat (first | exact Hs.nil _ | (refine Hs.cons pickA ?_))
  rintro ⟨aA, cA⟩ -
  dsimp only
  repeat' (first | apply HL.fold | apply HA.fold | apply HL.nil | apply HX.n_then | apply HC.seq | apply HC.region | refine HL.pa ?_ | refine HL.ga rfl ?_ | refine HL.na rfl ?_ | refine HL.nu rfl rfl ?_ | apply HC.block | apply HC.skip | apply HC.exit | apply HC.ret | apply HX.e_block | refine HX.e_other rfl ?_ | apply HX.e_then | apply HX.e_again | apply HX.n_block | apply HX.r_then | apply HX.r_block | apply HX.r_again | refine HC.cond_yes rfl ?_ | refine HC.cond_no rfl ?_ | refine HL.one (H1.ldb rfl memA rfl rfl ?_) | refine HC.cond rfl (fun hc => ?_) (fun hc => ?_) | refine HC.cond_b rfl (fun hc => ?_) (fun hc => ?_))
  refine HC.loopD (α := Nat × List Nat) (fun z => [(10, zv (z.1 : Int)), (3, .pointer (some ⟨b3, 0, none⟩)), (4, .pointer (some ⟨b4, 0, none⟩)), (5, .pointer (some ⟨b5, 0, none⟩)), (6, .pointer (some ⟨b6, 0, none⟩)), (7, .pointer (some ⟨b7, 0, none⟩)), (8, .slice aA S.length cA)]) (fun z => [A.dfrs z.2, A.grow 3 1 aA cA S.length (ints (natI (List.range S.length))), A.blk b7 [zv 0] 29, A.blk b6 [.slice none 0 0] 23, A.blk b5 [zv (kk : Int)] 3, A.blk b4 d.cells 48, A.blk b3 [.slice a S.length c] 46]) (fun z => marks z.2) (fun z => z.1 ≤ S.length + 1 + kk ∧ best S d (kk : Int) = bestFrom S d (kk : Int) (S.length + 1 - z.1) z.1) (fun z => S.length + 1 - z.1) (kk, []) ⟨by show kk ≤ _; omega, hbest⟩ rfl esA (by repeat (first | exact Hs.nil _ | (refine Hs.cons pickA ?_))) ?_
  rintro ⟨n, Ds⟩ ⟨hn, hrest⟩
  dsimp only at hn hrest ⊢
  by_cases hlt : n ≤ S.length
  rotate_left
  · have hlt' : ¬ (n : Int) ≤ (S.length : Int) := by omega
    have hr0 : best S d (kk : Int) = none := by rw [hrest, show S.length + 1 - n = 0 by omega]; rfl
    repeat' (first | apply HL.fold | apply HA.fold | apply HL.nil | apply HX.n_then | apply HC.seq | apply HC.region | refine HL.pa ?_ | refine HL.ga rfl ?_ | refine HL.na rfl ?_ | refine HL.nu rfl rfl ?_ | apply HC.block | apply HC.skip | apply HC.exit | apply HC.ret | apply HX.e_block | refine HX.e_other rfl ?_ | apply HX.e_then | apply HX.e_again | apply HX.n_block | apply HX.r_then | apply HX.r_block | apply HX.r_again | refine HC.cond_yes rfl ?_ | refine HC.cond_no rfl ?_ | refine HL.one (H1.ldb rfl memA rfl rfl ?_) | refine HC.cond rfl (fun hc => ?_) (fun hc => ?_) | refine HC.cond_b rfl (fun hc => ?_) (fun hc => ?_))
    refine HL.one (H1.st rfl rfl (by intro _ h; cases h) (by intro _ h; cases h) rplA (by decide) ?_)
    repeat' (first | apply HL.fold | apply HA.fold | apply HL.nil | apply HX.n_then | apply HC.seq | apply HC.region | refine HL.pa ?_ | refine HL.ga rfl ?_ | refine HL.na rfl ?_ | refine HL.nu rfl rfl ?_ | apply HC.block | apply HC.skip | apply HC.exit | apply HC.ret | apply HX.e_block | refine HX.e_other rfl ?_ | apply HX.e_then | apply HX.e_again | apply HX.n_block | apply HX.r_then | apply HX.r_block | apply HX.r_again | refine HC.cond_yes rfl ?_ | refine HC.cond_no rfl ?_ | refine HL.one (H1.ldb rfl memA rfl rfl ?_) | refine HC.cond rfl (fun hc => ?_) (fun hc => ?_) | refine HC.cond_b rfl (fun hc => ?_) (fun hc => ?_))
    refine HL.one (H1.st rfl rfl (by intro _ h; cases h) (by intro _ h; cases h) rplA (by decide) ?_)
    repeat' (first | apply HL.fold | apply HA.fold | apply HL.nil | apply HX.n_then | apply HC.seq | apply HC.region | refine HL.pa ?_ | refine HL.ga rfl ?_ | refine HL.na rfl ?_ | refine HL.nu rfl rfl ?_ | apply HC.block | apply HC.skip | apply HC.exit | apply HC.ret | apply HX.e_block | refine HX.e_other rfl ?_ | apply HX.e_then | apply HX.e_again | apply HX.n_block | apply HX.r_then | apply HX.r_block | apply HX.r_again | refine HC.cond_yes rfl ?_ | refine HC.cond_no rfl ?_ | refine HL.one (H1.ldb rfl memA rfl rfl ?_) | refine HC.cond rfl (fun hc => ?_) (fun hc => ?_) | refine HC.cond_b rfl (fun hc => ?_) (fun hc => ?_))
    exact HX.retMsC2 rfl rfl rfl Pick.here memA memA fun w' hM => ⟨(none, 0), trivial, by rw [hr0]; rfl, by rw [hr0]; exact (hM.sub (Hs.nil _)).grow0 _ _⟩
  have hlt' : (n : Int) ≤ (S.length : Int) := by omega
  have hrest2 : best S d (kk : Int) = match bestP S d (kk : Int) n with | some T => some T | none => bestFrom S d (kk : Int) (S.length - n) (n + 1) := by
    rw [hrest, show S.length + 1 - n = (S.length - n) + 1 by omega]; rfl
  have hpI : ∀ i T, (combs (List.range S.length) n)[i]? = some T → (chk S d (natI T) kk).2 = false → (∀ j, j < i → ∀ T, (combs (List.range S.length) n)[j]? = some T → (chk S d (natI T) kk).2 = false) → ∀ j, j < i + 1 → ∀ T, (combs (List.range S.length) n)[j]? = some T → (chk S d (natI T) kk).2 = false := fun i T h1 h2 h3 j hj T' h4 => by
    by_cases e : j = i
    · subst e; rw [h1] at h4; cases h4; exact h2
    · exact h3 j (by omega) T' h4
  have hfound : ∀ i T, (combs (List.range S.length) n)[i]? = some T → (chk S d (natI T) kk).2 = true → (∀ j, j < i → ∀ T, (combs (List.range S.length) n)[j]? = some T → (chk S d (natI T) kk).2 = false) → bestP S d kk n = some T := fun i T h1 h2 h3 => by
    unfold bestP
    obtain ⟨hi, rfl⟩ := List.getElem?_eq_some_iff.1 h1
    rw [List.find?_eq_some_iff_getElem]
    exact ⟨h2, i, hi, rfl, fun j hj => by rw [h3 j hj _ (List.getElem?_eq_getElem (by omega))]; rfl⟩
  have hnone : (∀ j, j < (combs (List.range S.length) n).length → ∀ T, (combs (List.range S.length) n)[j]? = some T → (chk S d (natI T) kk).2 = false) → bestP S d kk n = none := fun h => by
    unfold bestP
    rw [List.find?_eq_none]
    intro T hT
    obtain ⟨j, hj, rfl⟩ := List.getElem_of_mem hT
    rw [h j hj _ (List.getElem?_eq_getElem hj)]; decide
  repeat' (first | apply HL.fold | apply HA.fold | apply HL.nil | apply HX.n_then | apply HC.seq | apply HC.region | refine HL.pa ?_ | refine HL.ga rfl ?_ | refine HL.na rfl ?_ | refine HL.nu rfl rfl ?_ | apply HC.block | apply HC.skip | apply HC.exit | apply HC.ret | apply HX.e_block | refine HX.e_other rfl ?_ | apply HX.e_then | apply HX.e_again | apply HX.n_block | apply HX.r_then | apply HX.r_block | apply HX.r_again | refine HC.cond_yes rfl ?_ | refine HC.cond_no rfl ?_ | refine HL.one (H1.ldb rfl memA rfl rfl ?_) | refine HC.cond rfl (fun hc => ?_) (fun hc => ?_) | refine HC.cond_b rfl (fun hc => ?_) (fun hc => ?_))
  refine HL.one (H1.callz (vs := [.slice aA S.length cA, zv (n : Int)]) rfl rfl (fun w' _ => sets_fn _ _ rfl w') ?_)
  rintro ⟨bn, bl⟩ -
  dsimp only [List.cons_append, List.nil_append]
  repeat' (first | apply HL.fold | apply HA.fold | apply HL.nil | apply HX.n_then | apply HC.seq | apply HC.region | refine HL.pa ?_ | refine HL.ga rfl ?_ | refine HL.na rfl ?_ | refine HL.nu rfl rfl ?_ | apply HC.block | apply HC.skip | apply HC.exit | apply HC.ret | apply HX.e_block | refine HX.e_other rfl ?_ | apply HX.e_then | apply HX.e_again | apply HX.n_block | apply HX.r_then | apply HX.r_block | apply HX.r_again | refine HC.cond_yes rfl ?_ | refine HC.cond_no rfl ?_ | refine HL.one (H1.ldb rfl memA rfl rfl ?_) | refine HC.cond rfl (fun hc => ?_) (fun hc => ?_) | refine HC.cond_b rfl (fun hc => ?_) (fun hc => ?_))
  refine HC.rangeFuncS (α := Unit) (β := (Option Addr × Nat) × List Nat) (lb := [.pointer (some ⟨bn, 0, none⟩), .pointer (some ⟨bl, 0, none⟩)]) (fun _ => [A.dfrs Ds, A.pure (bestP S d kk n = none), A.blk bn [zv (n : Int)] 3, A.blk bl [.slice aA S.length cA] 23, A.grow 3 1 aA cA S.length (ints (natI (List.range S.length))), A.blk b7 [zv 0] 29, A.blk b6 [.slice none 0 0] 23, A.blk b5 [zv (kk : Int)] 3, A.blk b4 d.cells 48, A.blk b3 [.slice a S.length c] 46]) (fun _ => True)
    (fun z => [A.dfrs Ds, A.pure (bestP S d kk n = some z.2), A.grow 3 1 z.1.1 z.1.2 z.2.length (ints (natI z.2)), A.blk bn [zv (n : Int)] 3, A.blk bl [.slice aA S.length cA] 23, A.grow 3 1 aA cA S.length (ints (natI (List.range S.length))), A.blk b7 [zv 0] 29, A.blk b6 [.slice z.1.1 z.2.length z.1.2] 23, A.blk b5 [zv (kk : Int)] 3, A.blk b4 d.cells 48, A.blk b3 [.slice a S.length c] 46]) (fun _ => True) (fun _ => .ret) rfl ?_ ?_ ?_
  · intro D lq L hL w1 hM1
    have hlr : (List.range S.length).length = S.length := List.length_range
    refine (sets1_fn (γ := (Option Addr × Nat) × List Nat) w n (List.range S.length) bn bl (.slice aA S.length cA) lq (fun i => [A.pure (∀ j, j < i → ∀ T, (combs (List.range S.length) n)[j]? = some T → (chk S d (natI T) kk).2 = false), L .ready none, A.blk bn [zv (n : Int)] 3, A.blk bl [.slice aA S.length cA] 23, A.grow 3 1 aA cA S.length (ints (natI (List.range S.length))), A.blk b7 [zv 0] 29, A.blk b6 [.slice none 0 0] 23, A.blk b5 [zv (kk : Int)] 3, A.blk b4 d.cells 48, A.blk b3 [.slice a S.length c] 46])
      (fun z => [A.pure (bestP S d kk n = some z.2), L .done (some .ret), A.grow 3 1 z.1.1 z.1.2 z.2.length (ints (natI z.2)), A.blk bn [zv (n : Int)] 3, A.blk bl [.slice aA S.length cA] 23, A.grow 3 1 aA cA S.length (ints (natI (List.range S.length))), A.blk b7 [zv 0] 29, A.blk b6 [.slice z.1.1 z.2.length z.1.2] 23, A.blk b5 [zv (kk : Int)] 3, A.blk b4 d.cells 48, A.blk b3 [.slice a S.length c] 46]) [A.dfr D, A.dfrs Ds] w1 (by omega) (by rw [hlr]; omega) (fun x hx => by have := List.mem_range.1 hx; omega)
      (fun i w2 hM2 => ⟨(hM2.blk (b := bn) memA).cell rfl, (hM2.blk (b := bl) memA).cell rfl, hM2.gr memA⟩) (fun z w2 hM2 => ⟨(hM2.blk (b := bn) memA).cell rfl, (hM2.blk (b := bl) memA).cell rfl, hM2.gr memA⟩) ?_ ?_).mono ?_
    · intro i T hTi K w2 hM2
      have hP := hM2.pureE (.head _)
      obtain ⟨hTs, hTn⟩ := mem_combs.1 (List.mem_of_getElem? hTi)
      have hTasc : T.Pairwise (· < ·) := (List.pairwise_lt_range).sublist hTs
      have hTS : ∀ j ∈ T, j < S.length := fun j hj => List.mem_range.1 (hTs.subset hj)
      have hT9 : maskOf T < 512 := mask_lt (n := 9) fun j hj => Nat.lt_of_lt_of_le (hTS j hj) hS9
      have hblT := bl_mask hTasc fun j hj => Nat.lt_of_lt_of_le (hTS j hj) hS9
      refine Yld.ofH (H := A.pure (∀ j, j < i → ∀ T, (combs (List.range S.length) n)[j]? = some T → (chk S d (natI T) kk).2 = false) :: L .ready none :: A.blk bn [zv (n : Int)] 3 :: A.blk bl [.slice aA S.length cA] 23 :: A.grow 3 1 aA cA S.length (ints (natI (List.range S.length))) :: A.blk b7 [zv 0] 29 :: A.blk b6 [.slice none 0 0] 23 :: A.blk b5 [zv (kk : Int)] 3 :: A.blk b4 d.cells 48 :: A.blk b3 [.slice a S.length c] 46 :: K) hL (.tail _ (.head _)) rfl rfl ?_ w2 hM2
      have hTl : (natI T).length ≤ 100000 := by rw [natI_len]; omega
      repeat' (first | apply HL.fold | apply HA.fold | apply HL.nil | apply HX.n_then | apply HC.seq | apply HC.region | refine HL.pa ?_ | refine HL.ga rfl ?_ | refine HL.na rfl ?_ | refine HL.nu rfl rfl ?_ | apply HC.block | apply HC.skip | apply HC.exit | apply HC.ret | apply HX.e_block | refine HX.e_other rfl ?_ | apply HX.e_then | apply HX.e_again | apply HX.n_block | apply HX.r_then | apply HX.r_block | apply HX.r_again | refine HC.cond_yes rfl ?_ | refine HC.cond_no rfl ?_ | refine HL.one (H1.ldb rfl memA rfl rfl ?_) | refine HC.cond rfl (fun hc => ?_) (fun hc => ?_) | refine HC.cond_b rfl (fun hc => ?_) (fun hc => ?_))
      refine HX.ra hL (Rpl.there Rpl.here) ?_
      repeat' (first | apply HL.fold | apply HA.fold | apply HL.nil | apply HX.n_then | apply HC.seq | apply HC.region | refine HL.pa ?_ | refine HL.ga rfl ?_ | refine HL.na rfl ?_ | refine HL.nu rfl rfl ?_ | apply HC.block | apply HC.skip | apply HC.exit | apply HC.ret | apply HX.e_block | refine HX.e_other rfl ?_ | apply HX.e_then | apply HX.e_again | apply HX.n_block | apply HX.r_then | apply HX.r_block | apply HX.r_again | refine HC.cond_yes rfl ?_ | refine HC.cond_no rfl ?_ | refine HL.one (H1.ldb rfl memA rfl rfl ?_) | refine HC.cond rfl (fun hc => ?_) (fun hc => ?_) | refine HC.cond_b rfl (fun hc => ?_) (fun hc => ?_))
      refine HC.anyCR ([(⟨b3, 0, none⟩, .slice a S.length c), (⟨b5, 0, none⟩, zv (kk : Int))]) rfl ?_
      refine HB.ld 0 rfl rfl memD ?_
      refine HB.pa 2 rfl ?_
      refine HB.ld 4 rfl rfl memD ?_
      refine HB.all (by repeat (first | exact Keep.nil | refine Keep.blk (by (repeat (first | exact List.Mem.head _ | apply List.Mem.tail)); done) rfl ?_ | refine Keep.grow (by (repeat (first | exact List.Mem.head _ | apply List.Mem.tail)); done) (by assumption) ?_ | refine Keep.base (by assumption) ?_)) [1, 3] (by kernel_rfl) rfl ⟨⟨_, rfl, ?_⟩, ⟨_, rfl, ?_⟩, trivial⟩
      · refine HP.one ?_
        refine H1.ldAgg (vs := d.cells) rfl memA rfl (fun i v hv => by rw [Nat.zero_add]; exact hv) rfl ?_
        apply HB.fold
        refine HB.all (by repeat (first | exact Keep.nil | refine Keep.blk (by (repeat (first | exact List.Mem.head _ | apply List.Mem.tail)); done) rfl ?_ | refine Keep.grow (by (repeat (first | exact List.Mem.head _ | apply List.Mem.tail)); done) (by assumption) ?_ | refine Keep.base (by assumption) ?_)) [3] (by kernel_rfl) rfl ⟨⟨_, rfl, ?_⟩, trivial⟩
        refine HP.one ?_
        refine H1.callz1 (vs := [uv (maskOf T)]) rfl rfl (fun w' _ => list_fn (maskOf T) hT9 w') ?_
        rw [hblT]
        rintro ⟨aL, cL⟩ -
        dsimp only
        apply HB.fold
        refine HB.all (by repeat (first | exact Keep.nil | refine Keep.blk (by (repeat (first | exact List.Mem.head _ | apply List.Mem.tail)); done) rfl ?_ | refine Keep.grow (by (repeat (first | exact List.Mem.head _ | apply List.Mem.tail)); done) (by assumption) ?_ | refine Keep.base (by assumption) ?_)) [5] (by kernel_rfl) rfl ⟨⟨_, rfl, ?_⟩, trivial⟩
        refine HP.one ?_
        refine H1.callz1 (An := fun z : Option Addr × Nat => A.grow 3 1 z.1 z.2 (chk S d (natI T) kk).1.length (ints (natI (chk S d (natI T) kk).1))) (vs := [.slice a S.length c, .agg d.cells.toArray, .slice aL T.length cL, zv (kk : Int)]) rfl rfl (fun w' hM => by
          have := check_fn (.slice a S.length c) S d (.slice aL T.length cL) (natI T) kk hS hTl w' (hT.ext hM.ext) (hM.gr memA)
          exact this) ?_
        rintro ⟨aC, cC⟩ -
        dsimp only
        apply HB.fold
        refine HB.pa 6 rfl ?_
        refine HB.pa 7 rfl ?_
        refine HB.pa 8 rfl ?_
        refine HB.pa 9 rfl ?_
        refine HB.pa 10 rfl ?_
        refine HB.done (by repeat (first | exact Keep.nil | refine Keep.blk (by (repeat (first | exact List.Mem.head _ | apply List.Mem.tail)); done) rfl ?_ | refine Keep.grow (by (repeat (first | exact List.Mem.head _ | apply List.Mem.tail)); done) (by assumption) ?_ | refine Keep.base (by assumption) ?_)) (by kernel_rfl) ?_
        cases hb : (chk S d (natI T) kk).2 with
        | true =>
          repeat' (first | apply HL.fold | apply HA.fold | apply HL.nil | apply HX.n_then | apply HC.seq | apply HC.region | refine HL.pa ?_ | refine HL.ga rfl ?_ | refine HL.na rfl ?_ | refine HL.nu rfl rfl ?_ | apply HC.block | apply HC.skip | apply HC.exit | apply HC.ret | apply HX.e_block | refine HX.e_other rfl ?_ | apply HX.e_then | apply HX.e_again | apply HX.n_block | apply HX.r_then | apply HX.r_block | apply HX.r_again | refine HC.cond_yes rfl ?_ | refine HC.cond_no rfl ?_ | refine HL.one (H1.ldb rfl memA rfl rfl ?_) | refine HC.cond rfl (fun hc => ?_) (fun hc => ?_) | refine HC.cond_b rfl (fun hc => ?_) (fun hc => ?_))
          refine HL.one (H1.callz1 (vs := [uv (maskOf T)]) rfl rfl (fun w' _ => list_fn (maskOf T) hT9 w') ?_)
          rw [hblT]
          rintro ⟨aE, cE⟩ -
          dsimp only
          repeat' (first | apply HL.fold | apply HA.fold | apply HL.nil | apply HX.n_then | apply HC.seq | apply HC.region | refine HL.pa ?_ | refine HL.ga rfl ?_ | refine HL.na rfl ?_ | refine HL.nu rfl rfl ?_ | apply HC.block | apply HC.skip | apply HC.exit | apply HC.ret | apply HX.e_block | refine HX.e_other rfl ?_ | apply HX.e_then | apply HX.e_again | apply HX.n_block | apply HX.r_then | apply HX.r_block | apply HX.r_again | refine HC.cond_yes rfl ?_ | refine HC.cond_no rfl ?_ | refine HL.one (H1.ldb rfl memA rfl rfl ?_) | refine HC.cond rfl (fun hc => ?_) (fun hc => ?_) | refine HC.cond_b rfl (fun hc => ?_) (fun hc => ?_))
          refine HL.one (H1.st rfl rfl (by intro _ h; cases h) (by intro _ h; cases h) rplA (by decide) ?_)
          repeat' (first | apply HL.fold | apply HA.fold | apply HL.nil | apply HX.n_then | apply HC.seq | apply HC.region | refine HL.pa ?_ | refine HL.ga rfl ?_ | refine HL.na rfl ?_ | refine HL.nu rfl rfl ?_ | apply HC.block | apply HC.skip | apply HC.exit | apply HC.ret | apply HX.e_block | refine HX.e_other rfl ?_ | apply HX.e_then | apply HX.e_again | apply HX.n_block | apply HX.r_then | apply HX.r_block | apply HX.r_again | refine HC.cond_yes rfl ?_ | refine HC.cond_no rfl ?_ | refine HL.one (H1.ldb rfl memA rfl rfl ?_) | refine HC.cond rfl (fun hc => ?_) (fun hc => ?_) | refine HC.cond_b rfl (fun hc => ?_) (fun hc => ?_))
          refine HL.one (H1.st rfl rfl (by intro _ h; cases h) (by intro _ h; cases h) rplA (by decide) ?_)
          repeat' (first | apply HL.fold | apply HA.fold | apply HL.nil | apply HX.n_then | apply HC.seq | apply HC.region | refine HL.pa ?_ | refine HL.ga rfl ?_ | refine HL.na rfl ?_ | refine HL.nu rfl rfl ?_ | apply HC.block | apply HC.skip | apply HC.exit | apply HC.ret | apply HX.e_block | refine HX.e_other rfl ?_ | apply HX.e_then | apply HX.e_again | apply HX.n_block | apply HX.r_then | apply HX.r_block | apply HX.r_again | refine HC.cond_yes rfl ?_ | refine HC.cond_no rfl ?_ | refine HL.one (H1.ldb rfl memA rfl rfl ?_) | refine HC.cond rfl (fun hc => ?_) (fun hc => ?_) | refine HC.cond_b rfl (fun hc => ?_) (fun hc => ?_))
          refine HX.rp_r hL rplA fun w' hM' => .inr ⟨rfl, ((aE, cE), T), ?_⟩
          exact Mm.pureI (hM'.sub (Hs.cons (Pick.there (Pick.there (Pick.there (Pick.there Pick.here)))) (Hs.cons Pick.here (Hs.skipN (K := [_, _, _]))))) (hfound i T hTi hb hP)
        | false =>
          repeat' (first | apply HL.fold | apply HA.fold | apply HL.nil | apply HX.n_then | apply HC.seq | apply HC.region | refine HL.pa ?_ | refine HL.ga rfl ?_ | refine HL.na rfl ?_ | refine HL.nu rfl rfl ?_ | apply HC.block | apply HC.skip | apply HC.exit | apply HC.ret | apply HX.e_block | refine HX.e_other rfl ?_ | apply HX.e_then | apply HX.e_again | apply HX.n_block | apply HX.r_then | apply HX.r_block | apply HX.r_again | refine HC.cond_yes rfl ?_ | refine HC.cond_no rfl ?_ | refine HL.one (H1.ldb rfl memA rfl rfl ?_) | refine HC.cond rfl (fun hc => ?_) (fun hc => ?_) | refine HC.cond_b rfl (fun hc => ?_) (fun hc => ?_))
          refine HX.rp_n hL rplA fun w' hM' => .inl ⟨rfl, ?_⟩
          exact hM'.tail.tail.tail.pureI (hpI i T hTi hb hP)
      · refine HP.one ?_
        refine H1.callz1 (vs := [uv (maskOf T)]) rfl rfl (fun w' _ => list_fn (maskOf T) hT9 w') ?_
        rw [hblT]
        rintro ⟨aL, cL⟩ -
        dsimp only
        apply HB.fold
        refine HB.all (by repeat (first | exact Keep.nil | refine Keep.blk (by (repeat (first | exact List.Mem.head _ | apply List.Mem.tail)); done) rfl ?_ | refine Keep.grow (by (repeat (first | exact List.Mem.head _ | apply List.Mem.tail)); done) (by assumption) ?_ | refine Keep.base (by assumption) ?_)) [1] (by kernel_rfl) rfl ⟨⟨_, rfl, ?_⟩, trivial⟩
        refine HP.one ?_
        refine H1.ldAgg (vs := d.cells) rfl memA rfl (fun i v hv => by rw [Nat.zero_add]; exact hv) rfl ?_
        apply HB.fold
        refine HB.all (by repeat (first | exact Keep.nil | refine Keep.blk (by (repeat (first | exact List.Mem.head _ | apply List.Mem.tail)); done) rfl ?_ | refine Keep.grow (by (repeat (first | exact List.Mem.head _ | apply List.Mem.tail)); done) (by assumption) ?_ | refine Keep.base (by assumption) ?_)) [5] (by kernel_rfl) rfl ⟨⟨_, rfl, ?_⟩, trivial⟩
        refine HP.one ?_
        refine H1.callz1 (An := fun z : Option Addr × Nat => A.grow 3 1 z.1 z.2 (chk S d (natI T) kk).1.length (ints (natI (chk S d (natI T) kk).1))) (vs := [.slice a S.length c, .agg d.cells.toArray, .slice aL T.length cL, zv (kk : Int)]) rfl rfl (fun w' hM => by
          have := check_fn (.slice a S.length c) S d (.slice aL T.length cL) (natI T) kk hS hTl w' (hT.ext hM.ext) (hM.gr memA)
          exact this) ?_
        rintro ⟨aC, cC⟩ -
        dsimp only
        apply HB.fold
        refine HB.pa 6 rfl ?_
        refine HB.pa 7 rfl ?_
        refine HB.pa 8 rfl ?_
        refine HB.pa 9 rfl ?_
        refine HB.pa 10 rfl ?_
        refine HB.done (by repeat (first | exact Keep.nil | refine Keep.blk (by (repeat (first | exact List.Mem.head _ | apply List.Mem.tail)); done) rfl ?_ | refine Keep.grow (by (repeat (first | exact List.Mem.head _ | apply List.Mem.tail)); done) (by assumption) ?_ | refine Keep.base (by assumption) ?_)) (by kernel_rfl) ?_
        cases hb : (chk S d (natI T) kk).2 with
        | true =>
          repeat' (first | apply HL.fold | apply HA.fold | apply HL.nil | apply HX.n_then | apply HC.seq | apply HC.region | refine HL.pa ?_ | refine HL.ga rfl ?_ | refine HL.na rfl ?_ | refine HL.nu rfl rfl ?_ | apply HC.block | apply HC.skip | apply HC.exit | apply HC.ret | apply HX.e_block | refine HX.e_other rfl ?_ | apply HX.e_then | apply HX.e_again | apply HX.n_block | apply HX.r_then | apply HX.r_block | apply HX.r_again | refine HC.cond_yes rfl ?_ | refine HC.cond_no rfl ?_ | refine HL.one (H1.ldb rfl memA rfl rfl ?_) | refine HC.cond rfl (fun hc => ?_) (fun hc => ?_) | refine HC.cond_b rfl (fun hc => ?_) (fun hc => ?_))
          refine HL.one (H1.callz1 (vs := [uv (maskOf T)]) rfl rfl (fun w' _ => list_fn (maskOf T) hT9 w') ?_)
          rw [hblT]
          rintro ⟨aE, cE⟩ -
          dsimp only
          repeat' (first | apply HL.fold | apply HA.fold | apply HL.nil | apply HX.n_then | apply HC.seq | apply HC.region | refine HL.pa ?_ | refine HL.ga rfl ?_ | refine HL.na rfl ?_ | refine HL.nu rfl rfl ?_ | apply HC.block | apply HC.skip | apply HC.exit | apply HC.ret | apply HX.e_block | refine HX.e_other rfl ?_ | apply HX.e_then | apply HX.e_again | apply HX.n_block | apply HX.r_then | apply HX.r_block | apply HX.r_again | refine HC.cond_yes rfl ?_ | refine HC.cond_no rfl ?_ | refine HL.one (H1.ldb rfl memA rfl rfl ?_) | refine HC.cond rfl (fun hc => ?_) (fun hc => ?_) | refine HC.cond_b rfl (fun hc => ?_) (fun hc => ?_))
          refine HL.one (H1.st rfl rfl (by intro _ h; cases h) (by intro _ h; cases h) rplA (by decide) ?_)
          repeat' (first | apply HL.fold | apply HA.fold | apply HL.nil | apply HX.n_then | apply HC.seq | apply HC.region | refine HL.pa ?_ | refine HL.ga rfl ?_ | refine HL.na rfl ?_ | refine HL.nu rfl rfl ?_ | apply HC.block | apply HC.skip | apply HC.exit | apply HC.ret | apply HX.e_block | refine HX.e_other rfl ?_ | apply HX.e_then | apply HX.e_again | apply HX.n_block | apply HX.r_then | apply HX.r_block | apply HX.r_again | refine HC.cond_yes rfl ?_ | refine HC.cond_no rfl ?_ | refine HL.one (H1.ldb rfl memA rfl rfl ?_) | refine HC.cond rfl (fun hc => ?_) (fun hc => ?_) | refine HC.cond_b rfl (fun hc => ?_) (fun hc => ?_))
          refine HL.one (H1.st rfl rfl (by intro _ h; cases h) (by intro _ h; cases h) rplA (by decide) ?_)
          repeat' (first | apply HL.fold | apply HA.fold | apply HL.nil | apply HX.n_then | apply HC.seq | apply HC.region | refine HL.pa ?_ | refine HL.ga rfl ?_ | refine HL.na rfl ?_ | refine HL.nu rfl rfl ?_ | apply HC.block | apply HC.skip | apply HC.exit | apply HC.ret | apply HX.e_block | refine HX.e_other rfl ?_ | apply HX.e_then | apply HX.e_again | apply HX.n_block | apply HX.r_then | apply HX.r_block | apply HX.r_again | refine HC.cond_yes rfl ?_ | refine HC.cond_no rfl ?_ | refine HL.one (H1.ldb rfl memA rfl rfl ?_) | refine HC.cond rfl (fun hc => ?_) (fun hc => ?_) | refine HC.cond_b rfl (fun hc => ?_) (fun hc => ?_))
          refine HX.rp_r hL rplA fun w' hM' => .inr ⟨rfl, ((aE, cE), T), ?_⟩
          exact Mm.pureI (hM'.sub (Hs.cons (Pick.there (Pick.there (Pick.there (Pick.there Pick.here)))) (Hs.cons Pick.here (Hs.skipN (K := [_, _, _]))))) (hfound i T hTi hb hP)
        | false =>
          repeat' (first | apply HL.fold | apply HA.fold | apply HL.nil | apply HX.n_then | apply HC.seq | apply HC.region | refine HL.pa ?_ | refine HL.ga rfl ?_ | refine HL.na rfl ?_ | refine HL.nu rfl rfl ?_ | apply HC.block | apply HC.skip | apply HC.exit | apply HC.ret | apply HX.e_block | refine HX.e_other rfl ?_ | apply HX.e_then | apply HX.e_again | apply HX.n_block | apply HX.r_then | apply HX.r_block | apply HX.r_again | refine HC.cond_yes rfl ?_ | refine HC.cond_no rfl ?_ | refine HL.one (H1.ldb rfl memA rfl rfl ?_) | refine HC.cond rfl (fun hc => ?_) (fun hc => ?_) | refine HC.cond_b rfl (fun hc => ?_) (fun hc => ?_))
          refine HX.rp_n hL rplA fun w' hM' => .inl ⟨rfl, ?_⟩
          exact hM'.tail.tail.tail.pureI (hpI i T hTi hb hP)
    · exact (hM1.sub (by repeat (first | exact Hs.nil _ | (refine Hs.cons pickA ?_)))).pureI fun j hj => absurd hj (Nat.not_lt_zero _)
    · rintro u w' (h1 | ⟨z, h1⟩)
      · exact .inl ⟨(), trivial, (h1.pureI (hnone (h1.pureE (.head _)))).sub (by repeat (first | exact Hs.nil _ | (refine Hs.cons pickA ?_)))⟩
      · exact .inr ⟨z, trivial, h1.sub (by repeat (first | exact Hs.nil _ | (refine Hs.cons pickA ?_)))⟩
  · intro D _ _
    refine HX.pureOf (p := bestP S d kk n = none) memA fun hno => ?_
    repeat' (first | apply HL.fold | apply HA.fold | apply HL.nil | apply HX.n_then | apply HC.seq | apply HC.region | refine HL.pa ?_ | refine HL.ga rfl ?_ | refine HL.na rfl ?_ | refine HL.nu rfl rfl ?_ | apply HC.block | apply HC.skip | apply HC.exit | apply HC.ret | apply HX.e_block | refine HX.e_other rfl ?_ | apply HX.e_then | apply HX.e_again | apply HX.n_block | apply HX.r_then | apply HX.r_block | apply HX.r_again | refine HC.cond_yes rfl ?_ | refine HC.cond_no rfl ?_ | refine HL.one (H1.ldb rfl memA rfl rfl ?_) | refine HC.cond rfl (fun hc => ?_) (fun hc => ?_) | refine HC.cond_b rfl (fun hc => ?_) (fun hc => ?_))
    refine HX.againDm (n + 1, D :: Ds) ⟨by show n + 1 ≤ _; omega, ?_⟩ (by show S.length + 1 - (n + 1) < S.length + 1 - n; omega) rfl esA fun w' hM => Mm.dfrs1 (hM.sub (by repeat (first | exact Hs.nil _ | (refine Hs.cons pickA ?_))))
    show best S d (kk : Int) = bestFrom S d (kk : Int) (S.length + 1 - (n + 1)) (n + 1)
    rw [hrest2, hno, show S.length + 1 - (n + 1) = S.length - n by omega]
  · intro D z _
    refine HC.conv (H2 := [A.dfrs (D :: Ds), A.pure (bestP S d kk n = some z.2), A.grow 3 1 z.1.1 z.1.2 z.2.length (ints (natI z.2)), A.grow 3 1 aA cA S.length (ints (natI (List.range S.length))), A.blk b7 [zv 0] 29, A.blk b6 [.slice z.1.1 z.2.length z.1.2] 23, A.blk b5 [zv (kk : Int)] 3, A.blk b4 d.cells 48, A.blk b3 [.slice a S.length c] 46]) (fun w' hM => Mm.dfrs1 (hM.sub (by repeat (first | exact Hs.nil _ | (refine Hs.cons pickA ?_))))) ?_
    repeat' (first | apply HL.fold | apply HA.fold | apply HL.nil | apply HX.n_then | apply HC.seq | apply HC.region | refine HL.pa ?_ | refine HL.ga rfl ?_ | refine HL.na rfl ?_ | refine HL.nu rfl rfl ?_ | apply HC.block | apply HC.skip | apply HC.exit | apply HC.ret | apply HX.e_block | refine HX.e_other rfl ?_ | apply HX.e_then | apply HX.e_again | apply HX.n_block | apply HX.r_then | apply HX.r_block | apply HX.r_again | refine HC.cond_yes rfl ?_ | refine HC.cond_no rfl ?_ | refine HL.one (H1.ldb rfl memA rfl rfl ?_) | refine HC.cond rfl (fun hc => ?_) (fun hc => ?_) | refine HC.cond_b rfl (fun hc => ?_) (fun hc => ?_))
    refine HX.retMsC2 (Ds := D :: Ds) rfl rfl rfl Pick.here memA memA fun w' hM => ?_
    have hs := hM.pureE (.head _)
    rw [hrest2, hs]
    exact ⟨z.1, trivial, rfl, hM.sub (by repeat (first | exact Hs.nil _ | (refine Hs.cons pickA ?_)))⟩
end Go.Sx

