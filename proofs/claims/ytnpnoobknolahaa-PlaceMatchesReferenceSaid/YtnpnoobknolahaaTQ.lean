/- Chapter 18: the reference's Best. -/
import Derived.Test.YtnpnoobknolahaaTP
namespace Go.Sx
open Go Go.Proofs Go.RowKit
attribute [local irreducible] WC WL WX POp Then Again Fn NX W1 WA WO QL RP RA Yld LoopAt HC HL HX HN H1 HA HO HQ HB HP A.blk A.grow A.rd A.obj A.mp AgainH CutH
attribute [local irreducible] A.mq A.mit A.dfrs A.loop mapsA A.land A.pure chk best A.all
set_option maxHeartbeats 4000000 in
theorem rbest_fn (v : Value) (S : List St) (d : Di) (k : Int) (hS : S.length ≤ 100000) (w : World) (hT : RdS w v S) :
    Fn Try.prog 15 #[v, .agg d.cells.toArray, zv k] w fun x w' => ∃ z : Option Addr × Nat, True ∧ x = .tuple #[.slice z.1 (bestL (best S d k)).length z.2, zv (bestE (best S d k))] ∧ Mm w [A.grow 3 1 z.1 z.2 (bestL (best S d k)).length (ints (natI (bestL (best S d k))))] w' := by
  obtain ⟨a, c, rfl, hc⟩ := hT.shape
  have hbadS : best S d k = none → ∀ w', Mm w [] w' → ∃ z : Option Addr × Nat, True ∧ Value.tuple #[.slice none 0 0, zv 180] = .tuple #[.slice z.1 (bestL (best S d k)).length z.2, zv (bestE (best S d k))] ∧ Mm w [A.grow 3 1 z.1 z.2 (bestL (best S d k)).length (ints (natI (bestL (best S d k))))] w' := fun h w' hM => ⟨(none, 0), trivial, by rw [h]; rfl, by rw [h]; exact hM.grow0 _ _⟩
  refine enterH (l := [_, _, _]) rfl Try.ntmps15 rfl ?_
  repeat' (first | apply HL.fold | apply HA.fold | apply HL.nil | apply HX.n_then | apply HC.seq | apply HC.region | refine HL.pa ?_ | refine HL.ga rfl ?_ | refine HL.na rfl ?_ | refine HL.nu rfl rfl ?_ | apply HC.block | apply HC.skip | apply HC.exit | apply HC.ret | apply HX.e_block | refine HX.e_other rfl ?_ | apply HX.e_then | apply HX.e_again | apply HX.n_block | apply HX.r_then | apply HX.r_block | apply HX.r_again | refine HC.cond_yes rfl ?_ | refine HC.cond_no rfl ?_ | refine HL.one (H1.ldb rfl memA rfl rfl ?_) | refine HC.cond rfl (fun hc => ?_) (fun hc => ?_) | refine HC.cond_b rfl (fun hc => ?_) (fun hc => ?_))
  refine HL.one (H1.boxAgg (cs := d.cells) rfl rfl (fun b4 => ?_))
  repeat' (first | apply HL.fold | apply HA.fold | apply HL.nil | apply HX.n_then | apply HC.seq | apply HC.region | refine HL.pa ?_ | refine HL.ga rfl ?_ | refine HL.na rfl ?_ | refine HL.nu rfl rfl ?_ | apply HC.block | apply HC.skip | apply HC.exit | apply HC.ret | apply HX.e_block | refine HX.e_other rfl ?_ | apply HX.e_then | apply HX.e_again | apply HX.n_block | apply HX.r_then | apply HX.r_block | apply HX.r_again | refine HC.cond_yes rfl ?_ | refine HC.cond_no rfl ?_ | refine HL.one (H1.ldb rfl memA rfl rfl ?_) | refine HC.cond rfl (fun hc => ?_) (fun hc => ?_) | refine HC.cond_b rfl (fun hc => ?_) (fun hc => ?_))
  refine HL.one (H1.ldAgg (vs := d.cells) rfl memA rfl (fun i v hv => by rw [Nat.zero_add]; exact hv) rfl ?_)
  repeat' (first | apply HL.fold | apply HA.fold | apply HL.nil | apply HX.n_then | apply HC.seq | apply HC.region | refine HL.pa ?_ | refine HL.ga rfl ?_ | refine HL.na rfl ?_ | refine HL.nu rfl rfl ?_ | apply HC.block | apply HC.skip | apply HC.exit | apply HC.ret | apply HX.e_block | refine HX.e_other rfl ?_ | apply HX.e_then | apply HX.e_again | apply HX.n_block | apply HX.r_then | apply HX.r_block | apply HX.r_again | refine HC.cond_yes rfl ?_ | refine HC.cond_no rfl ?_ | refine HL.one (H1.ldb rfl memA rfl rfl ?_) | refine HC.cond rfl (fun hc => ?_) (fun hc => ?_) | refine HC.cond_b rfl (fun hc => ?_) (fun hc => ?_))
  refine HL.one (H1.callx (vs := [.slice a S.length c, .agg d.cells.toArray]) rfl rfl (fun w' hM => rvalid18_fn _ S d (by omega) w' (hT.ext hM.ext)) ?_)
  cases hv : pvalid S d with
  | false =>
    have hbad : ¬ (pvalid S d = true ∧ 1 ≤ k ∧ k ≤ 9) := fun h => by have := h.1; rw [hv] at this; cases this
    repeat' (first | apply HL.fold | apply HA.fold | apply HL.nil | apply HX.n_then | apply HC.seq | apply HC.region | refine HL.pa ?_ | refine HL.ga rfl ?_ | refine HL.na rfl ?_ | refine HL.nu rfl rfl ?_ | apply HC.block | apply HC.skip | apply HC.exit | apply HC.ret | apply HX.e_block | refine HX.e_other rfl ?_ | apply HX.e_then | apply HX.e_again | apply HX.n_block | apply HX.r_then | apply HX.r_block | apply HX.r_again | refine HC.cond_yes rfl ?_ | refine HC.cond_no rfl ?_ | refine HL.one (H1.ldb rfl memA rfl rfl ?_) | refine HC.cond rfl (fun hc => ?_) (fun hc => ?_) | refine HC.cond_b rfl (fun hc => ?_) (fun hc => ?_))
    exact HX.ret2 rfl rfl rfl fun w' hM => hbadS (best_bad hbad) w' (hM.sub (Hs.nil _))
  | true =>
  have hpv := pvalid_ok hv
  have hS9 := hpv.n9
  repeat' (first | apply HL.fold | apply HA.fold | apply HL.nil | apply HX.n_then | apply HC.seq | apply HC.region | refine HL.pa ?_ | refine HL.ga rfl ?_ | refine HL.na rfl ?_ | refine HL.nu rfl rfl ?_ | apply HC.block | apply HC.skip | apply HC.exit | apply HC.ret | apply HX.e_block | refine HX.e_other rfl ?_ | apply HX.e_then | apply HX.e_again | apply HX.n_block | apply HX.r_then | apply HX.r_block | apply HX.r_again | refine HC.cond_yes rfl ?_ | refine HC.cond_no rfl ?_ | refine HL.one (H1.ldb rfl memA rfl rfl ?_) | refine HC.cond rfl (fun hc => ?_) (fun hc => ?_) | refine HC.cond_b rfl (fun hc => ?_) (fun hc => ?_))
  refine HL.one (H1.call0 (vs := [zv k, zv 1, zv 9]) rfl rfl (fun w' _ => kwithin_fn _ _ _ w') ?_)
  by_cases hk : 1 ≤ k ∧ k ≤ 9
  rotate_left
  · have hbad : ¬ (pvalid S d = true ∧ 1 ≤ k ∧ k ≤ 9) := fun h => hk h.2
    repeat' (first | apply HL.fold | apply HA.fold | apply HL.nil | apply HX.n_then | apply HC.seq | apply HC.region | refine HL.pa ?_ | refine HL.ga rfl ?_ | refine HL.na rfl ?_ | refine HL.nu rfl rfl ?_ | apply HC.block | apply HC.skip | apply HC.exit | apply HC.ret | apply HX.e_block | refine HX.e_other rfl ?_ | apply HX.e_then | apply HX.e_again | apply HX.n_block | apply HX.r_then | apply HX.r_block | apply HX.r_again | refine HC.cond_yes rfl ?_ | refine HC.cond_no rfl ?_ | refine HL.one (H1.ldb rfl memA rfl rfl ?_) | refine HC.cond rfl (fun hc => ?_) (fun hc => ?_) | refine HC.cond_b rfl (fun hc => ?_) (fun hc => ?_))
    exact HX.ret2 rfl rfl rfl fun w' hM => hbadS (best_bad hbad) w' (hM.sub (Hs.nil _))
  obtain ⟨kk, rfl⟩ : ∃ n : Nat, k = (n : Int) := ⟨k.toNat, by omega⟩
  have hbest := best_ok ⟨hv, hk⟩
  rw [Int.toNat_natCast] at hbest
  repeat' (first | apply HL.fold | apply HA.fold | apply HL.nil | apply HX.n_then | apply HC.seq | apply HC.region | refine HL.pa ?_ | refine HL.ga rfl ?_ | refine HL.na rfl ?_ | refine HL.nu rfl rfl ?_ | apply HC.skip | apply HC.exit | apply HC.ret | apply HX.e_block | refine HX.e_other rfl ?_ | apply HX.e_then | apply HX.e_again | apply HX.n_block | apply HX.r_then | apply HX.r_block | apply HX.r_again | refine HC.cond_yes rfl ?_ | refine HC.cond_no rfl ?_ | refine HL.one (H1.ldb rfl memA rfl rfl ?_) | refine HC.cond rfl (fun hc => ?_) (fun hc => ?_) | refine HC.cond_b rfl (fun hc => ?_) (fun hc => ?_))
  refine HC.grow0 3 1 ?_
  repeat' (first | apply HL.fold | apply HA.fold | apply HL.nil | apply HX.n_then | apply HC.seq | apply HC.region | refine HL.pa ?_ | refine HL.ga rfl ?_ | refine HL.na rfl ?_ | refine HL.nu rfl rfl ?_ | apply HC.skip | apply HC.exit | apply HC.ret | apply HX.e_block | refine HX.e_other rfl ?_ | apply HX.e_then | apply HX.e_again | apply HX.n_block | apply HX.r_then | apply HX.r_block | apply HX.r_again | refine HC.cond_yes rfl ?_ | refine HC.cond_no rfl ?_ | refine HL.one (H1.ldb rfl memA rfl rfl ?_) | refine HC.cond rfl (fun hc => ?_) (fun hc => ?_) | refine HC.cond_b rfl (fun hc => ?_) (fun hc => ?_))
  refine HC.cut (α := Option Addr × Nat) (fun z => [(0, .slice a S.length c), (2, zv (kk : Int)), (4, .pointer (some ⟨b4, 0, none⟩)), (9, .slice z.1 S.length z.2)])
    (fun z => [A.grow 3 1 z.1 z.2 S.length (ints (natI (List.range S.length))), A.blk b4 d.cells 24]) (fun _ => True) ?_ ?_
  · repeat' (first | apply HL.fold | apply HA.fold | apply HL.nil | apply HX.n_then | apply HC.seq | apply HC.region | refine HL.pa ?_ | refine HL.ga rfl ?_ | refine HL.na rfl ?_ | refine HL.nu rfl rfl ?_ | apply HC.block | apply HC.skip | apply HC.exit | apply HC.ret | apply HX.e_block | refine HX.e_other rfl ?_ | apply HX.e_then | apply HX.e_again | apply HX.n_block | apply HX.r_then | apply HX.r_block | apply HX.r_again | refine HC.cond_yes rfl ?_ | refine HC.cond_no rfl ?_ | refine HL.one (H1.ldb rfl memA rfl rfl ?_) | refine HC.cond rfl (fun hc => ?_) (fun hc => ?_) | refine HC.cond_b rfl (fun hc => ?_) (fun hc => ?_))
    refine HC.loop (α := Nat × Option Addr × Nat) (fun z => [(0, .slice a S.length c), (2, zv (kk : Int)), (4, .pointer (some ⟨b4, 0, none⟩)), (9, .slice z.2.1 z.1 z.2.2), (10, zv (z.1 : Int))])
      (fun z => [A.grow 3 1 z.2.1 z.2.2 z.1 (ints (natI (List.range z.1))), A.blk b4 d.cells 24]) (fun z => z.1 ≤ S.length) (fun z => S.length - z.1) (0, none, 0) (Nat.zero_le _) esA (by repeat (first | exact Hs.nil _ | (refine Hs.cons pickA ?_))) ?_
    rintro ⟨i, ar, cr⟩ hi
    dsimp only at hi ⊢
    by_cases hlt : i < S.length
    rotate_left
    · obtain rfl : i = S.length := by omega
      repeat' (first | apply HL.fold | apply HA.fold | apply HL.nil | apply HX.n_then | apply HC.seq | apply HC.region | refine HL.pa ?_ | refine HL.ga rfl ?_ | refine HL.na rfl ?_ | refine HL.nu rfl rfl ?_ | apply HC.block | apply HC.skip | apply HC.exit | apply HC.ret | apply HX.e_block | refine HX.e_other rfl ?_ | apply HX.e_then | apply HX.e_again | apply HX.n_block | apply HX.r_then | apply HX.r_block | apply HX.r_again | refine HC.cond_yes rfl ?_ | refine HC.cond_no rfl ?_ | refine HL.one (H1.ldb rfl memA rfl rfl ?_) | refine HC.cond rfl (fun hc => ?_) (fun hc => ?_) | refine HC.cond_b rfl (fun hc => ?_) (fun hc => ?_))
      exact HX.cut (ar, cr) trivial esA (by repeat (first | exact Hs.nil _ | (refine Hs.cons pickA ?_)))
    repeat' (first | apply HL.fold | apply HA.fold | apply HL.nil | apply HX.n_then | apply HC.seq | apply HC.region | refine HL.pa ?_ | refine HL.ga rfl ?_ | refine HL.na rfl ?_ | refine HL.nu rfl rfl ?_ | apply HC.block | apply HC.skip | apply HC.exit | apply HC.ret | apply HX.e_block | refine HX.e_other rfl ?_ | apply HX.e_then | apply HX.e_again | apply HX.n_block | apply HX.r_then | apply HX.r_block | apply HX.r_again | refine HC.cond_yes rfl ?_ | refine HC.cond_no rfl ?_ | refine HL.one (H1.ldb rfl memA rfl rfl ?_) | refine HC.cond rfl (fun hc => ?_) (fun hc => ?_) | refine HC.cond_b rfl (fun hc => ?_) (fun hc => ?_))
    refine HL.one (H1.lit (cs := [zv (i : Int)]) rfl rfl rfl rfl rfl rfl (fun b9 => ?_))
    repeat' (first | apply HL.fold | apply HA.fold | apply HL.nil | apply HX.n_then | apply HC.seq | apply HC.region | refine HL.pa ?_ | refine HL.ga rfl ?_ | refine HL.na rfl ?_ | refine HL.nu rfl rfl ?_ | apply HC.block | apply HC.skip | apply HC.exit | apply HC.ret | apply HX.e_block | refine HX.e_other rfl ?_ | apply HX.e_then | apply HX.e_again | apply HX.n_block | apply HX.r_then | apply HX.r_block | apply HX.r_again | refine HC.cond_yes rfl ?_ | refine HC.cond_no rfl ?_ | refine HL.one (H1.ldb rfl memA rfl rfl ?_) | refine HC.cond rfl (fun hc => ?_) (fun hc => ?_) | refine HC.cond_b rfl (fun hc => ?_) (fun hc => ?_))
    refine HL.one (H1.app1 (u := zv (i : Int)) rfl rfl (fun _ _ => by first | ((repeat (first | with_reducible exact Rpl.here | with_reducible apply Rpl.there)); done) | (repeat (first | exact Rpl.here | apply Rpl.there))) (by repeat (first | exact mem_hd | apply mem_tl)) rfl rfl (by omega) rfl rfl (fun a9 c9 => ?_))
    repeat' (first | apply HL.fold | apply HA.fold | apply HL.nil | apply HX.n_then | apply HC.seq | apply HC.region | refine HL.pa ?_ | refine HL.ga rfl ?_ | refine HL.na rfl ?_ | refine HL.nu rfl rfl ?_ | apply HC.block | apply HC.skip | apply HC.exit | apply HC.ret | apply HX.e_block | refine HX.e_other rfl ?_ | apply HX.e_then | apply HX.e_again | apply HX.n_block | apply HX.r_then | apply HX.r_block | apply HX.r_again | refine HC.cond_yes rfl ?_ | refine HC.cond_no rfl ?_ | refine HL.one (H1.ldb rfl memA rfl rfl ?_) | refine HC.cond rfl (fun hc => ?_) (fun hc => ?_) | refine HC.cond_b rfl (fun hc => ?_) (fun hc => ?_))
    refine HX.again (i + 1, some ⟨a9, 0, none⟩, c9) (by show i + 1 ≤ S.length; omega) (by show S.length - (i + 1) < S.length - i; omega) esA ?_
    dsimp only
    rw [natI_range, ints_app]
    repeat (first | exact Hs.nil _ | (refine Hs.cons pickA ?_))
  rintro ⟨aA, cA⟩ -
  dsimp only
  repeat' (first | apply HL.fold | apply HA.fold | apply HL.nil | apply HX.n_then | apply HC.seq | apply HC.region | refine HL.pa ?_ | refine HL.ga rfl ?_ | refine HL.na rfl ?_ | refine HL.nu rfl rfl ?_ | apply HC.block | apply HC.skip | apply HC.exit | apply HC.ret | apply HX.e_block | refine HX.e_other rfl ?_ | apply HX.e_then | apply HX.e_again | apply HX.n_block | apply HX.r_then | apply HX.r_block | apply HX.r_again | refine HC.cond_yes rfl ?_ | refine HC.cond_no rfl ?_ | refine HL.one (H1.ldb rfl memA rfl rfl ?_) | refine HC.cond rfl (fun hc => ?_) (fun hc => ?_) | refine HC.cond_b rfl (fun hc => ?_) (fun hc => ?_))
  refine HC.loop (α := Nat) (fun n => [(0, .slice a S.length c), (2, zv (kk : Int)), (4, .pointer (some ⟨b4, 0, none⟩)), (9, .slice aA S.length cA), (11, zv (n : Int))])
    (fun _ => [A.grow 3 1 aA cA S.length (ints (natI (List.range S.length))), A.blk b4 d.cells 24]) (fun n => n ≤ 10 ∧ best S d kk = bestFrom S d kk (S.length + 1 - n) n) (fun n => S.length + 1 - n) kk ⟨by omega, hbest⟩ esA (by repeat (first | exact Hs.nil _ | (refine Hs.cons pickA ?_))) ?_
  rintro n ⟨hn10, hrest⟩
  by_cases hlt : n ≤ S.length
  rotate_left
  · have hlt' : ¬ (n : Int) ≤ (S.length : Int) := by omega
    have hr0 : best S d (kk : Int) = none := by rw [hrest, show S.length + 1 - n = 0 by omega]; rfl
    repeat' (first | apply HL.fold | apply HA.fold | apply HL.nil | apply HX.n_then | apply HC.seq | apply HC.region | refine HL.pa ?_ | refine HL.ga rfl ?_ | refine HL.na rfl ?_ | refine HL.nu rfl rfl ?_ | apply HC.block | apply HC.skip | apply HC.exit | apply HC.ret | apply HX.e_block | refine HX.e_other rfl ?_ | apply HX.e_then | apply HX.e_again | apply HX.n_block | apply HX.r_then | apply HX.r_block | apply HX.r_again | refine HC.cond_yes rfl ?_ | refine HC.cond_no rfl ?_ | refine HL.one (H1.ldb rfl memA rfl rfl ?_) | refine HC.cond rfl (fun hc => ?_) (fun hc => ?_) | refine HC.cond_b rfl (fun hc => ?_) (fun hc => ?_))
    exact HX.ret2 rfl rfl rfl fun w' hM => hbadS hr0 w' (hM.sub (Hs.nil _))
  have hlt' : (n : Int) ≤ (S.length : Int) := by omega
  have hrest2 : best S d (kk : Int) = match bestP S d (kk : Int) n with | some T => some T | none => bestFrom S d (kk : Int) (S.length - n) (n + 1) := by
    rw [hrest, show S.length + 1 - n = (S.length - n) + 1 by omega]; rfl
  have hP : bestP S d (kk : Int) n = (combs (List.range S.length) n).find? fun T => (chk S d (natI T) kk).2 := rfl
  have hlr : (List.range S.length).length = S.length := List.length_range
  repeat' (first | apply HL.fold | apply HA.fold | apply HL.nil | apply HX.n_then | apply HC.seq | apply HC.region | refine HL.pa ?_ | refine HL.ga rfl ?_ | refine HL.na rfl ?_ | refine HL.nu rfl rfl ?_ | apply HC.block | apply HC.skip | apply HC.exit | apply HC.ret | apply HX.e_block | refine HX.e_other rfl ?_ | apply HX.e_then | apply HX.e_again | apply HX.n_block | apply HX.r_then | apply HX.r_block | apply HX.r_again | refine HC.cond_yes rfl ?_ | refine HC.cond_no rfl ?_ | refine HL.one (H1.ldb rfl memA rfl rfl ?_) | refine HC.cond rfl (fun hc => ?_) (fun hc => ?_) | refine HC.cond_b rfl (fun hc => ?_) (fun hc => ?_))
  refine HL.one (H1.callz (α := (Option Addr × Nat) × List (Option Addr × Nat)) (I := fun z => z.2.length = (combs (List.range S.length) n).length) (V := fun z => .slice z.1.1 (combs (List.range S.length) n).length z.1.2) (Hn := fun z => [A.grow 25 1 z.1.1 z.1.2 (combs (List.range S.length) n).length (rowV (combs (List.range S.length) n) z.2), A.all (rowK (combs (List.range S.length) n) z.2)])
    (vs := [.slice aA S.length cA, zv (n : Int)]) rfl rfl (fun w' hM => choose_fn n _ (List.range S.length) w' (by omega) (by omega) (hM.gr memA)) ?_)
  rintro ⟨⟨aR, cR⟩, zr⟩ hzr
  dsimp only [List.cons_append, List.nil_append] at hzr ⊢
  have hT9 : ∀ T ∈ combs (List.range S.length) n, T.length ≤ 9 := fun T hT => by have := (mem_combs.1 hT).1.length_le; omega
  have hR512 : (combs (List.range S.length) n).length ≤ 512 := combs_9 n (by omega)
  generalize combs (List.range S.length) n = R at *
  repeat' (first | apply HL.fold | apply HA.fold | apply HL.nil | apply HX.n_then | apply HC.seq | apply HC.region | refine HL.pa ?_ | refine HL.ga rfl ?_ | refine HL.na rfl ?_ | refine HL.nu rfl rfl ?_ | apply HC.block | apply HC.skip | apply HC.exit | apply HC.ret | apply HX.e_block | refine HX.e_other rfl ?_ | apply HX.e_then | apply HX.e_again | apply HX.n_block | apply HX.r_then | apply HX.r_block | apply HX.r_again | refine HC.cond_yes rfl ?_ | refine HC.cond_no rfl ?_ | refine HL.one (H1.ldb rfl memA rfl rfl ?_) | refine HC.cond rfl (fun hc => ?_) (fun hc => ?_) | refine HC.cond_b rfl (fun hc => ?_) (fun hc => ?_))
  refine HC.loop (α := Nat) (fun i => [(0, .slice a S.length c), (2, zv (kk : Int)), (4, .pointer (some ⟨b4, 0, none⟩)), (9, .slice aA S.length cA), (11, zv (n : Int)), (12, .slice aR R.length cR), (13, zv (i : Int))])
    (fun _ => [A.grow 25 1 aR cR R.length (rowV R zr), A.all (rowK R zr), A.grow 3 1 aA cA S.length (ints (natI (List.range S.length))), A.blk b4 d.cells 24]) (fun i => i ≤ R.length ∧ ∀ j, (hj : j < R.length) → j < i → (chk S d (natI R[j]) kk).2 = false) (fun i => R.length - i) 0 ⟨Nat.zero_le _, fun j _ hj => absurd hj (Nat.not_lt_zero _)⟩ esA (by repeat (first | exact Hs.nil _ | (refine Hs.cons pickA ?_))) ?_
  rintro i ⟨hi, hno⟩
  by_cases hiR : i < R.length
  rotate_left
  · have hnone : bestP S d (kk : Int) n = none := by
      rw [hP, List.find?_eq_none]
      intro T hT
      obtain ⟨j, hj, rfl⟩ := List.getElem_of_mem hT
      rw [hno j hj (by omega)]; decide
    repeat' (first | apply HL.fold | apply HA.fold | apply HL.nil | apply HX.n_then | apply HC.seq | apply HC.region | refine HL.pa ?_ | refine HL.ga rfl ?_ | refine HL.na rfl ?_ | refine HL.nu rfl rfl ?_ | apply HC.block | apply HC.skip | apply HC.exit | apply HC.ret | apply HX.e_block | refine HX.e_other rfl ?_ | apply HX.e_then | apply HX.e_again | apply HX.n_block | apply HX.r_then | apply HX.r_block | apply HX.r_again | refine HC.cond_yes rfl ?_ | refine HC.cond_no rfl ?_ | refine HL.one (H1.ldb rfl memA rfl rfl ?_) | refine HC.cond rfl (fun hc => ?_) (fun hc => ?_) | refine HC.cond_b rfl (fun hc => ?_) (fun hc => ?_))
    refine HX.again (n + 1) ⟨by omega, ?_⟩ (by omega) esA (by repeat (first | exact Hs.nil _ | (refine Hs.cons pickA ?_)))
    rw [hrest2, hnone, show S.length + 1 - (n + 1) = S.length - n by omega]
  refine HC.growAt (a := aR) (c := cR) (n := R.length) memA (by omega) fun bR eR => ?_
  subst eR
  obtain ⟨⟨az, cz⟩, hzv, hzk⟩ := rows_get hzr hiR
  have h9 := hT9 _ (List.getElem_mem hiR)
  dsimp only at hzv hzk
  have hTl : (natI R[i]).length ≤ 100000 := by rw [natI_len]; omega
  repeat' (first | apply HL.fold | apply HA.fold | apply HL.nil | apply HX.n_then | apply HC.seq | apply HC.region | refine HL.pa ?_ | refine HL.ga rfl ?_ | refine HL.na rfl ?_ | refine HL.nu rfl rfl ?_ | apply HC.block | apply HC.skip | apply HC.exit | apply HC.ret | apply HX.e_block | refine HX.e_other rfl ?_ | apply HX.e_then | apply HX.e_again | apply HX.n_block | apply HX.r_then | apply HX.r_block | apply HX.r_again | refine HC.cond_yes rfl ?_ | refine HC.cond_no rfl ?_ | refine HL.one (H1.ldb rfl memA rfl rfl ?_) | refine HC.cond rfl (fun hc => ?_) (fun hc => ?_) | refine HC.cond_b rfl (fun hc => ?_) (fun hc => ?_))
  refine HC.anyC (cellsA b4 d.cells ++ [(⟨bR, i, none⟩, .slice az R[i].length cz)]) rfl ?_
  refine HB.pa 0 rfl ?_
  refine HB.ldA (vs := d.cells) 1 rfl rfl rfl (fun i v hv => cellsL (cellsA_mem hv)) ?_
  refine HB.pa 2 rfl ?_
  refine HB.pa 3 rfl ?_
  refine HB.pa 4 rfl ?_
  refine HB.ld 5 rfl rfl (cellsR (List.Mem.head _)) ?_
  refine HB.pa 6 rfl ?_
  refine HB.all (by exact Keep.blkA memA (Keep.grow memA hzv Keep.nil)) [7] (by kernel_rfl) rfl ⟨⟨_, rfl, ?_⟩, trivial⟩
  refine HP.one ?_
  refine H1.callz1 (An := fun z : Option Addr × Nat => A.grow 3 1 z.1 z.2 (chk S d (natI R[i]) kk).1.length (ints (natI (chk S d (natI R[i]) kk).1))) (vs := [.slice a S.length c, .agg d.cells.toArray, .slice az R[i].length cz, zv (kk : Int)]) rfl rfl (fun w' hM => rcheck_fn (.slice a S.length c) S d (.slice az R[i].length cz) (natI R[i]) kk hS hTl w' (hT.ext hM.ext) (hM.rowRd (TT := R) (zs := zr) (z := (az, cz)) memA hzk)) ?_
  rintro ⟨aC, cC⟩ -
  dsimp only
  apply HB.fold
  refine HB.pa 8 rfl ?_
  refine HB.pa 9 rfl ?_
  refine HB.pa 10 rfl ?_
  refine HB.pa 11 rfl ?_
  refine HB.pa 12 rfl ?_
  refine HB.done (by exact Keep.blkA memA (Keep.grow memA hzv Keep.nil)) (by kernel_rfl) ?_
  skip
  cases hb : (chk S d (natI R[i]) kk).2 with
  | true =>
    have hfound : bestP S d (kk : Int) n = some R[i] := by
      rw [hP, List.find?_eq_some_iff_getElem]
      exact ⟨hb, i, hiR, rfl, fun j hj => by rw [hno j (by omega) hj]; rfl⟩
    have hbs : best S d (kk : Int) = some R[i] := by rw [hrest2, hfound]
    repeat' (first | apply HL.fold | apply HA.fold | apply HL.nil | apply HX.n_then | apply HC.seq | apply HC.region | refine HL.pa ?_ | refine HL.ga rfl ?_ | refine HL.na rfl ?_ | refine HL.nu rfl rfl ?_ | apply HC.block | apply HC.skip | apply HC.exit | apply HC.ret | apply HX.e_block | refine HX.e_other rfl ?_ | apply HX.e_then | apply HX.e_again | apply HX.n_block | apply HX.r_then | apply HX.r_block | apply HX.r_again | refine HC.cond_yes rfl ?_ | refine HC.cond_no rfl ?_ | refine HL.one (H1.ldb rfl memA rfl rfl ?_) | refine HC.cond rfl (fun hc => ?_) (fun hc => ?_) | refine HC.cond_b rfl (fun hc => ?_) (fun hc => ?_))
    refine HL.one (H1.ldg (vs := rowV R zr) rfl memA hzv rfl ?_)
    repeat' (first | apply HL.fold | apply HA.fold | apply HL.nil | apply HX.n_then | apply HC.seq | apply HC.region | refine HL.pa ?_ | refine HL.ga rfl ?_ | refine HL.na rfl ?_ | refine HL.nu rfl rfl ?_ | apply HC.block | apply HC.skip | apply HC.exit | apply HC.ret | apply HX.e_block | refine HX.e_other rfl ?_ | apply HX.e_then | apply HX.e_again | apply HX.n_block | apply HX.r_then | apply HX.r_block | apply HX.r_again | refine HC.cond_yes rfl ?_ | refine HC.cond_no rfl ?_ | refine HL.one (H1.ldb rfl memA rfl rfl ?_) | refine HC.cond rfl (fun hc => ?_) (fun hc => ?_) | refine HC.cond_b rfl (fun hc => ?_) (fun hc => ?_))
    refine HX.ret2 rfl rfl rfl fun w' hM => ⟨(az, cz), trivial, ?_, ?_⟩
    · rw [hbs]; rfl
    · rw [hbs]
      have h1 : Mm w (A.all (rowK R zr) :: [A.grow 25 1 (some ⟨bR, 0, none⟩) cR R.length (rowV R zr), A.blk b4 d.cells 24]) w' := hM.sub (by repeat (first | exact Hs.nil _ | (refine Hs.cons pickA ?_)))
      exact h1.unpack.one (List.mem_append_left _ hzk)
  | false =>
    repeat' (first | apply HL.fold | apply HA.fold | apply HL.nil | apply HX.n_then | apply HC.seq | apply HC.region | refine HL.pa ?_ | refine HL.ga rfl ?_ | refine HL.na rfl ?_ | refine HL.nu rfl rfl ?_ | apply HC.block | apply HC.skip | apply HC.exit | apply HC.ret | apply HX.e_block | refine HX.e_other rfl ?_ | apply HX.e_then | apply HX.e_again | apply HX.n_block | apply HX.r_then | apply HX.r_block | apply HX.r_again | refine HC.cond_yes rfl ?_ | refine HC.cond_no rfl ?_ | refine HL.one (H1.ldb rfl memA rfl rfl ?_) | refine HC.cond rfl (fun hc => ?_) (fun hc => ?_) | refine HC.cond_b rfl (fun hc => ?_) (fun hc => ?_))
    refine HX.again (i + 1) ⟨by omega, fun j hj hj2 => ?_⟩ (by omega) esA (by repeat (first | exact Hs.nil _ | (refine Hs.cons pickA ?_)))
    by_cases e : j = i
    · subst e; exact hb
    · exact hno j hj (by omega)
end Go.Sx

