/- Chapter 18: the law PlaceJoined. -/
import Derived.Test.YtfjkdciblblalaaGreatDoorTW
import Derived.Test.YtfjkdciblblalaaGreatDoorCC
namespace Go.Sx
open Go Go.Proofs Go.RowKit
theorem tf_map {l : List Nat} {p : Nat → Bool} {i : Nat} (h : i < l.length) : tf (l.map p) i = p l[i] := by
  unfold tf
  rw [List.getD_eq_getElem?_getD, List.getElem?_map, List.getElem?_eq_getElem h]; rfl
theorem count_map (l : List Nat) (p : Nat → Bool) : ((List.range (l.map p).length).filter (tf (l.map p))).length = (l.filter p).length := by
  have e : l = (List.range l.length).map fun i => l.getD i 0 := by
    apply List.ext_getElem
    · simp
    · intro i h1 h2; simp [h1]
  have e2 : l.filter p = ((List.range l.length).filter (p ∘ fun i => l.getD i 0)).map fun i => l.getD i 0 := by
    rw [← List.filter_map, ← e]
  rw [e2, List.length_map, List.length_map]
  congr 1
  refine List.filter_congr fun i hi => ?_
  have hi' := List.mem_range.1 hi
  rw [tf_map hi']
  show p l[i] = p (l.getD i 0)
  rw [List.getD_eq_getElem?_getD, List.getElem?_eq_getElem hi']; rfl
theorem joined_agree (s : ByteArray) (l : List Nat) (p : Nat → Bool) (k : Nat) (hk : 1 ≤ k) (hl : l.length ≤ 9) (hc : k ≤ (l.filter p).length) :
    Agree ((List.range l.length).map fun i => if tf (l.map p) i = true then codeA s k i else noStr) (l.map p) s k :=
  ⟨hk, by rw [List.length_map]; omega, fun i hi ht => by
    rw [List.length_map] at hi
    rw [fr_range _ hi, if_pos ht], cN_len (by rw [count_map]; exact hc)⟩
theorem bools_row (l : List Nat) (p : Nat → Bool) : bools (l.map p) = row l.length fun q => .bool (tf (l.map p) q) := by
  unfold bools row
  apply List.ext_getElem
  · simp
  · intro i h1 h2
    simp only [List.length_map] at h1
    simp only [List.getElem_map, List.getElem_range, tf_map h1]
attribute [local irreducible] WC WL WX POp Then Again Fn NX W1 WA WO QL RP RA Yld LoopAt HC HL HX HN H1 HA HO HQ HB HP A.blk A.grow A.rd A.obj A.mp AgainH CutH
attribute [local irreducible] A.mq A.mit A.dfrs A.loop mapsA A.land A.pure chk best
set_option maxHeartbeats 4000000 in
theorem placeJoined_fn (s : ByteArray) (v : Value) (X : List St) (y : Di) (set k : Int) (g : St) (li : Int) (hs : s.size ≤ 9223372036854775807) (hX : X.length ≤ 9223372036854775807) (hxb : ∀ s ∈ X, s.i64) (hyb : y.b.i64 ∧ i64R y.liars) (hset : i64R set) (hk : i64R k) (hg : g.i64) (hli : i64R li) (w : World) (hr : Red w) (hT : RdS w v X) :
    Fn Tryz.prog 4 #[.string s, .agg (caseC v y set k).toArray, .agg (sc g).toArray, zv li] w fun u w' => u = .bool true ∧ Ext w w' := by
  obtain ⟨hg0, hg1, hg2, hg3⟩ := hg
  have h7 := madeN_7 X
  have hoL := ownL_len X set
  have hoK := caseK_in X set k
  have hdi := madeD_in y
  have hv := madeV X y
  refine enterH (l := [_, _, _, _]) rfl Tryz.ntmps4 rfl ?_
  repeat' (first | apply HL.fold | apply HA.fold | apply HL.nil | apply HX.n_then | apply HC.seq | apply HC.region | refine HL.pa ?_ | refine HL.ga rfl ?_ | refine HL.na rfl ?_ | refine HL.nu rfl rfl ?_ | apply HC.block | apply HC.skip | apply HC.exit | apply HC.ret | apply HX.e_block | refine HX.e_other rfl ?_ | apply HX.e_then | apply HX.e_again | apply HX.n_block | apply HX.r_then | apply HX.r_block | apply HX.r_again | refine HC.cond_yes rfl ?_ | refine HC.cond_no rfl ?_ | refine HL.one (H1.ldb rfl memA rfl rfl ?_) | refine HC.cond rfl (fun hc => ?_) (fun hc => ?_) | refine HC.cond_b rfl (fun hc => ?_) (fun hc => ?_))
  refine HL.one (H1.boxAgg (cs := caseC v y set k) rfl rfl (fun b5 => ?_))
  repeat' (first | apply HL.fold | apply HA.fold | apply HL.nil | apply HX.n_then | apply HC.seq | apply HC.region | refine HL.pa ?_ | refine HL.ga rfl ?_ | refine HL.na rfl ?_ | refine HL.nu rfl rfl ?_ | apply HC.block | apply HC.skip | apply HC.exit | apply HC.ret | apply HX.e_block | refine HX.e_other rfl ?_ | apply HX.e_then | apply HX.e_again | apply HX.n_block | apply HX.r_then | apply HX.r_block | apply HX.r_again | refine HC.cond_yes rfl ?_ | refine HC.cond_no rfl ?_ | refine HL.one (H1.ldb rfl memA rfl rfl ?_) | refine HC.cond rfl (fun hc => ?_) (fun hc => ?_) | refine HC.cond_b rfl (fun hc => ?_) (fun hc => ?_))
  refine HL.one (H1.boxAgg (cs := sc g) rfl rfl (fun b6 => ?_))
  repeat' (first | apply HL.fold | apply HA.fold | apply HL.nil | apply HX.n_then | apply HC.seq | apply HC.region | refine HL.pa ?_ | refine HL.ga rfl ?_ | refine HL.na rfl ?_ | refine HL.nu rfl rfl ?_ | apply HC.block | apply HC.skip | apply HC.exit | apply HC.ret | apply HX.e_block | refine HX.e_other rfl ?_ | apply HX.e_then | apply HX.e_again | apply HX.n_block | apply HX.r_then | apply HX.r_block | apply HX.r_again | refine HC.cond_yes rfl ?_ | refine HC.cond_no rfl ?_ | refine HL.one (H1.ldb rfl memA rfl rfl ?_) | refine HC.cond rfl (fun hc => ?_) (fun hc => ?_) | refine HC.cond_b rfl (fun hc => ?_) (fun hc => ?_))
  refine HL.one (H1.callx (vs := []) rfl rfl (fun w' _ => ksane_fn w') ?_)
  repeat' (first | apply HL.fold | apply HA.fold | apply HL.nil | apply HX.n_then | apply HC.seq | apply HC.region | refine HL.pa ?_ | refine HL.ga rfl ?_ | refine HL.na rfl ?_ | refine HL.nu rfl rfl ?_ | apply HC.block | apply HC.skip | apply HC.exit | apply HC.ret | apply HX.e_block | refine HX.e_other rfl ?_ | apply HX.e_then | apply HX.e_again | apply HX.n_block | apply HX.r_then | apply HX.r_block | apply HX.r_again | refine HC.cond_yes rfl ?_ | refine HC.cond_no rfl ?_ | refine HL.one (H1.ldb rfl memA rfl rfl ?_) | refine HC.cond rfl (fun hc => ?_) (fun hc => ?_) | refine HC.cond_b rfl (fun hc => ?_) (fun hc => ?_))
  obtain ⟨O, hO⟩ : ∃ O, O = s.extract 0 (min (s.size : Int) 100).toNat := ⟨_, rfl⟩
  have hOl : O.size ≤ 100 := by rw [hO, ByteArray.size_extract]; omega
  rw [← hO]
  refine HL.one (H1.ldAgg (vs := caseC v y set k) rfl memA rfl (fun i v hv => by rw [Nat.zero_add]; exact hv) rfl ?_)
  repeat' (first | apply HL.fold | apply HA.fold | apply HL.nil | apply HX.n_then | apply HC.seq | apply HC.region | refine HL.pa ?_ | refine HL.ga rfl ?_ | refine HL.na rfl ?_ | refine HL.nu rfl rfl ?_ | apply HC.block | apply HC.skip | apply HC.exit | apply HC.ret | apply HX.e_block | refine HX.e_other rfl ?_ | apply HX.e_then | apply HX.e_again | apply HX.n_block | apply HX.r_then | apply HX.r_block | apply HX.r_again | refine HC.cond_yes rfl ?_ | refine HC.cond_no rfl ?_ | refine HL.one (H1.ldb rfl memA rfl rfl ?_) | refine HC.cond rfl (fun hc => ?_) (fun hc => ?_) | refine HC.cond_b rfl (fun hc => ?_) (fun hc => ?_))
  refine HL.one (H1.callz (vs := [.agg (caseC v y set k).toArray]) rfl rfl (fun w' hM => kmade_fn v X y set k hX hxb hyb hset hk w' (hT.ext hM.ext)) ?_)
  rintro ⟨⟨aS, cS⟩, ⟨aL, cL⟩⟩ ⟨bL, hbL⟩
  dsimp only [List.cons_append, List.nil_append] at hbL ⊢
  subst hbL
  repeat' (first | apply HL.fold | apply HA.fold | apply HL.nil | apply HX.n_then | apply HC.seq | apply HC.region | refine HL.pa ?_ | refine HL.ga rfl ?_ | refine HL.na rfl ?_ | refine HL.nu rfl rfl ?_ | apply HC.block | apply HC.skip | apply HC.exit | apply HC.ret | apply HX.e_block | refine HX.e_other rfl ?_ | apply HX.e_then | apply HX.e_again | apply HX.n_block | apply HX.r_then | apply HX.r_block | apply HX.r_again | refine HC.cond_yes rfl ?_ | refine HC.cond_no rfl ?_ | refine HL.one (H1.ldb rfl memA rfl rfl ?_) | refine HC.cond rfl (fun hc => ?_) (fun hc => ?_) | refine HC.cond_b rfl (fun hc => ?_) (fun hc => ?_))
  refine HL.one (H1.alloc (cs := [zv 0, zv 0, zv 0, zv 0, zv 0]) rfl rfl (fun b11 => ?_))
  repeat' (first | apply HL.fold | apply HA.fold | apply HL.nil | apply HX.n_then | apply HC.seq | apply HC.region | refine HL.pa ?_ | refine HL.ga rfl ?_ | refine HL.na rfl ?_ | refine HL.nu rfl rfl ?_ | apply HC.block | apply HC.skip | apply HC.exit | apply HC.ret | apply HX.e_block | refine HX.e_other rfl ?_ | apply HX.e_then | apply HX.e_again | apply HX.n_block | apply HX.r_then | apply HX.r_block | apply HX.r_again | refine HC.cond_yes rfl ?_ | refine HC.cond_no rfl ?_ | refine HL.one (H1.ldb rfl memA rfl rfl ?_) | refine HC.cond rfl (fun hc => ?_) (fun hc => ?_) | refine HC.cond_b rfl (fun hc => ?_) (fun hc => ?_))
  refine HL.one (H1.stAgg (cs := [zv 0, zv 0, zv 0, zv 0, zv 0]) (vs := (madeD y).cells) rfl rfl rfl (by unfold Di.cells; intro v hv; simp only [List.mem_cons, List.not_mem_nil, or_false] at hv; rcases hv with rfl | rfl | rfl | rfl | rfl <;> rfl) rplA rfl ?_)
  repeat' (first | apply HL.fold | apply HA.fold | apply HL.nil | apply HX.n_then | apply HC.seq | apply HC.region | refine HL.pa ?_ | refine HL.ga rfl ?_ | refine HL.na rfl ?_ | refine HL.nu rfl rfl ?_ | apply HC.block | apply HC.skip | apply HC.exit | apply HC.ret | apply HX.e_block | refine HX.e_other rfl ?_ | apply HX.e_then | apply HX.e_again | apply HX.n_block | apply HX.r_then | apply HX.r_block | apply HX.r_again | refine HC.cond_yes rfl ?_ | refine HC.cond_no rfl ?_ | refine HL.one (H1.ldb rfl memA rfl rfl ?_) | refine HC.cond rfl (fun hc => ?_) (fun hc => ?_) | refine HC.cond_b rfl (fun hc => ?_) (fun hc => ?_))
  refine HL.one (H1.ldAgg (vs := (madeD y).cells) rfl memA rfl (fun i v hv => by rw [Nat.zero_add]; exact hv) rfl ?_)
  repeat' (first | apply HL.fold | apply HA.fold | apply HL.nil | apply HX.n_then | apply HC.seq | apply HC.region | refine HL.pa ?_ | refine HL.ga rfl ?_ | refine HL.na rfl ?_ | refine HL.nu rfl rfl ?_ | apply HC.block | apply HC.skip | apply HC.exit | apply HC.ret | apply HX.e_block | refine HX.e_other rfl ?_ | apply HX.e_then | apply HX.e_again | apply HX.n_block | apply HX.r_then | apply HX.r_block | apply HX.r_again | refine HC.cond_yes rfl ?_ | refine HC.cond_no rfl ?_ | refine HL.one (H1.ldb rfl memA rfl rfl ?_) | refine HC.cond rfl (fun hc => ?_) (fun hc => ?_) | refine HC.cond_b rfl (fun hc => ?_) (fun hc => ?_))
  refine HL.one (H1.callz1 (An := fun z : Option Addr × Nat => A.grow 3 1 z.1 z.2 (chk (madeS X) (madeD y) (natI (ownL X set)) (caseK X set k)).1.length (ints (natI (chk (madeS X) (madeD y) (natI (ownL X set)) (caseK X set k)).1))) (vs := [.slice aS (madeS X).length cS, .agg (madeD y).cells.toArray, .slice (some ⟨bL, 0, none⟩) (ownL X set).length cL, zv (caseK X set k)]) rfl rfl (fun w' hM => by
    have h1 := hM.gr (a := some ⟨bL, 0, none⟩) (c := cL) memA
    exact check_fn _ (madeS X) (madeD y) _ (natI (ownL X set)) (caseK X set k) (by rw [madeS_len]; omega) (by rw [natI_len]; omega) w' (RdS.own (a := aS) (c := cS) hM memA) h1) ?_)
  rintro ⟨aC, cC⟩ -
  dsimp only
  obtain ⟨kk, hkk⟩ : ∃ n : Nat, caseK X set k = (n : Int) := ⟨(caseK X set k).toNat, by omega⟩
  have hla := ownL_len X set
  have hsur := fun G L => survive (S := madeS X) (d := madeD y) (l := ownL X set) (k := caseK X set k) (G := G) (L := L) (ownL_asc X set) (fun i hi => by rw [madeS_len]; exact ownL_lt hi) hv
  rw [hkk] at hoK hsur ⊢
  repeat' (first | apply HL.fold | apply HA.fold | apply HL.nil | apply HX.n_then | apply HC.seq | apply HC.region | refine HL.pa ?_ | refine HL.ga rfl ?_ | refine HL.na rfl ?_ | refine HL.nu rfl rfl ?_ | apply HC.block | apply HC.skip | apply HC.exit | apply HC.ret | apply HX.e_block | refine HX.e_other rfl ?_ | apply HX.e_then | apply HX.e_again | apply HX.n_block | apply HX.r_then | apply HX.r_block | apply HX.r_again | refine HC.cond_yes rfl ?_ | refine HC.cond_no rfl ?_ | refine HL.one (H1.ldb rfl memA rfl rfl ?_) | refine HC.cond rfl (fun hc => ?_) (fun hc => ?_) | refine HC.cond_b rfl (fun hc => ?_) (fun hc => ?_))
  refine HL.one (H1.callz1 (vs := [.string O, zv (kk : Int), zv ((ownL X set).length : Int)]) rfl rfl (fun w' hM => split_z O kk (ownL X set).length (by omega) (by omega) (by omega) (by omega) w' (hr.ext hM.ext)) ?_)
  rintro bF -
  cases hs : (chk (madeS X) (madeD y) (natI (ownL X set)) (kk : Int)).2 with
  | false =>
    repeat' (first | apply HL.fold | apply HA.fold | apply HL.nil | apply HX.n_then | apply HC.seq | apply HC.region | refine HL.pa ?_ | refine HL.ga rfl ?_ | refine HL.na rfl ?_ | refine HL.nu rfl rfl ?_ | apply HC.block | apply HC.skip | apply HC.exit | apply HC.ret | apply HX.e_block | refine HX.e_other rfl ?_ | apply HX.e_then | apply HX.e_again | apply HX.n_block | apply HX.r_then | apply HX.r_block | apply HX.r_again | refine HC.cond_yes rfl ?_ | refine HC.cond_no rfl ?_ | refine HL.one (H1.ldb rfl memA rfl rfl ?_) | refine HC.cond rfl (fun hc => ?_) (fun hc => ?_) | refine HC.cond_b rfl (fun hc => ?_) (fun hc => ?_))
    exact HX.ret1 rfl rfl fun w' hM => ⟨rfl, hM.ext⟩
  | true =>
  have hsur2 := fun G L => hsur G L hs
  repeat' (first | apply HL.fold | apply HA.fold | apply HL.nil | apply HX.n_then | apply HC.seq | apply HC.region | refine HL.pa ?_ | refine HL.ga rfl ?_ | refine HL.na rfl ?_ | refine HL.nu rfl rfl ?_ | apply HC.block | apply HC.skip | apply HC.exit | apply HC.ret | apply HX.e_block | refine HX.e_other rfl ?_ | apply HX.e_then | apply HX.e_again | apply HX.n_block | apply HX.r_then | apply HX.r_block | apply HX.r_again | refine HC.cond_yes rfl ?_ | refine HC.cond_no rfl ?_ | refine HL.one (H1.ldb rfl memA rfl rfl ?_) | refine HC.cond rfl (fun hc => ?_) (fun hc => ?_) | refine HC.cond_b rfl (fun hc => ?_) (fun hc => ?_))
  have hd0 := hdi.1 0
  have hd1 := hdi.1 1
  have hd2 := hdi.1 2
  have hd3 := hdi.1 3
  obtain ⟨G, hGd⟩ : ∃ G : Nat → List Nat, G = fun q => firstL (g.at q) 6 ((madeD y).b.at q).toNat := ⟨_, rfl⟩
  refine HC.anyC (cellsA b6 (sc g) ++ (cellsA b11 (madeD y).cells ++ [])) rfl ?_
  refine HB.pa 0 rfl ?_
  refine HB.pa 1 rfl ?_
  refine HB.ld 2 rfl rfl (cellsL (cellsA_mem (v := zv g.p) rfl)) ?_
  refine HB.pa 4 rfl ?_
  refine HB.ld 5 rfl rfl (cellsR (cellsL (cellsA_mem (v := zv (madeD y).b.p) rfl))) ?_
  refine HB.pa 7 rfl ?_
  refine HB.ld 8 rfl rfl (cellsL (cellsA_mem (v := zv g.r) rfl)) ?_
  refine HB.pa 10 rfl ?_
  refine HB.ld 11 rfl rfl (cellsR (cellsL (cellsA_mem (v := zv (madeD y).b.r) rfl))) ?_
  refine HB.pa 13 rfl ?_
  refine HB.ld 14 rfl rfl (cellsL (cellsA_mem (v := zv g.v) rfl)) ?_
  refine HB.pa 16 rfl ?_
  refine HB.ld 17 rfl rfl (cellsR (cellsL (cellsA_mem (v := zv (madeD y).b.v) rfl))) ?_
  refine HB.pa 19 rfl ?_
  refine HB.ld 20 rfl rfl (cellsL (cellsA_mem (v := zv g.l) rfl)) ?_
  refine HB.pa 22 rfl ?_
  refine HB.ld 23 rfl rfl (cellsR (cellsL (cellsA_mem (v := zv (madeD y).b.l) rfl))) ?_
  refine HB.all (by exact Keep.blkA memA (Keep.blkA memA Keep.nil)) [3] (by kernel_rfl) rfl ⟨⟨_, rfl, ?_⟩, trivial⟩
  refine HP.one ?_
  refine H1.callz1 (vs := [zv g.p, zv (6 : Nat)]) rfl rfl (fun w' _ => some_fn g.p 6 hg0 (by decide) w') ?_
  rintro ⟨a0, c0⟩ -
  dsimp only
  apply HB.fold
  refine HB.all (by exact Keep.blkA memA (Keep.blkA memA Keep.nil)) [6] (by kernel_rfl) rfl ⟨⟨_, rfl, ?_⟩, trivial⟩
  refine HP.one ?_
  refine H1.call0 (vs := [.slice a0 (somL g.p 6).length c0, zv (madeD y).b.p]) rfl rfl (fun w' hM => hM.firstFn hd0.1 (by decide) memA) ?_
  apply HB.fold
  refine HB.all (by exact Keep.blkA memA (Keep.blkA memA Keep.nil)) [9] (by kernel_rfl) rfl ⟨⟨_, rfl, ?_⟩, trivial⟩
  refine HP.one ?_
  refine H1.callz1 (vs := [zv g.r, zv (6 : Nat)]) rfl rfl (fun w' _ => some_fn g.r 6 hg1 (by decide) w') ?_
  rintro ⟨a1, c1⟩ -
  dsimp only
  apply HB.fold
  refine HB.all (by exact Keep.blkA memA (Keep.blkA memA Keep.nil)) [12] (by kernel_rfl) rfl ⟨⟨_, rfl, ?_⟩, trivial⟩
  refine HP.one ?_
  refine H1.call0 (vs := [.slice a1 (somL g.r 6).length c1, zv (madeD y).b.r]) rfl rfl (fun w' hM => hM.firstFn hd1.1 (by decide) memA) ?_
  apply HB.fold
  refine HB.all (by exact Keep.blkA memA (Keep.blkA memA Keep.nil)) [15] (by kernel_rfl) rfl ⟨⟨_, rfl, ?_⟩, trivial⟩
  refine HP.one ?_
  refine H1.callz1 (vs := [zv g.v, zv (6 : Nat)]) rfl rfl (fun w' _ => some_fn g.v 6 hg2 (by decide) w') ?_
  rintro ⟨a2, c2⟩ -
  dsimp only
  apply HB.fold
  refine HB.all (by exact Keep.blkA memA (Keep.blkA memA Keep.nil)) [18] (by kernel_rfl) rfl ⟨⟨_, rfl, ?_⟩, trivial⟩
  refine HP.one ?_
  refine H1.call0 (vs := [.slice a2 (somL g.v 6).length c2, zv (madeD y).b.v]) rfl rfl (fun w' hM => hM.firstFn hd2.1 (by decide) memA) ?_
  apply HB.fold
  refine HB.all (by exact Keep.blkA memA (Keep.blkA memA Keep.nil)) [21] (by kernel_rfl) rfl ⟨⟨_, rfl, ?_⟩, trivial⟩
  refine HP.one ?_
  refine H1.callz1 (vs := [zv g.l, zv (6 : Nat)]) rfl rfl (fun w' _ => some_fn g.l 6 hg3 (by decide) w') ?_
  rintro ⟨a3, c3⟩ -
  dsimp only
  apply HB.fold
  refine HB.all (by exact Keep.blkA memA (Keep.blkA memA Keep.nil)) [24] (by kernel_rfl) rfl ⟨⟨_, rfl, ?_⟩, trivial⟩
  refine HP.one ?_
  refine H1.call0 (vs := [.slice a3 (somL g.l 6).length c3, zv (madeD y).b.l]) rfl rfl (fun w' hM => hM.firstFn hd3.1 (by decide) memA) ?_
  apply HB.fold
  refine HB.all (by exact Keep.blkA memA (Keep.blkA memA Keep.nil)) [25] (by kernel_rfl) rfl ⟨⟨_, rfl, ?_⟩, trivial⟩
  refine HP.one ?_
  refine H1.callz1 (An := fun z : Option Addr × Nat => A.grow 3 1 z.1 z.2 (strG (madeS X) G).length (ints (natI (strG (madeS X) G)))) (V := fun z => .slice z.1 (strG (madeS X) G).length z.2) (I := fun _ => True) (vs := [.slice aS (madeS X).length cS, .slice a0 (min (somL g.p 6).length (madeD y).b.p.toNat) c0, .slice a1 (min (somL g.r 6).length (madeD y).b.r.toNat) c1, .slice a2 (min (somL g.v 6).length (madeD y).b.v.toNat) c2, .slice a3 (min (somL g.l 6).length (madeD y).b.l.toNat) c3]) rfl rfl (fun w' hM => by
      have := struck_fn (.slice aS (madeS X).length cS) (madeS X) (fun q => if q = 0 then .slice a0 (min (somL g.p 6).length (madeD y).b.p.toNat) c0 else if q = 1 then .slice a1 (min (somL g.r 6).length (madeD y).b.r.toNat) c1 else if q = 2 then .slice a2 (min (somL g.v 6).length (madeD y).b.v.toNat) c2 else .slice a3 (min (somL g.l 6).length (madeD y).b.l.toNat) c3) (fun q => natI (G q)) (by rw [madeS_len]; omega) (fun q hq => by rw [natI_len, hGd]; have := firstL_len (g.at q) 6 ((madeD y).b.at q).toNat; have := hdi.1 q; dsimp only; omega) w' (RdS.own (a := aS) (c := cS) hM memA) (fun q hq => by
        rw [hGd]
        rcases (show q = 0 ∨ q = 1 ∨ q = 2 ∨ q = 3 by omega) with rfl | rfl | rfl | rfl
        · exact hM.firstRd (x := g.p) (n := 6) memA
        · exact hM.firstRd (x := g.r) (n := 6) memA
        · exact hM.firstRd (x := g.v) (n := 6) memA
        · exact hM.firstRd (x := g.l) (n := 6) memA)
      exact this) ?_
  rintro ⟨aT, cT⟩ -
  dsimp only
  apply HB.fold
  refine HB.pa 26 rfl ?_
  refine HB.done (by exact Keep.blkA memA (Keep.blkA memA Keep.nil)) (by kernel_rfl) ?_
  skip
  repeat' (first | apply HL.fold | apply HA.fold | apply HL.nil | apply HX.n_then | apply HC.seq | apply HC.region | refine HL.pa ?_ | refine HL.ga rfl ?_ | refine HL.na rfl ?_ | refine HL.nu rfl rfl ?_ | apply HC.block | apply HC.skip | apply HC.exit | apply HC.ret | apply HX.e_block | refine HX.e_other rfl ?_ | apply HX.e_then | apply HX.e_again | apply HX.n_block | apply HX.r_then | apply HX.r_block | apply HX.r_again | refine HC.cond_yes rfl ?_ | refine HC.cond_no rfl ?_ | refine HL.one (H1.ldb rfl memA rfl rfl ?_) | refine HC.cond rfl (fun hc => ?_) (fun hc => ?_) | refine HC.cond_b rfl (fun hc => ?_) (fun hc => ?_))
  rw [madeS_len]
  obtain ⟨L, hLd⟩ : ∃ L : List Nat, L = firstL li (madeN X) (madeD y).liars.toNat := ⟨_, rfl⟩
  refine HC.cut (α := Option Addr × Nat) (fun z => [(0, .string O), (9, .bool true), (12, .slice (some ⟨bL, 0, none⟩) (ownL X set).length cL), (13, zv (kk : Int)), (16, .slice (some ⟨bF, 0, none⟩) (ownL X set).length (ownL X set).length), (18, .slice aT (strG (madeS X) G).length cT), (19, .slice z.1 (min (somL li (madeN X)).length (madeD y).liars.toNat) z.2)])
    (fun z => [A.grow 3 1 z.1 z.2 (somL li (madeN X)).length (ints (natI (somL li (madeN X)))), A.grow 3 1 aT cT (strG (madeS X) G).length (ints (natI (strG (madeS X) G))), A.rd (.slice (some ⟨bF, 0, none⟩) (ownL X set).length (ownL X set).length) (strs (codeL O kk (ownL X set).length)), A.grow 3 1 (some ⟨bL, 0, none⟩) cL (ownL X set).length (ints (natI (ownL X set)))]) (fun _ => True) ?_ ?_
  · refine HC.anyC (cellsA b11 (madeD y).cells ++ []) rfl ?_
    refine HB.pa 0 rfl ?_
    refine HB.pa 1 rfl ?_
    refine HB.pa 2 rfl ?_
    refine HB.pa 4 rfl ?_
    refine HB.ld 5 rfl rfl (cellsL (cellsA_mem (v := zv (madeD y).liars) rfl)) ?_
    refine HB.all (by exact Keep.blkA memA Keep.nil) [3] (by kernel_rfl) rfl ⟨⟨_, rfl, ?_⟩, trivial⟩
    refine HP.one ?_
    refine H1.callz1 (vs := [zv li, zv (madeN X : Int)]) rfl rfl (fun w' _ => some_fn li (madeN X) hli (by omega) w') ?_
    rintro ⟨a5, c5⟩ -
    dsimp only
    apply HB.fold
    refine HB.all (by exact Keep.blkA memA Keep.nil) [6] (by kernel_rfl) rfl ⟨⟨_, rfl, ?_⟩, trivial⟩
    refine HP.one ?_
    refine H1.call0 (vs := [.slice a5 (somL li (madeN X)).length c5, zv (madeD y).liars]) rfl rfl (fun w' hM => hM.firstFn hdi.2.1 (by omega) memA) ?_
    apply HB.fold
    refine HB.pa 7 rfl ?_
    refine HB.done (by exact Keep.blkA memA Keep.nil) (by kernel_rfl) ?_
    repeat' (first | apply HL.fold | apply HA.fold | apply HL.nil | apply HX.n_then | apply HC.seq | apply HC.region | refine HL.pa ?_ | refine HL.ga rfl ?_ | refine HL.na rfl ?_ | refine HL.nu rfl rfl ?_ | apply HC.block | apply HC.skip | apply HC.exit | apply HC.ret | apply HX.e_block | refine HX.e_other rfl ?_ | apply HX.e_then | apply HX.e_again | apply HX.n_block | apply HX.r_then | apply HX.r_block | apply HX.r_again | refine HC.cond_yes rfl ?_ | refine HC.cond_no rfl ?_ | refine HL.one (H1.ldb rfl memA rfl rfl ?_) | refine HC.cond rfl (fun hc => ?_) (fun hc => ?_) | refine HC.cond_b rfl (fun hc => ?_) (fun hc => ?_))
    exact HX.cut (a5, c5) trivial esA (by repeat (first | exact Hs.nil _ | (refine Hs.cons pickA ?_)))
  rintro ⟨a5, c5⟩ -
  dsimp only
  have hfin := hsur2 G L (fun q hq => by rw [hGd]; exact firstL_len _ _ _) (by rw [hLd]; exact firstL_len _ _ _)
  have hag := joined_agree O (ownL X set) (leftB (madeS X) G L) kk (by omega) (by omega) (by omega)
  have hLl : (firstL li (madeN X) (madeD y).liars.toNat).length ≤ 2 := by have := firstL_len li (madeN X) (madeD y).liars.toNat; omega
  have hSl : (strG (madeS X) G).length ≤ 7 := by have := struckL_len (madeS X) (fun q => natI (G q)) (madeS X).length; rw [madeS_len] at this; unfold strG; rw [madeS_len]; omega
  generalize hp : leftB (madeS X) G L = p at *
  generalize hl : ownL X set = l at *
  obtain ⟨n, hn⟩ : ∃ n, n = l.length := ⟨_, rfl⟩
  repeat' (first | apply HL.fold | apply HA.fold | apply HL.nil | apply HX.n_then | apply HC.seq | apply HC.region | refine HL.pa ?_ | refine HL.ga rfl ?_ | refine HL.na rfl ?_ | refine HL.nu rfl rfl ?_ | apply HC.block | apply HC.skip | apply HC.exit | apply HC.ret | apply HX.e_block | refine HX.e_other rfl ?_ | apply HX.e_then | apply HX.e_again | apply HX.n_block | apply HX.r_then | apply HX.r_block | apply HX.r_again | refine HC.cond_yes rfl ?_ | refine HC.cond_no rfl ?_ | refine HL.one (H1.ldb rfl memA rfl rfl ?_) | refine HC.cond rfl (fun hc => ?_) (fun hc => ?_) | refine HC.cond_b rfl (fun hc => ?_) (fun hc => ?_))
  refine HL.one (H1.make (l := l.length) (c := l.length) rfl rfl rfl rfl rfl (Nat.le_refl _) (by omega) (by omega) rfl (fun bA => ?_))
  repeat' (first | apply HL.fold | apply HA.fold | apply HL.nil | apply HX.n_then | apply HC.seq | apply HC.region | refine HL.pa ?_ | refine HL.ga rfl ?_ | refine HL.na rfl ?_ | refine HL.nu rfl rfl ?_ | apply HC.block | apply HC.skip | apply HC.exit | apply HC.ret | apply HX.e_block | refine HX.e_other rfl ?_ | apply HX.e_then | apply HX.e_again | apply HX.n_block | apply HX.r_then | apply HX.r_block | apply HX.r_again | refine HC.cond_yes rfl ?_ | refine HC.cond_no rfl ?_ | refine HL.one (H1.ldb rfl memA rfl rfl ?_) | refine HC.cond rfl (fun hc => ?_) (fun hc => ?_) | refine HC.cond_b rfl (fun hc => ?_) (fun hc => ?_))
  refine HL.one (H1.make (l := l.length) (c := l.length) rfl rfl rfl rfl rfl (Nat.le_refl _) (by omega) (by omega) rfl (fun bT => ?_))
  rw [row_rep, row_rep]
  repeat' (first | apply HL.fold | apply HA.fold | apply HL.nil | apply HX.n_then | apply HC.seq | apply HC.region | refine HL.pa ?_ | refine HL.ga rfl ?_ | refine HL.na rfl ?_ | refine HL.nu rfl rfl ?_ | apply HC.block | apply HC.skip | apply HC.exit | apply HC.ret | apply HX.e_block | refine HX.e_other rfl ?_ | apply HX.e_then | apply HX.e_again | apply HX.n_block | apply HX.r_then | apply HX.r_block | apply HX.r_again | refine HC.cond_yes rfl ?_ | refine HC.cond_no rfl ?_ | refine HL.one (H1.ldb rfl memA rfl rfl ?_) | refine HC.cond rfl (fun hc => ?_) (fun hc => ?_) | refine HC.cond_b rfl (fun hc => ?_) (fun hc => ?_))
  refine HC.loop (α := Nat) (fun i => [(0, .string O), (9, .bool true), (12, .slice (some ⟨bL, 0, none⟩) l.length cL), (13, zv (kk : Int)), (16, .slice (some ⟨bF, 0, none⟩) l.length l.length), (18, .slice aT (strG (madeS X) G).length cT), (19, .slice a5 (min (somL li (madeN X)).length (madeD y).liars.toNat) c5), (20, .slice (some ⟨bA, 0, none⟩) l.length l.length), (21, .slice (some ⟨bT, 0, none⟩) l.length l.length), (22, zv (i : Int))])
    (fun i => [A.blk bT (row l.length fun q => .bool (decide (q < i) && tf (l.map p) q)) 4, A.blk bA (row l.length fun q => .string (if q < i ∧ tf (l.map p) q = true then codeA O kk q else noStr)) 9, A.grow 3 1 a5 c5 (somL li (madeN X)).length (ints (natI (somL li (madeN X)))), A.grow 3 1 aT cT (strG (madeS X) G).length (ints (natI (strG (madeS X) G))), A.rd (.slice (some ⟨bF, 0, none⟩) l.length l.length) (strs (codeL O kk l.length)), A.grow 3 1 (some ⟨bL, 0, none⟩) cL l.length (ints (natI l))])
    (fun i => i ≤ l.length) (fun i => l.length - i) 0 (Nat.zero_le _) esA (Hs.blk (row_congr fun q _ => by simp) (Hs.blk (row_congr fun q _ => by simp; rfl) (by repeat (first | exact Hs.nil _ | (refine Hs.cons pickA ?_))))) ?_
  intro i hi
  by_cases hlt : i < l.length
  rotate_left
  · obtain rfl : i = l.length := by omega
    have hj := hag.join (by simp) (by omega)
    have eA : (row l.length fun q => Value.string (if q < l.length ∧ tf (l.map p) q = true then codeA O kk q else noStr)) = strs ((List.range l.length).map fun i => if tf (l.map p) i = true then codeA O kk i else noStr) := by
      rw [strs_row]; exact row_congr fun q hq => by simp only [hq, true_and]
    have eT : (row l.length fun q => Value.bool (decide (q < l.length) && tf (l.map p) q)) = bools (l.map p) := by
      rw [bools_row]; exact row_congr fun q hq => by simp only [hq, decide_true, Bool.true_and]
    rw [eA, eT]
    have hjv : (catO ((List.range l.length).map fun i => if tf (l.map p) i = true then codeA O kk i else noStr) (l.map p) (kk : Int).toNat).extract 0 ((O.size : Nat) : Int).toNat = O := by
      rw [Int.toNat_natCast, Int.toNat_natCast, hag.cat, padS_take]
    have hFl : ((List.range l.length).map fun i => if tf (l.map p) i = true then codeA O kk i else noStr).length = l.length := by simp
    have hTl : (l.map p).length = l.length := by simp
    generalize ((List.range l.length).map fun i => if tf (l.map p) i = true then codeA O kk i else noStr) = F at *
    generalize l.map p = th at *
    have hsF : (strs F).length = l.length := by simp [strs, hFl]
    have hsT : (bools th).length = l.length := by simp [bools, hTl]
    repeat' (first | apply HL.fold | apply HA.fold | apply HL.nil | apply HX.n_then | apply HC.seq | apply HC.region | refine HL.pa ?_ | refine HL.ga rfl ?_ | refine HL.na rfl ?_ | refine HL.nu rfl rfl ?_ | apply HC.block | apply HC.skip | apply HC.exit | apply HC.ret | apply HX.e_block | refine HX.e_other rfl ?_ | apply HX.e_then | apply HX.e_again | apply HX.n_block | apply HX.r_then | apply HX.r_block | apply HX.r_again | refine HC.cond_yes rfl ?_ | refine HC.cond_no rfl ?_ | refine HL.one (H1.ldb rfl memA rfl rfl ?_) | refine HC.cond rfl (fun hc => ?_) (fun hc => ?_) | refine HC.cond_b rfl (fun hc => ?_) (fun hc => ?_))
    refine HL.one (H1.callx (vs := [.slice (some ⟨bA, 0, none⟩) l.length l.length, .slice (some ⟨bT, 0, none⟩) l.length l.length, zv (kk : Int), zv ((O.size : Nat) : Int)]) rfl rfl (fun w' hM => by
      have h1 := Rd.of_blk (hM.blk (b := bA) (cs := strs F) (e := 9) memA) (l := l.length) (c := l.length) (by omega) (Nat.le_refl _)
      have h2 := Rd.of_blk (hM.blk (b := bT) (cs := bools th) (e := 4) memA) (l := l.length) (c := l.length) (by omega) (Nat.le_refl _)
      rw [List.take_of_length_le (by omega)] at h1 h2
      have h3 := join_yes hj (by omega) (by omega) w' (hr.ext hM.ext) h1 h2
      rw [hjv] at h3
      exact h3) ?_)
    repeat' (first | apply HL.fold | apply HA.fold | apply HL.nil | apply HX.n_then | apply HC.seq | apply HC.region | refine HL.pa ?_ | refine HL.ga rfl ?_ | refine HL.na rfl ?_ | refine HL.nu rfl rfl ?_ | apply HC.block | apply HC.skip | apply HC.exit | apply HC.ret | apply HX.e_block | refine HX.e_other rfl ?_ | apply HX.e_then | apply HX.e_again | apply HX.n_block | apply HX.r_then | apply HX.r_block | apply HX.r_again | refine HC.cond_yes rfl ?_ | refine HC.cond_no rfl ?_ | refine HL.one (H1.ldb rfl memA rfl rfl ?_) | refine HC.cond rfl (fun hc => ?_) (fun hc => ?_) | refine HC.cond_b rfl (fun hc => ?_) (fun hc => ?_))
    exact HX.ret1 rfl rfl fun w' hM => ⟨by rw [decide_eq_true rfl], hM.ext⟩
  have htf : tf (l.map p) i = p l[i] := tf_map hlt
  have hB : ∀ b : Bool, p l[i] = b → (row l.length fun q => Value.bool (decide (q < i) && tf (l.map p) q)).set i (.bool b) = row l.length fun q => .bool (decide (q < i + 1) && tf (l.map p) q) := fun b hb => by
    rw [row_set]
    refine row_congr fun q hq => ?_
    by_cases e : q = i
    · subst e; rw [if_pos rfl, htf, hb]; simp
    · rw [if_neg e]
      have hh : (q < i + 1) = (q < i) := by simp only [eq_iff_iff]; omega
      simp only [hh]
  have hA0 : p l[i] = false → (row l.length fun q => Value.string (if q < i ∧ tf (l.map p) q = true then codeA O kk q else noStr)) = row l.length fun q => .string (if q < i + 1 ∧ tf (l.map p) q = true then codeA O kk q else noStr) := fun hb => by
    refine row_congr fun q hq => ?_
    by_cases e : q = i
    · subst e; rw [htf, hb]; simp
    · have hh : (q < i + 1) = (q < i) := by simp only [eq_iff_iff]; omega
      simp only [hh]
  have hA1 : p l[i] = true → (row l.length fun q => Value.string (if q < i ∧ tf (l.map p) q = true then codeA O kk q else noStr)).set i (.string (codeA O kk i)) = row l.length fun q => .string (if q < i + 1 ∧ tf (l.map p) q = true then codeA O kk q else noStr) := fun hb => by
    rw [row_set]
    refine row_congr fun q hq => ?_
    by_cases e : q = i
    · subst e; rw [if_pos rfl, htf, hb]; simp
    · rw [if_neg e]
      have hh : (q < i + 1) = (q < i) := by simp only [eq_iff_iff]; omega
      simp only [hh]
  repeat' (first | apply HL.fold | apply HA.fold | apply HL.nil | apply HX.n_then | apply HC.seq | apply HC.region | refine HL.pa ?_ | refine HL.ga rfl ?_ | refine HL.na rfl ?_ | refine HL.nu rfl rfl ?_ | apply HC.block | apply HC.skip | apply HC.exit | apply HC.ret | apply HX.e_block | refine HX.e_other rfl ?_ | apply HX.e_then | apply HX.e_again | apply HX.n_block | apply HX.r_then | apply HX.r_block | apply HX.r_again | refine HC.cond_yes rfl ?_ | refine HC.cond_no rfl ?_ | refine HL.one (H1.ldb rfl memA rfl rfl ?_) | refine HC.cond rfl (fun hc => ?_) (fun hc => ?_) | refine HC.cond_b rfl (fun hc => ?_) (fun hc => ?_))
  refine HL.one (H1.ldg (vs := ints (natI l)) rfl memA (natI_get hlt) rfl ?_)
  repeat' (first | apply HL.fold | apply HA.fold | apply HL.nil | apply HX.n_then | apply HC.seq | apply HC.region | refine HL.pa ?_ | refine HL.ga rfl ?_ | refine HL.na rfl ?_ | refine HL.nu rfl rfl ?_ | apply HC.block | apply HC.skip | apply HC.exit | apply HC.ret | apply HX.e_block | refine HX.e_other rfl ?_ | apply HX.e_then | apply HX.e_again | apply HX.n_block | apply HX.r_then | apply HX.r_block | apply HX.r_again | refine HC.cond_yes rfl ?_ | refine HC.cond_no rfl ?_ | refine HL.one (H1.ldb rfl memA rfl rfl ?_) | refine HC.cond rfl (fun hc => ?_) (fun hc => ?_) | refine HC.cond_b rfl (fun hc => ?_) (fun hc => ?_))
  refine HL.one (H1.call0 (vs := [.slice aT (strG (madeS X) G).length cT, zv (l[i] : Int)]) rfl rfl (fun w' hM => khas_fn _ (natI (strG (madeS X) G)) _ (by rw [natI_len]; omega) w' (hM.gr (a := aT) (c := cT) memA)) ?_)
  by_cases hs1 : l[i] ∈ strG (madeS X) G
  · have hb : p l[i] = false := by rw [← hp]; unfold leftB; rw [decide_eq_false (fun h => h hs1)]; rfl
    rw [decide_eq_true (mem_natI.2 hs1)]
    repeat' (first | apply HL.fold | apply HA.fold | apply HL.nil | apply HX.n_then | apply HC.seq | apply HC.region | refine HL.pa ?_ | refine HL.ga rfl ?_ | refine HL.na rfl ?_ | refine HL.nu rfl rfl ?_ | apply HC.block | apply HC.skip | apply HC.exit | apply HC.ret | apply HX.e_block | refine HX.e_other rfl ?_ | apply HX.e_then | apply HX.e_again | apply HX.n_block | apply HX.r_then | apply HX.r_block | apply HX.r_again | refine HC.cond_yes rfl ?_ | refine HC.cond_no rfl ?_ | refine HL.one (H1.ldb rfl memA rfl rfl ?_) | refine HC.cond rfl (fun hc => ?_) (fun hc => ?_) | refine HC.cond_b rfl (fun hc => ?_) (fun hc => ?_))
    refine HL.one (H1.st rfl rfl (by intro _ h; cases h) (by intro _ h; cases h) rplA (by rw [row_len]; omega) ?_)
    rw [hB false hb, hA0 hb]
    repeat' (first | apply HL.fold | apply HA.fold | apply HL.nil | apply HX.n_then | apply HC.seq | apply HC.region | refine HL.pa ?_ | refine HL.ga rfl ?_ | refine HL.na rfl ?_ | refine HL.nu rfl rfl ?_ | apply HC.block | apply HC.skip | apply HC.exit | apply HC.ret | apply HX.e_block | refine HX.e_other rfl ?_ | apply HX.e_then | apply HX.e_again | apply HX.n_block | apply HX.r_then | apply HX.r_block | apply HX.r_again | refine HC.cond_yes rfl ?_ | refine HC.cond_no rfl ?_ | refine HL.one (H1.ldb rfl memA rfl rfl ?_) | refine HC.cond rfl (fun hc => ?_) (fun hc => ?_) | refine HC.cond_b rfl (fun hc => ?_) (fun hc => ?_))
    refine HL.one (H1.ldb (v := .bool false) rfl memA (by rw [row_get _ hlt, htf, hb, Bool.and_false]) rfl ?_)
    repeat' (first | apply HL.fold | apply HA.fold | apply HL.nil | apply HX.n_then | apply HC.seq | apply HC.region | refine HL.pa ?_ | refine HL.ga rfl ?_ | refine HL.na rfl ?_ | refine HL.nu rfl rfl ?_ | apply HC.block | apply HC.skip | apply HC.exit | apply HC.ret | apply HX.e_block | refine HX.e_other rfl ?_ | apply HX.e_then | apply HX.e_again | apply HX.n_block | apply HX.r_then | apply HX.r_block | apply HX.r_again | refine HC.cond_yes rfl ?_ | refine HC.cond_no rfl ?_ | refine HL.one (H1.ldb rfl memA rfl rfl ?_) | refine HC.cond rfl (fun hc => ?_) (fun hc => ?_) | refine HC.cond_b rfl (fun hc => ?_) (fun hc => ?_))
    exact HX.again (i + 1) (by omega) (by omega) esA (by repeat (first | exact Hs.nil _ | (refine Hs.cons pickA ?_)))
  rw [decide_eq_false (fun h => hs1 (mem_natI.1 h))]
  repeat' (first | apply HL.fold | apply HA.fold | apply HL.nil | apply HX.n_then | apply HC.seq | apply HC.region | refine HL.pa ?_ | refine HL.ga rfl ?_ | refine HL.na rfl ?_ | refine HL.nu rfl rfl ?_ | apply HC.block | apply HC.skip | apply HC.exit | apply HC.ret | apply HX.e_block | refine HX.e_other rfl ?_ | apply HX.e_then | apply HX.e_again | apply HX.n_block | apply HX.r_then | apply HX.r_block | apply HX.r_again | refine HC.cond_yes rfl ?_ | refine HC.cond_no rfl ?_ | refine HL.one (H1.ldb rfl memA rfl rfl ?_) | refine HC.cond rfl (fun hc => ?_) (fun hc => ?_) | refine HC.cond_b rfl (fun hc => ?_) (fun hc => ?_))
  refine HL.one (H1.ldg (vs := ints (natI l)) rfl memA (natI_get hlt) rfl ?_)
  repeat' (first | apply HL.fold | apply HA.fold | apply HL.nil | apply HX.n_then | apply HC.seq | apply HC.region | refine HL.pa ?_ | refine HL.ga rfl ?_ | refine HL.na rfl ?_ | refine HL.nu rfl rfl ?_ | apply HC.block | apply HC.skip | apply HC.exit | apply HC.ret | apply HX.e_block | refine HX.e_other rfl ?_ | apply HX.e_then | apply HX.e_again | apply HX.n_block | apply HX.r_then | apply HX.r_block | apply HX.r_again | refine HC.cond_yes rfl ?_ | refine HC.cond_no rfl ?_ | refine HL.one (H1.ldb rfl memA rfl rfl ?_) | refine HC.cond rfl (fun hc => ?_) (fun hc => ?_) | refine HC.cond_b rfl (fun hc => ?_) (fun hc => ?_))
  refine HL.one (H1.call0 (vs := [.slice a5 (min (somL li (madeN X)).length (madeD y).liars.toNat) c5, zv (l[i] : Int)]) rfl rfl (fun w' hM => by
    have h1 := hM.firstRd (x := li) (n := madeN X) (m := (madeD y).liars.toNat) (a := a5) (c := c5) memA
    have h2 := khas_fn _ (natI (firstL li (madeN X) (madeD y).liars.toNat)) (l[i] : Int) (by rw [natI_len]; omega) w' h1
    exact h2) ?_)
  rw [← hLd]
  by_cases hs2 : l[i] ∈ L
  · have hb : p l[i] = false := by rw [← hp]; unfold leftB; rw [decide_eq_false (p := l[i] ∉ L) (fun h => h hs2), Bool.and_false]
    rw [decide_eq_true (mem_natI.2 hs2)]
    repeat' (first | apply HL.fold | apply HA.fold | apply HL.nil | apply HX.n_then | apply HC.seq | apply HC.region | refine HL.pa ?_ | refine HL.ga rfl ?_ | refine HL.na rfl ?_ | refine HL.nu rfl rfl ?_ | apply HC.block | apply HC.skip | apply HC.exit | apply HC.ret | apply HX.e_block | refine HX.e_other rfl ?_ | apply HX.e_then | apply HX.e_again | apply HX.n_block | apply HX.r_then | apply HX.r_block | apply HX.r_again | refine HC.cond_yes rfl ?_ | refine HC.cond_no rfl ?_ | refine HL.one (H1.ldb rfl memA rfl rfl ?_) | refine HC.cond rfl (fun hc => ?_) (fun hc => ?_) | refine HC.cond_b rfl (fun hc => ?_) (fun hc => ?_))
    refine HL.one (H1.st rfl rfl (by intro _ h; cases h) (by intro _ h; cases h) rplA (by rw [row_len]; omega) ?_)
    rw [Bool.not_true, hB false hb, hA0 hb]
    repeat' (first | apply HL.fold | apply HA.fold | apply HL.nil | apply HX.n_then | apply HC.seq | apply HC.region | refine HL.pa ?_ | refine HL.ga rfl ?_ | refine HL.na rfl ?_ | refine HL.nu rfl rfl ?_ | apply HC.block | apply HC.skip | apply HC.exit | apply HC.ret | apply HX.e_block | refine HX.e_other rfl ?_ | apply HX.e_then | apply HX.e_again | apply HX.n_block | apply HX.r_then | apply HX.r_block | apply HX.r_again | refine HC.cond_yes rfl ?_ | refine HC.cond_no rfl ?_ | refine HL.one (H1.ldb rfl memA rfl rfl ?_) | refine HC.cond rfl (fun hc => ?_) (fun hc => ?_) | refine HC.cond_b rfl (fun hc => ?_) (fun hc => ?_))
    refine HL.one (H1.ldb (v := .bool false) rfl memA (by rw [row_get _ hlt, htf, hb, Bool.and_false]) rfl ?_)
    repeat' (first | apply HL.fold | apply HA.fold | apply HL.nil | apply HX.n_then | apply HC.seq | apply HC.region | refine HL.pa ?_ | refine HL.ga rfl ?_ | refine HL.na rfl ?_ | refine HL.nu rfl rfl ?_ | apply HC.block | apply HC.skip | apply HC.exit | apply HC.ret | apply HX.e_block | refine HX.e_other rfl ?_ | apply HX.e_then | apply HX.e_again | apply HX.n_block | apply HX.r_then | apply HX.r_block | apply HX.r_again | refine HC.cond_yes rfl ?_ | refine HC.cond_no rfl ?_ | refine HL.one (H1.ldb rfl memA rfl rfl ?_) | refine HC.cond rfl (fun hc => ?_) (fun hc => ?_) | refine HC.cond_b rfl (fun hc => ?_) (fun hc => ?_))
    exact HX.again (i + 1) (by omega) (by omega) esA (by repeat (first | exact Hs.nil _ | (refine Hs.cons pickA ?_)))
  have hb : p l[i] = true := by rw [← hp]; unfold leftB; rw [decide_eq_true hs1, decide_eq_true hs2]; rfl
  rw [decide_eq_false (fun h => hs2 (mem_natI.1 h))]
  repeat' (first | apply HL.fold | apply HA.fold | apply HL.nil | apply HX.n_then | apply HC.seq | apply HC.region | refine HL.pa ?_ | refine HL.ga rfl ?_ | refine HL.na rfl ?_ | refine HL.nu rfl rfl ?_ | apply HC.block | apply HC.skip | apply HC.exit | apply HC.ret | apply HX.e_block | refine HX.e_other rfl ?_ | apply HX.e_then | apply HX.e_again | apply HX.n_block | apply HX.r_then | apply HX.r_block | apply HX.r_again | refine HC.cond_yes rfl ?_ | refine HC.cond_no rfl ?_ | refine HL.one (H1.ldb rfl memA rfl rfl ?_) | refine HC.cond rfl (fun hc => ?_) (fun hc => ?_) | refine HC.cond_b rfl (fun hc => ?_) (fun hc => ?_))
  refine HL.one (H1.st rfl rfl (by intro _ h; cases h) (by intro _ h; cases h) rplA (by rw [row_len]; omega) ?_)
  rw [Bool.not_false, hB true hb]
  repeat' (first | apply HL.fold | apply HA.fold | apply HL.nil | apply HX.n_then | apply HC.seq | apply HC.region | refine HL.pa ?_ | refine HL.ga rfl ?_ | refine HL.na rfl ?_ | refine HL.nu rfl rfl ?_ | apply HC.block | apply HC.skip | apply HC.exit | apply HC.ret | apply HX.e_block | refine HX.e_other rfl ?_ | apply HX.e_then | apply HX.e_again | apply HX.n_block | apply HX.r_then | apply HX.r_block | apply HX.r_again | refine HC.cond_yes rfl ?_ | refine HC.cond_no rfl ?_ | refine HL.one (H1.ldb rfl memA rfl rfl ?_) | refine HC.cond rfl (fun hc => ?_) (fun hc => ?_) | refine HC.cond_b rfl (fun hc => ?_) (fun hc => ?_))
  refine HL.one (H1.ldb (v := .bool true) rfl memA (by rw [row_get _ hlt, htf, hb, decide_eq_true (Nat.lt_succ_self i)]; rfl) rfl ?_)
  repeat' (first | apply HL.fold | apply HA.fold | apply HL.nil | apply HX.n_then | apply HC.seq | apply HC.region | refine HL.pa ?_ | refine HL.ga rfl ?_ | refine HL.na rfl ?_ | refine HL.nu rfl rfl ?_ | apply HC.block | apply HC.skip | apply HC.exit | apply HC.ret | apply HX.e_block | refine HX.e_other rfl ?_ | apply HX.e_then | apply HX.e_again | apply HX.n_block | apply HX.r_then | apply HX.r_block | apply HX.r_again | refine HC.cond_yes rfl ?_ | refine HC.cond_no rfl ?_ | refine HL.one (H1.ldb rfl memA rfl rfl ?_) | refine HC.cond rfl (fun hc => ?_) (fun hc => ?_) | refine HC.cond_b rfl (fun hc => ?_) (fun hc => ?_))
  refine HL.one (H1.ldr (v := .string (codeA O kk i)) (by rw [Nat.zero_add]; rfl) memA (by rw [strs_code]; exact row_get _ hlt) rfl ?_)
  repeat' (first | apply HL.fold | apply HA.fold | apply HL.nil | apply HX.n_then | apply HC.seq | apply HC.region | refine HL.pa ?_ | refine HL.ga rfl ?_ | refine HL.na rfl ?_ | refine HL.nu rfl rfl ?_ | apply HC.block | apply HC.skip | apply HC.exit | apply HC.ret | apply HX.e_block | refine HX.e_other rfl ?_ | apply HX.e_then | apply HX.e_again | apply HX.n_block | apply HX.r_then | apply HX.r_block | apply HX.r_again | refine HC.cond_yes rfl ?_ | refine HC.cond_no rfl ?_ | refine HL.one (H1.ldb rfl memA rfl rfl ?_) | refine HC.cond rfl (fun hc => ?_) (fun hc => ?_) | refine HC.cond_b rfl (fun hc => ?_) (fun hc => ?_))
  refine HL.one (H1.st rfl rfl (by intro _ h; cases h) (by intro _ h; cases h) rplA (by rw [row_len]; omega) ?_)
  rw [hA1 hb]
  repeat' (first | apply HL.fold | apply HA.fold | apply HL.nil | apply HX.n_then | apply HC.seq | apply HC.region | refine HL.pa ?_ | refine HL.ga rfl ?_ | refine HL.na rfl ?_ | refine HL.nu rfl rfl ?_ | apply HC.block | apply HC.skip | apply HC.exit | apply HC.ret | apply HX.e_block | refine HX.e_other rfl ?_ | apply HX.e_then | apply HX.e_again | apply HX.n_block | apply HX.r_then | apply HX.r_block | apply HX.r_again | refine HC.cond_yes rfl ?_ | refine HC.cond_no rfl ?_ | refine HL.one (H1.ldb rfl memA rfl rfl ?_) | refine HC.cond rfl (fun hc => ?_) (fun hc => ?_) | refine HC.cond_b rfl (fun hc => ?_) (fun hc => ?_))
  exact HX.again (i + 1) (by omega) (by omega) esA (by repeat (first | exact Hs.nil _ | (refine Hs.cons pickA ?_)))
end Go.Sx

