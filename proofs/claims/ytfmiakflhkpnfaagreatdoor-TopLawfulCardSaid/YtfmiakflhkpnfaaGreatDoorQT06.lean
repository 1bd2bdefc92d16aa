/- abstraction.kinds and abstraction.Valid at the fixed example: the walks. -/
import Derived.Test.YtfmiakflhkpnfaaGreatDoorQT05
import Derived.Laws.IdiomCopy
namespace Go.Sx
open Go Go.Proofs Go.RowKit
def kC (s e : Nat) (R : List Value) : List Value := .slice none 0 0 :: .nilFunc :: .nilFunc :: .slice (some ⟨s, 0, none⟩) 1 1 :: .func (.func 104) #[] #[] :: .func (.func 173) #[] #[.pointer (some ⟨e, 0, none⟩)] :: R
theorem kC_len {s e : Nat} {R : List Value} (h : R.length = 15) : (kC s e R).length = 21 := by simp [kC, h]
theorem kC_one {s e : Nat} {R : List Value} (h : ∀ v ∈ R, v.oneCell' = true) : ∀ v ∈ kC s e R, v.oneCell' = true := by
 intro v hv
 simp only [kC, List.mem_cons] at hv
 rcases hv with rfl | rfl | rfl | rfl | rfl | rfl | hv
 any_goals rfl
 exact h v hv
attribute [local irreducible] WC WL WX POp Then Again Fn NX W1 WA WO QL RP RA Yld LoopAt HC HL HX HN H1 HA HO HQ HB HP A.blk A.grow A.rd A.obj A.mp AgainH CutH
attribute [local irreducible] A.mq A.mit
set_option maxHeartbeats 4000000 in
theorem kinds_fn (w : World) : Fn Tryz.prog 49 #[] w fun u w' => ∃ z : Nat × Nat × List Value, (z.2.2.length = 15 ∧ ∀ v ∈ z.2.2, v.oneCell' = true) ∧ u = .agg (kC z.1 z.2.1 z.2.2).toArray ∧ Mm w [A.blk z.1 [zv 1] 3, A.blk z.2.1 [.func (.func 106) #[] #[]] 175] w' := by
 refine enterH (l := []) rfl Tryz.ntmps49 rfl ?_
 refine hwNB ?_
 refine HL.one (H1.alloc (cs := [.slice none 0 0, .nilFunc, .nilFunc, .slice none 0 0, .nilFunc, .nilFunc, .slice none 0 0, .nilFunc, .nilFunc, .slice none 0 0, .nilFunc, .nilFunc, .slice none 0 0, .nilFunc, .nilFunc, .slice none 0 0, .nilFunc, .nilFunc, .slice none 0 0, .nilFunc, .nilFunc]) rfl rfl (fun b0 => ?_))
 refine hwNB ?_
 refine HL.one (H1.lit (cs := [zv 1]) rfl rfl rfl rfl rfl rfl (fun s0 => ?_))
 refine hwNB ?_
 refine HL.one (H1.callz (vs := [.func (.func 106) #[] #[]]) rfl rfl (fun w' _ => each_fn 106 w') ?_)
 rintro e0 -
 refine hwNB ?_
 refine HL.build (cs := [.slice (some ⟨s0, 0, none⟩) 1 1, .func (.func 104) #[] #[], .func (.func 173) #[] #[.pointer (some ⟨e0, 0, none⟩)]]) rfl rfl rfl ?_
 refine hwNB ?_
 refine HL.one (H1.lit (cs := [zv 1]) rfl rfl rfl rfl rfl rfl (fun s1 => ?_))
 refine hwNB ?_
 refine HL.one (H1.callz (vs := [.func (.func 107) #[] #[]]) rfl rfl (fun w' _ => each_fn 107 w') ?_)
 rintro e1 -
 refine hwNB ?_
 refine HL.build (cs := [.slice (some ⟨s1, 0, none⟩) 1 1, .func (.func 104) #[] #[], .func (.func 173) #[] #[.pointer (some ⟨e1, 0, none⟩)]]) rfl rfl rfl ?_
 refine hwNB ?_
 refine HL.one (H1.lit (cs := [zv 3, zv 5]) rfl rfl rfl rfl rfl rfl (fun s2 => ?_))
 refine hwNB ?_
 refine HL.one (H1.callz (vs := [.func (.func 109) #[] #[]]) rfl rfl (fun w' _ => each_fn 109 w') ?_)
 rintro e2 -
 refine hwNB ?_
 refine HL.build (cs := [.slice (some ⟨s2, 0, none⟩) 2 2, .func (.func 108) #[] #[], .func (.func 173) #[] #[.pointer (some ⟨e2, 0, none⟩)]]) rfl rfl rfl ?_
 refine hwNB ?_
 refine HL.one (H1.lit (cs := [zv 2]) rfl rfl rfl rfl rfl rfl (fun s3 => ?_))
 refine hwNB ?_
 refine HL.one (H1.callz (vs := [.func (.func 111) #[] #[]]) rfl rfl (fun w' _ => each_fn 111 w') ?_)
 rintro e3 -
 refine hwNB ?_
 refine HL.build (cs := [.slice (some ⟨s3, 0, none⟩) 1 1, .func (.func 110) #[] #[], .func (.func 173) #[] #[.pointer (some ⟨e3, 0, none⟩)]]) rfl rfl rfl ?_
 refine hwNB ?_
 refine HL.one (H1.lit (cs := [zv 6, zv 7]) rfl rfl rfl rfl rfl rfl (fun s4 => ?_))
 refine hwNB ?_
 refine HL.build (cs := [.slice (some ⟨s4, 0, none⟩) 2 2, .func (.func 104) #[] #[], .func (.func 112) #[] #[]]) rfl rfl rfl ?_
 refine hwNB ?_
 refine HL.one (H1.lit (cs := [zv 1, zv 2, zv 3, zv 4, zv 5, zv 6, zv 7, zv 8]) rfl rfl rfl rfl rfl rfl (fun s5 => ?_))
 refine hwNB ?_
 refine HL.build (cs := [.slice (some ⟨s5, 0, none⟩) 8 8, .func (.func 104) #[] #[], .func (.func 113) #[] #[]]) rfl rfl rfl ?_
 refine hwNB ?_
 refine HL.build (cs := [.slice none 0 0, .nilFunc, .nilFunc, .slice (some ⟨s0, 0, none⟩) 1 1, .func (.func 104) #[] #[], .func (.func 173) #[] #[.pointer (some ⟨e0, 0, none⟩)], .slice (some ⟨s1, 0, none⟩) 1 1, .func (.func 104) #[] #[], .func (.func 173) #[] #[.pointer (some ⟨e1, 0, none⟩)], .slice (some ⟨s2, 0, none⟩) 2 2, .func (.func 108) #[] #[], .func (.func 173) #[] #[.pointer (some ⟨e2, 0, none⟩)], .slice (some ⟨s3, 0, none⟩) 1 1, .func (.func 110) #[] #[], .func (.func 173) #[] #[.pointer (some ⟨e3, 0, none⟩)], .slice (some ⟨s4, 0, none⟩) 2 2, .func (.func 104) #[] #[], .func (.func 112) #[] #[], .slice (some ⟨s5, 0, none⟩) 8 8, .func (.func 104) #[] #[], .func (.func 113) #[] #[]]) rfl rfl rfl ?_
 refine hwNB ?_
 have h1 : ∀ v ∈ ([.slice (some ⟨s1, 0, none⟩) 1 1, .func (.func 104) #[] #[], .func (.func 173) #[] #[.pointer (some ⟨e1, 0, none⟩)], .slice (some ⟨s2, 0, none⟩) 2 2, .func (.func 108) #[] #[], .func (.func 173) #[] #[.pointer (some ⟨e2, 0, none⟩)], .slice (some ⟨s3, 0, none⟩) 1 1, .func (.func 110) #[] #[], .func (.func 173) #[] #[.pointer (some ⟨e3, 0, none⟩)], .slice (some ⟨s4, 0, none⟩) 2 2, .func (.func 104) #[] #[], .func (.func 112) #[] #[], .slice (some ⟨s5, 0, none⟩) 8 8, .func (.func 104) #[] #[], .func (.func 113) #[] #[]] : List Value), v.oneCell' = true := by
  intro v hv
  simp only [List.mem_cons, List.not_mem_nil, or_false] at hv
  rcases hv with rfl | rfl | rfl | rfl | rfl | rfl | rfl | rfl | rfl | rfl | rfl | rfl | rfl | rfl | rfl <;> rfl
 refine HL.one (H1.stAgg (b := b0) (cs := [.slice none 0 0, .nilFunc, .nilFunc, .slice none 0 0, .nilFunc, .nilFunc, .slice none 0 0, .nilFunc, .nilFunc, .slice none 0 0, .nilFunc, .nilFunc, .slice none 0 0, .nilFunc, .nilFunc, .slice none 0 0, .nilFunc, .nilFunc, .slice none 0 0, .nilFunc, .nilFunc]) (vs := kC s0 e0 [.slice (some ⟨s1, 0, none⟩) 1 1, .func (.func 104) #[] #[], .func (.func 173) #[] #[.pointer (some ⟨e1, 0, none⟩)], .slice (some ⟨s2, 0, none⟩) 2 2, .func (.func 108) #[] #[], .func (.func 173) #[] #[.pointer (some ⟨e2, 0, none⟩)], .slice (some ⟨s3, 0, none⟩) 1 1, .func (.func 110) #[] #[], .func (.func 173) #[] #[.pointer (some ⟨e3, 0, none⟩)], .slice (some ⟨s4, 0, none⟩) 2 2, .func (.func 104) #[] #[], .func (.func 112) #[] #[], .slice (some ⟨s5, 0, none⟩) 8 8, .func (.func 104) #[] #[], .func (.func 113) #[] #[]]) rfl rfl rfl (kC_one h1) rplA rfl ?_)
 refine hwNB ?_
 exact HX.retc1 (b := b0) (cs := kC s0 e0 [.slice (some ⟨s1, 0, none⟩) 1 1, .func (.func 104) #[] #[], .func (.func 173) #[] #[.pointer (some ⟨e1, 0, none⟩)], .slice (some ⟨s2, 0, none⟩) 2 2, .func (.func 108) #[] #[], .func (.func 173) #[] #[.pointer (some ⟨e2, 0, none⟩)], .slice (some ⟨s3, 0, none⟩) 1 1, .func (.func 110) #[] #[], .func (.func 173) #[] #[.pointer (some ⟨e3, 0, none⟩)], .slice (some ⟨s4, 0, none⟩) 2 2, .func (.func 104) #[] #[], .func (.func 112) #[] #[], .slice (some ⟨s5, 0, none⟩) 8 8, .func (.func 104) #[] #[], .func (.func 113) #[] #[]]) rfl rfl memA rfl fun w' hM => ⟨(s0, e0, [.slice (some ⟨s1, 0, none⟩) 1 1, .func (.func 104) #[] #[], .func (.func 173) #[] #[.pointer (some ⟨e1, 0, none⟩)], .slice (some ⟨s2, 0, none⟩) 2 2, .func (.func 108) #[] #[], .func (.func 173) #[] #[.pointer (some ⟨e2, 0, none⟩)], .slice (some ⟨s3, 0, none⟩) 1 1, .func (.func 110) #[] #[], .func (.func 173) #[] #[.pointer (some ⟨e3, 0, none⟩)], .slice (some ⟨s4, 0, none⟩) 2 2, .func (.func 104) #[] #[], .func (.func 112) #[] #[], .slice (some ⟨s5, 0, none⟩) 8 8, .func (.func 104) #[] #[], .func (.func 113) #[] #[]]), ⟨rfl, h1⟩, rfl, hM.sub (by repeat (first | exact Hs.nil _ | (refine Hs.cons pickA ?_)))⟩
theorem avalid1_fn {s b5 b2 : Nat} (w : World) (h3 : w.cell? ⟨b5, 3, none⟩ = some (.slice (some ⟨s, 0, none⟩) 1 1)) (h4 : w.cell? ⟨b5, 4, none⟩ = some (.func (.func 104) #[] #[])) (h2 : w.cell? ⟨b2, 0, none⟩ = some (zv 1)) (hs : w.cell? ⟨s, 0, none⟩ = some (zv 1)) :
  Fn Tryz.prog 98 #[.agg #[zv 1, zv 0], .pointer (some ⟨b5, 0, none⟩), .pointer (some ⟨b2, 0, none⟩)] w fun u w' => u = .bool false ∧ Ext w w' := by
 refine enterH (l := [_, _, _]) rfl Tryz.ntmps98 rfl ?_
 refine hwNB ?_
 refine HL.one (H1.boxAgg (cs := [zv 1, zv 0]) rfl rfl (fun b3 => ?_))
 refine hwNB ?_
 refine HC.anyC ([(⟨b3, 0, none⟩, zv 1), (⟨b3, 1, none⟩, zv 0), (⟨b5, 3, none⟩, .slice (some ⟨s, 0, none⟩) 1 1), (⟨b5, 4, none⟩, .func (.func 104) #[] #[]), (⟨b2, 0, none⟩, zv 1)]) rfl ?_
 refine HB.pa 0 rfl ?_
 refine HB.ld 1 rfl rfl memD ?_
 refine HB.all keepA [2] (by kernel_rfl) rfl ⟨⟨_, rfl, ?_⟩, trivial⟩
 refine HP.one ?_
 refine H1.callx (vs := [_, _, _]) rfl rfl (fun w' _ => awithin_yes (by decide) (by decide) w') ?_
 apply HB.fold
 refine HB.pa 3 rfl ?_
 refine HB.pa 4 rfl ?_
 first | refine HB.ga 5 rfl rfl ?_ | refine HB.na 5 rfl rfl ?_ | refine HB.nu 5 rfl rfl ?_
 refine HB.ldg 6 rfl rfl rfl memD ?_
 first | refine HB.ga 7 rfl rfl ?_ | refine HB.na 7 rfl rfl ?_ | refine HB.nu 7 rfl rfl ?_
 first | refine HB.ga 8 rfl rfl ?_ | refine HB.na 8 rfl rfl ?_ | refine HB.nu 8 rfl rfl ?_
 refine HB.ldg 9 rfl rfl rfl memD ?_
 refine HB.ldg 10 rfl rfl rfl memD ?_
 refine HB.all keepA [11] (by kernel_rfl) rfl ⟨⟨_, rfl, ?_⟩, trivial⟩
 refine HP.one_a rfl ?_
 refine H1.callx (vs := [_, _]) rfl rfl (fun w' hM => contains1_fn s w' (cell_ext hM.ext hs)) ?_
 apply HB.fold
 first | refine HB.ga 12 rfl rfl ?_ | refine HB.na 12 rfl rfl ?_ | refine HB.nu 12 rfl rfl ?_
 refine HB.pa 13 rfl ?_
 refine HB.pa 14 rfl ?_
 first | refine HB.ga 15 rfl rfl ?_ | refine HB.na 15 rfl rfl ?_ | refine HB.nu 15 rfl rfl ?_
 refine HB.ldg 16 rfl rfl rfl memD ?_
 first | refine HB.ga 17 rfl rfl ?_ | refine HB.na 17 rfl rfl ?_ | refine HB.nu 17 rfl rfl ?_
 first | refine HB.ga 18 rfl rfl ?_ | refine HB.na 18 rfl rfl ?_ | refine HB.nu 18 rfl rfl ?_
 refine HB.ldg 19 rfl rfl rfl memD ?_
 first | refine HB.ga 20 rfl rfl ?_ | refine HB.na 20 rfl rfl ?_ | refine HB.nu 20 rfl rfl ?_
 refine HB.ldg 21 rfl rfl rfl memD ?_
 refine HB.all keepA [22] (by kernel_rfl) rfl ⟨⟨_, rfl, ?_⟩, trivial⟩
 refine HP.one_a rfl ?_
 refine H1.callv0 (u := .bool true) (cap := []) (vs := [_]) rfl rfl rfl (fun w' _ => anone_yes w') ?_
 apply HB.fold
 first | refine HB.ga 23 rfl rfl ?_ | refine HB.na 23 rfl rfl ?_ | refine HB.nu 23 rfl rfl ?_
 refine HB.pa 24 rfl ?_
 refine HB.pa 25 rfl ?_
 refine HB.done keepA (by kernel_rfl) ?_
 refine hwNB ?_
 exact HX.ret1 rfl rfl fun w' hM => ⟨rfl, hM.ext⟩
set_option maxHeartbeats 1000000 in
theorem avalid_fn (v : Value) (w : World) (hR : RdK w v 1 2 fun _ => [zv 1, zv 0]) : Fn Tryz.prog 47 #[zv 1, v] w fun u w' => u = .bool true ∧ Ext w w' := by
 obtain ⟨av, cv, rfl, -, -⟩ := id hR
 refine enterH (l := [_, _]) rfl Tryz.ntmps47 rfl ?_
 refine hwNB ?_
 refine HL.one (H1.box rfl rfl rfl (fun b2 => ?_))
 refine hwNB ?_
 refine HL.one (H1.callz (vs := []) rfl rfl (fun w' _ => kinds_fn w') ?_)
 rintro ⟨s, e, R⟩ ⟨hR1, hR2⟩
 dsimp only at hR1 hR2 ⊢
 refine hwNB ?_
 refine HL.one (H1.alloc (cs := [.slice none 0 0, .nilFunc, .nilFunc, .slice none 0 0, .nilFunc, .nilFunc, .slice none 0 0, .nilFunc, .nilFunc, .slice none 0 0, .nilFunc, .nilFunc, .slice none 0 0, .nilFunc, .nilFunc, .slice none 0 0, .nilFunc, .nilFunc, .slice none 0 0, .nilFunc, .nilFunc]) rfl rfl (fun b5 => ?_))
 refine hwNB ?_
 refine HL.one (H1.stAgg (b := b5) (cs := [.slice none 0 0, .nilFunc, .nilFunc, .slice none 0 0, .nilFunc, .nilFunc, .slice none 0 0, .nilFunc, .nilFunc, .slice none 0 0, .nilFunc, .nilFunc, .slice none 0 0, .nilFunc, .nilFunc, .slice none 0 0, .nilFunc, .nilFunc, .slice none 0 0, .nilFunc, .nilFunc]) (vs := kC s e R) rfl rfl (kC_len hR1) (kC_one hR2) rplA (kC_len hR1) ?_)
 refine hwNB ?_
 refine HL.one (H1.callx (vs := [_, _, _]) rfl rfl (fun w' _ => awithin_yes (by decide) (by decide) w') ?_)
 refine hwNB ?_
 refine HL.one (H1.callx (u := .bool false) (vs := [.slice av 1 cv, .func (.func 98) #[] #[.pointer (some ⟨b5, 0, none⟩), .pointer (some ⟨b2, 0, none⟩)]]) rfl rfl (fun w' hM => (contSt_fn (p := fun _ => false) (by decide) (fun _ => rfl) w' (hR.ext hM.ext) ⟨_, [], [.pointer (some ⟨b5, 0, none⟩), .pointer (some ⟨b2, 0, none⟩)], rfl, inferInstance, fun w2 hx i hi => avalid1_fn (s := s) w2 (cell_ext hx ((hM.blk (b := b5) (cs := kC s e R) memA).cell (i := 3) rfl)) (cell_ext hx ((hM.blk (b := b5) (cs := kC s e R) memA).cell (i := 4) rfl)) (cell_ext hx ((hM.blk (b := b2) (cs := [zv 1]) memA).cell (i := 0) rfl)) (cell_ext hx ((hM.blk (b := s) (cs := [zv 1]) memA).cell (i := 0) rfl))⟩).mono fun u w'' h => ⟨h.1.trans (by rw [anyN_no fun _ _ => rfl]), h.2⟩) ?_)
 refine hwNB ?_
 exact HX.ret1 rfl rfl fun w' hM => ⟨rfl, hM.ext⟩
end Go.Sx
/- Chapter 2: the words of a block: the walks. -/
namespace Go.Sx
open Go Go.Proofs Go.RowKit
theorem hbDD {G G2 : Prop} (x : G2) (hwq : Hold G2 → G := by
  intro hQq
  repeat' (first | apply HL.fold | apply HA.fold | apply HL.nil | apply HX.n_then | apply HC.seq | apply HC.region | refine HL.pa ?_ | refine HL.ga rfl ?_ | refine HL.na rfl ?_ | refine HL.nu rfl rfl ?_ | apply HC.skip | apply HC.exit | apply HC.ret | apply HX.e_block | refine HX.e_other rfl ?_ | apply HX.e_then | apply HX.e_again | apply HX.n_block | apply HX.r_then | apply HX.r_block | apply HX.r_again | refine HC.cond_yes rfl ?_ | refine HC.cond_no rfl ?_ | refine HL.one (H1.ldb rfl memA rfl rfl ?_) | refine HC.cond rfl (fun hc => ?_) (fun hc => ?_) | refine HC.cond_b rfl (fun hc => ?_) (fun hc => ?_))
  exact hQq.get) : G := hwq ⟨x⟩
def nats (l : List Nat) : List Value := l.map fun n : Nat => zv (n : Int)
theorem nats_get {l : List Nat} {i : Nat} (h : i < l.length) : (nats l)[i]? = some (zv ((l[i] : Nat) : Int)) := by simp [nats, h]
def ws (l : List UInt32) : List Value := l.map w32
theorem mixW_take {x : UInt32} {l : List Nat} {i : Nat} (h : i < l.length) : mixW x (l.take (i + 1)) = mixW x (l.take i) ^^^ rot x l[i] := by
 unfold mixW
 rw [List.take_succ_eq_append_getElem h, List.foldl_append]; rfl
theorem wrap_neg {n : Nat} (h0 : 0 < n) (h : n < 32) : IntKind.u64.wrap (-(n : Int)) = ((18446744073709551616 - n : Nat) : Int) := by
 simp [IntKind.wrap, IntKind.bits, IntKind.signed]; omega
attribute [local irreducible] WC WL WX POp Then Again Fn NX W1 WA WO QL RP RA Yld LoopAt HC HL HX HN H1 HA HO HQ HB HP A.blk A.grow A.rd A.obj A.mp AgainH CutH
theorem rotate_fn (x : UInt32) (n : Nat) (h0 : 0 < n) (h : n < 32) (w : World) : Fn Tryz.prog 260 #[w32 x, zv (-(n : Int))] w fun v w' => v = w32 (rot x n) ∧ w = w' := by
 have hand : (18446744073709551616 - n) &&& 31 = 32 - n := by
  rw [show 31 = 2 ^ 5 - 1 from rfl, Nat.and_two_pow_sub_one_eq_mod]; omega
 refine enter (l := [_, _]) rfl Tryz.ntmps260 rfl ?_
 repeat' (first | apply WL.fold | apply WA.fold | apply WL.nil | apply WX.n_then | apply WC.seq | apply WC.region | refine WL.pa ?_ | refine WL.ga rfl ?_ | refine WL.na rfl ?_ | refine WL.nu rfl rfl ?_ | apply WC.block | apply WC.skip | apply WC.exit | apply WC.ret | apply WX.e_block | refine WX.e_other rfl ?_ | apply WX.e_then | apply WX.e_again | apply WX.n_block | apply WX.r_then | apply WX.r_block | apply WX.r_again | refine WC.cond_yes rfl ?_ | refine WC.cond_no rfl ?_ | refine WC.cond rfl (fun hc => ?_) (fun hc => ?_) | refine WC.cond_b rfl (fun hc => ?_) (fun hc => ?_))
 refine WL.pa ?_ ((POp.conv (k' := .u64) rfl).of (v' := .int .u64 ((18446744073709551616 - n : Nat) : Int)) (by rw [wrap_neg h0 h]))
 repeat' (first | apply WL.fold | apply WA.fold | apply WL.nil | apply WX.n_then | apply WC.seq | apply WC.region | refine WL.pa ?_ | refine WL.ga rfl ?_ | refine WL.na rfl ?_ | refine WL.nu rfl rfl ?_ | apply WC.block | apply WC.skip | apply WC.exit | apply WC.ret | apply WX.e_block | refine WX.e_other rfl ?_ | apply WX.e_then | apply WX.e_again | apply WX.n_block | apply WX.r_then | apply WX.r_block | apply WX.r_again | refine WC.cond_yes rfl ?_ | refine WC.cond_no rfl ?_ | refine WC.cond rfl (fun hc => ?_) (fun hc => ?_) | refine WC.cond_b rfl (fun hc => ?_) (fun hc => ?_))
 refine WL.pa ?_ (POp.and64 (b := 31) rfl rfl rfl rfl (by omega) (by decide))
 rw [hand]
 repeat' (first | apply WL.fold | apply WA.fold | apply WL.nil | apply WX.n_then | apply WC.seq | apply WC.region | refine WL.pa ?_ | refine WL.ga rfl ?_ | refine WL.na rfl ?_ | refine WL.nu rfl rfl ?_ | apply WC.block | apply WC.skip | apply WC.exit | apply WC.ret | apply WX.e_block | refine WX.e_other rfl ?_ | apply WX.e_then | apply WX.e_again | apply WX.n_block | apply WX.r_then | apply WX.r_block | apply WX.r_again | refine WC.cond_yes rfl ?_ | refine WC.cond_no rfl ?_ | refine WC.cond rfl (fun hc => ?_) (fun hc => ?_) | refine WC.cond_b rfl (fun hc => ?_) (fun hc => ?_))
 refine WL.pa ?_ (POp.sub64 (a := 32) (b := 32 - n) rfl rfl rfl rfl (by omega) (by decide))
 rw [show 32 - (32 - n) = n from by omega]
 repeat' (first | apply WL.fold | apply WA.fold | apply WL.nil | apply WX.n_then | apply WC.seq | apply WC.region | refine WL.pa ?_ | refine WL.ga rfl ?_ | refine WL.na rfl ?_ | refine WL.nu rfl rfl ?_ | apply WC.block | apply WC.skip | apply WC.exit | apply WC.ret | apply WX.e_block | refine WX.e_other rfl ?_ | apply WX.e_then | apply WX.e_again | apply WX.n_block | apply WX.r_then | apply WX.r_block | apply WX.r_again | refine WC.cond_yes rfl ?_ | refine WC.cond_no rfl ?_ | refine WC.cond rfl (fun hc => ?_) (fun hc => ?_) | refine WC.cond_b rfl (fun hc => ?_) (fun hc => ?_))
 exact WX.ret1 rfl rfl ⟨rfl, rfl⟩
theorem mixed_fn (x : UInt32) (l : List Nat) (hl : ∀ n ∈ l, 0 < n ∧ n < 32) {b c : Nat} (w : World) (hr : Rd w (.slice (some ⟨b, 0, none⟩) l.length c) (nats l)) (hs : l.length ≤ 1000) :
  Fn Tryz.prog 242 #[w32 x, .slice (some ⟨b, 0, none⟩) l.length c] w fun v w' => v = w32 (mixW x l) ∧ w = w' := by
 refine enter (l := [_, _]) rfl Tryz.ntmps242 rfl ?_
 repeat' (first | apply WL.fold | apply WA.fold | apply WL.nil | apply WX.n_then | apply WC.seq | apply WC.region | refine WL.pa ?_ | refine WL.ga rfl ?_ | refine WL.na rfl ?_ | refine WL.nu rfl rfl ?_ | apply WC.block | apply WC.skip | apply WC.exit | apply WC.ret | apply WX.e_block | refine WX.e_other rfl ?_ | apply WX.e_then | apply WX.e_again | apply WX.n_block | apply WX.r_then | apply WX.r_block | apply WX.r_again | refine WC.cond_yes rfl ?_ | refine WC.cond_no rfl ?_ | refine WC.cond rfl (fun hc => ?_) (fun hc => ?_) | refine WC.cond_b rfl (fun hc => ?_) (fun hc => ?_))
 refine WC.loop (α := Nat) (fun i => [(0, w32 x), (5, w32 (mixW x (l.take i))), (8, .slice (some ⟨b, 0, none⟩) l.length c), (9, zv (l.length : Int)), (10, zv (i : Int))])
  (fun i w' => i ≤ l.length ∧ w' = w) (fun i => l.length - i) 0 esA ⟨by omega, rfl⟩ ?_
 rintro i w' ⟨hi, rfl⟩
 by_cases hlt : i < l.length
 ·have hn := hl _ (List.getElem_mem hlt)
  have hm := mixW_take (x := x) hlt
  have hc := hr.cell (nats_get hlt)
  rw [Nat.zero_add] at hc
  generalize l[i] = n at hn hm hc
  repeat' (first | apply WL.fold | apply WA.fold | apply WL.nil | apply WX.n_then | apply WC.seq | apply WC.region | refine WL.pa ?_ | refine WL.ga rfl ?_ | refine WL.na rfl ?_ | refine WL.nu rfl rfl ?_ | apply WC.block | apply WC.skip | apply WC.exit | apply WC.ret | apply WX.e_block | refine WX.e_other rfl ?_ | apply WX.e_then | apply WX.e_again | apply WX.n_block | apply WX.r_then | apply WX.r_block | apply WX.r_again | refine WC.cond_yes rfl ?_ | refine WC.cond_no rfl ?_ | refine WC.cond rfl (fun hc => ?_) (fun hc => ?_) | refine WC.cond_b rfl (fun hc => ?_) (fun hc => ?_))
  refine WL.load rfl hc rfl ?_
  repeat' (first | apply WL.fold | apply WA.fold | apply WL.nil | apply WX.n_then | apply WC.seq | apply WC.region | refine WL.pa ?_ | refine WL.ga rfl ?_ | refine WL.na rfl ?_ | refine WL.nu rfl rfl ?_ | apply WC.block | apply WC.skip | apply WC.exit | apply WC.ret | apply WX.e_block | refine WX.e_other rfl ?_ | apply WX.e_then | apply WX.e_again | apply WX.n_block | apply WX.r_then | apply WX.r_block | apply WX.r_again | refine WC.cond_yes rfl ?_ | refine WC.cond_no rfl ?_ | refine WC.cond rfl (fun hc => ?_) (fun hc => ?_) | refine WC.cond_b rfl (fun hc => ?_) (fun hc => ?_))
  refine WL.call rfl rfl (rotate_fn x n hn.1 hn.2 w') ?_
  rintro v w2 ⟨rfl, rfl⟩
  repeat' (first | apply WL.fold | apply WA.fold | apply WL.nil | apply WX.n_then | apply WC.seq | apply WC.region | refine WL.pa ?_ | refine WL.ga rfl ?_ | refine WL.na rfl ?_ | refine WL.nu rfl rfl ?_ | apply WC.block | apply WC.skip | apply WC.exit | apply WC.ret | apply WX.e_block | refine WX.e_other rfl ?_ | apply WX.e_then | apply WX.e_again | apply WX.n_block | apply WX.r_then | apply WX.r_block | apply WX.r_again | refine WC.cond_yes rfl ?_ | refine WC.cond_no rfl ?_ | refine WC.cond rfl (fun hc => ?_) (fun hc => ?_) | refine WC.cond_b rfl (fun hc => ?_) (fun hc => ?_))
  refine WX.again (i + 1) ⟨hlt, rfl⟩ (by show l.length - (i + 1) < l.length - i; omega) ?_
  rw [hm]; repeat (first | exact trivial | refine ⟨rfl, ?_⟩)
 ·obtain rfl : i = l.length := by omega
  rw [List.take_length]
  repeat' (first | apply WL.fold | apply WA.fold | apply WL.nil | apply WX.n_then | apply WC.seq | apply WC.region | refine WL.pa ?_ | refine WL.ga rfl ?_ | refine WL.na rfl ?_ | refine WL.nu rfl rfl ?_ | apply WC.block | apply WC.skip | apply WC.exit | apply WC.ret | apply WX.e_block | refine WX.e_other rfl ?_ | apply WX.e_then | apply WX.e_again | apply WX.n_block | apply WX.r_then | apply WX.r_block | apply WX.r_again | refine WC.cond_yes rfl ?_ | refine WC.cond_no rfl ?_ | refine WC.cond rfl (fun hc => ?_) (fun hc => ?_) | refine WC.cond_b rfl (fun hc => ?_) (fun hc => ?_))
  exact WX.ret1 rfl rfl ⟨rfl, rfl⟩
end Go.Sx
/- Chapter 2: the words of a block, and what a block does to a state: the walks. -/
namespace Go.Sx
open Go Go.Proofs Go.RowKit
def schW (l : List UInt8) (i : Nat) : List Value := row 64 fun j => w32 (if j < i then wW l j else 0)
theorem schW_get {l : List UInt8} {i j : Nat} (h : j < i) (hj : j < 64) : (schW l i)[j]? = some (w32 (wW l j)) := by
 unfold schW
 rw [row_get _ hj, if_pos h]
theorem schW_set {l : List UInt8} {i : Nat} (h : i < 64) : (schW l i).set i (w32 (wW l i)) = schW l (i + 1) := by
 unfold schW
 rw [row_set]
 refine row_congr fun j _ => ?_
 by_cases e : j = i
 ·subst e; rw [if_pos rfl, if_pos (Nat.lt_succ_self _)]
 ·have : (j < i + 1) = (j < i) := by simp only [eq_iff_iff]; omega
  rw [if_neg e]; simp only [this]
theorem schW_len (l : List UInt8) (i : Nat) : (schW l i).length = 64 := row_len _ _
theorem row_one' {n : Nat} {f : Nat → Value} (h : ∀ i, (f i).oneCell' = true) : ∀ v ∈ row n f, v.oneCell' = true := by
 intro v hv
 obtain ⟨i, -, rfl⟩ := List.mem_map.1 hv
 exact h i
theorem ub_at {w : World} {b off n c : Nat} {l : List UInt8} (h : Rd w (.slice (some ⟨b, off, none⟩) n c) (ub l)) {i : Nat} (hi : i < l.length) : w.cell? ⟨b, off + i, none⟩ = some (b8 (l.getD i 0)) := by
 have : (ub l)[i]? = some (b8 (l.getD i 0)) := by simp [ub, hi]
 exact h.cell this
theorem blk_rd {w : World} {b n : Nat} {cs : List Value} {e : TypeId} (h : Blk w b cs e) (hn : cs.length = n) : Rd w (.slice (some ⟨b, 0, none⟩) n n) cs := by
 have := Rd.of_blk (l := n) (c := n) h (Nat.le_of_eq hn.symm) (Nat.le_refl _)
 rwa [← hn, List.take_length, hn] at this
attribute [local irreducible] WC WL WX POp Then Again Fn NX W1 WA WO QL RP RA Yld LoopAt HC HL HX HN H1 HA HO HQ HB HP A.blk A.grow A.rd A.obj A.mp AgainH CutH
attribute [local irreducible] wordAt mixW
set_option maxRecDepth 100000 in
set_option maxHeartbeats 4000000 in
theorem schedule_fn {bb off c : Nat} (l : List UInt8) (hl : l.length = 64) (w : World) (hr : Rd w (.slice (some ⟨bb, off, none⟩) 64 c) (ub l)) :
  Fn Tryz.prog 241 #[.slice (some ⟨bb, off, none⟩) 64 c] w fun v w' => v = .agg (schW l 64).toArray ∧ Ext w w' := by
 refine enterH (l := [_]) rfl Tryz.ntmps241 rfl ?_
 refine hwNE ?_
 refine HL.one (H1.alloc (cs := schW l 0) (by kernel_rfl) rfl (fun b2 => ?_))
 refine hbDD ?_
 refine HC.cut (α := Unit) (fun _ => [(0, .slice (some ⟨bb, off, none⟩) 64 c), (2, .pointer (some ⟨b2, 0, none⟩))]) (fun _ => [A.blk b2 (schW l 16) 295]) (fun _ => True) ?_ ?_
 ·repeat refine HC.seq ?_
  refine hwNE ?_
  refine HC.loop (α := Nat) (fun i => [(0, .slice (some ⟨bb, off, none⟩) 64 c), (2, .pointer (some ⟨b2, 0, none⟩)), (7, zv (i : Int))]) (fun i => [A.blk b2 (schW l i) 295]) (fun i => i ≤ 16) (fun i => 16 - i) 0 (Nat.zero_le _) esA (Hs.refl _) ?_
  rintro i hi
  by_cases hlt : i < 16
  ·have h0 := ub_at hr (i := 4 * i) (by omega)
   have h1 := ub_at hr (i := 4 * i + 1) (by omega)
   have h2 := ub_at hr (i := 4 * i + 2) (by omega)
   have h3 := ub_at hr (i := 4 * i + 3) (by omega)
   have hset := schW_set (l := l) (i := i) (by omega)
   rw [wW_lo hlt] at hset
   unfold wordAt bt at hset
   refine hwNE ?_
   refine HC.anyC ([(⟨bb, off + 4 * i, none⟩, b8 (l.getD (4 * i) 0)), (⟨bb, off + (4 * i + 1), none⟩, b8 (l.getD (4 * i + 1) 0)), (⟨bb, off + (4 * i + 2), none⟩, b8 (l.getD (4 * i + 2) 0)), (⟨bb, off + (4 * i + 3), none⟩, b8 (l.getD (4 * i + 3) 0))]) rfl ?_
   refine HB.pa 0 rfl ?_
   refine HB.pa 1 rfl ?_
   refine HB.pa 2 rfl ?_
   refine HB.pa 3 rfl ?_
   refine HB.pa 4 rfl ?_ (POp.index_slice (o := off + 4 * i) rfl rfl (by omega) (by omega) (by omega))
   refine HB.ld 5 rfl rfl memD ?_
   refine HB.pa 6 rfl ?_
   refine HB.pa 7 rfl ?_
   refine HB.pa 8 rfl ?_
   refine HB.pa 9 rfl ?_
   refine HB.pa 10 rfl ?_
   refine HB.pa 11 rfl ?_
   refine HB.pa 12 rfl ?_ (POp.index_slice (o := off + (4 * i + 1)) rfl rfl (by omega) (by omega) (by omega))
   refine HB.ld 13 rfl rfl memD ?_
   refine HB.pa 14 rfl ?_
   refine HB.pa 15 rfl ?_
   refine HB.pa 16 rfl ?_
   refine HB.pa 17 rfl ?_
   refine HB.pa 18 rfl ?_
   refine HB.pa 19 rfl ?_
   refine HB.pa 20 rfl ?_
   refine HB.pa 21 rfl ?_ (POp.index_slice (o := off + (4 * i + 2)) rfl rfl (by omega) (by omega) (by omega))
   refine HB.ld 22 rfl rfl memD ?_
   refine HB.pa 23 rfl ?_
   refine HB.pa 24 rfl ?_
   refine HB.pa 25 rfl ?_
   refine HB.pa 26 rfl ?_
   refine HB.pa 27 rfl ?_
   refine HB.pa 28 rfl ?_
   refine HB.pa 29 rfl ?_
   refine HB.pa 30 rfl ?_ (POp.index_slice (o := off + (4 * i + 3)) rfl rfl (by omega) (by omega) (by omega))
   refine HB.ld 31 rfl rfl memD ?_
   refine HB.pa 32 rfl ?_
   refine HB.pa 33 rfl ?_
   refine HB.pa 34 rfl ?_
   refine HB.all (by (exact Keep.base h0 (Keep.base h1 (Keep.base h2 (Keep.base h3 Keep.nil))))) [35] (by kernel_rfl) rfl ⟨⟨_, rfl, ?_⟩, trivial⟩
   refine HP.one ?_
   refine H1.st (b := b2) rfl rfl (by intro _ h; cases h) (by intro _ h; cases h) rplA (by rw [schW_len]; omega) ?_
   rw [hset]
   apply HB.fold
   refine HB.done (by (exact Keep.base h0 (Keep.base h1 (Keep.base h2 (Keep.base h3 Keep.nil))))) (by kernel_rfl) ?_
   refine hwNE ?_
   exact HX.again (i + 1) hlt (by show 16 - (i + 1) < 16 - i; omega) esA (Hs.refl _)
  ·obtain rfl : i = 16 := by omega
   refine hwNE ?_
   exact HX.cut () trivial esA (Hs.refl _)
 rintro - -
 refine hwNE ?_
 refine HC.loop (α := Nat) (fun i => [(2, .pointer (some ⟨b2, 0, none⟩)), (4, zv (i : Int))]) (fun i => [A.blk b2 (schW l i) 295]) (fun i => 16 ≤ i ∧ i ≤ 64) (fun i => 64 - i) 16 ⟨Nat.le_refl _, by omega⟩ esA (Hs.refl _) ?_
 rintro i ⟨hi0, hi⟩
 by_cases hlt : i < 64
 ·have g2 := schW_get (l := l) (i := i) (j := i - 2) (by omega) (by omega)
  have g7 := schW_get (l := l) (i := i) (j := i - 7) (by omega) (by omega)
  have g15 := schW_get (l := l) (i := i) (j := i - 15) (by omega) (by omega)
  have g16 := schW_get (l := l) (i := i) (j := i - 16) (by omega) (by omega)
  have k7 := schW_get (l := l) (i := i + 1) (j := i - 7) (by omega) (by omega)
  have k16 := schW_get (l := l) (i := i + 1) (j := i - 16) (by omega) (by omega)
  have hset := schW_set (l := l) (i := i) hlt
  rw [wW_hi (by omega)] at hset
  have e2 : ((i : Int) - 2).toNat = i - 2 := by omega
  have e15 : ((i : Int) - 15).toNat = i - 15 := by omega
  refine hwNE ?_
  refine HC.quietS [(some 50, [4], []), (some 51, [50], [0]), (some 52, [2, 51], [1]), (some 53, [52], [2]), (some 54, [4], []), (some 55, [54], [4]), (some 56, [2, 55], [5]), (some 57, [56], [6]), (some 5, [53], [3, 0, 1, 2, 3]), (some 6, [57], [7, 8, 0, 1, 2, 3, 4, 5, 6, 7, 8])] (by kernel_rfl) (by kernel_rfl) (by kernel_rfl) ?_
  refine qwA ?_
  rw [e15]
  refine HQ.ldb rfl memA g15 rfl ?_
  refine qwA ?_
  rw [e2]
  refine HQ.ldb rfl memA g2 rfl ?_
  refine qwA ?_
  refine HQ.nil ?_
  refine hwNE ?_
  refine HC.anyC ([(⟨b2, i - 16, none⟩, w32 (wW l (i - 16))), (⟨b2, i - 7, none⟩, w32 (wW l (i - 7)))]) rfl ?_
  refine HB.pa 0 rfl ?_
  refine HB.pa 1 rfl ?_
  refine HB.pa 2 rfl ?_
  refine HB.pa 3 rfl ?_ (POp.index_array (o := i - 16) rfl rfl (by omega) (by omega) (by omega))
  refine HB.ld 4 rfl rfl memD ?_
  refine HB.pa 5 rfl ?_
  refine HB.pa 8 rfl ?_
  refine HB.pa 9 rfl ?_
  refine HB.pa 12 rfl ?_
  refine HB.pa 13 rfl ?_
  refine HB.pa 14 rfl ?_ (POp.index_array (o := i - 7) rfl rfl (by omega) (by omega) (by omega))
  refine HB.ld 15 rfl rfl memD ?_
  refine HB.pa 17 rfl ?_
  refine HB.pa 20 rfl ?_
  refine HB.pa 21 rfl ?_
  refine HB.all (by (first | exact Keep.blk memD g16 (Keep.blk memD g7 Keep.nil) | exact Keep.blk memD k16 (Keep.blk memD k7 Keep.nil))) [6, 18] (by kernel_rfl) rfl ⟨⟨_, rfl, ?_⟩, ⟨_, rfl, ?_⟩, trivial⟩
  ·refine HP.one ?_
   refine H1.lit (cs := nats [7, 18]) rfl rfl rfl rfl rfl rfl (fun b6 => ?_)
   apply HB.fold
   refine HB.all (by (first | exact Keep.blk memD g16 (Keep.blk memD g7 Keep.nil) | exact Keep.blk memD k16 (Keep.blk memD k7 Keep.nil))) [7, 18] (by kernel_rfl) rfl ⟨⟨_, rfl, ?_⟩, ⟨_, rfl, ?_⟩, trivial⟩
   ·refine HP.one ?_
    refine H1.call0 rfl rfl (fun w' hM => mixed_fn (wW l (i - 15)) [7, 18] (by decide) w' (blk_rd (hM.blk memA) rfl) (by decide)) ?_
    apply HB.fold
    refine HB.pa 10 rfl ?_
    refine HB.pa 11 rfl ?_
    refine HB.pa 16 rfl ?_
    refine HB.all (by (first | exact Keep.blk memD g16 (Keep.blk memD g7 Keep.nil) | exact Keep.blk memD k16 (Keep.blk memD k7 Keep.nil))) [18] (by kernel_rfl) rfl ⟨⟨_, rfl, ?_⟩, trivial⟩
    refine HP.one ?_
    refine H1.lit (cs := nats [17, 19]) rfl rfl rfl rfl rfl rfl (fun b18 => ?_)
    apply HB.fold
    refine HB.all (by (first | exact Keep.blk memD g16 (Keep.blk memD g7 Keep.nil) | exact Keep.blk memD k16 (Keep.blk memD k7 Keep.nil))) [19] (by kernel_rfl) rfl ⟨⟨_, rfl, ?_⟩, trivial⟩
    refine HP.one ?_
    refine H1.call0 rfl rfl (fun w' hM => mixed_fn (wW l (i - 2)) [17, 19] (by decide) w' (blk_rd (hM.blk memA) rfl) (by decide)) ?_
    apply HB.fold
    refine HB.pa 22 rfl ?_
    refine HB.pa 23 rfl ?_
    refine HB.pa 24 rfl ?_
    refine HB.all (by (first | exact Keep.blk memD g16 (Keep.blk memD g7 Keep.nil) | exact Keep.blk memD k16 (Keep.blk memD k7 Keep.nil))) [25] (by kernel_rfl) rfl ⟨⟨_, rfl, ?_⟩, trivial⟩
    refine HP.one ?_
    refine H1.st (b := b2) rfl rfl (by intro _ h; cases h) (by intro _ h; cases h) rplA (by rw [schW_len]; omega) ?_
    rw [hset]
    apply HB.fold
    refine HB.done (by (first | exact Keep.blk memD g16 (Keep.blk memD g7 Keep.nil) | exact Keep.blk memD k16 (Keep.blk memD k7 Keep.nil))) (by kernel_rfl) ?_
    refine hwNE ?_
    exact HX.again (i + 1) ⟨by omega, hlt⟩ (by show 64 - (i + 1) < 64 - i; omega) esA (by repeat (first | exact Hs.nil _ | (refine Hs.cons pickA ?_)))
   ·refine HP.one ?_
    refine H1.lit (cs := nats [17, 19]) rfl rfl rfl rfl rfl rfl (fun b18 => ?_)
    apply HB.fold
    refine HB.all (by (first | exact Keep.blk memD g16 (Keep.blk memD g7 Keep.nil) | exact Keep.blk memD k16 (Keep.blk memD k7 Keep.nil))) [7] (by kernel_rfl) rfl ⟨⟨_, rfl, ?_⟩, trivial⟩
    refine HP.one ?_
    refine H1.call0 rfl rfl (fun w' hM => mixed_fn (wW l (i - 15)) [7, 18] (by decide) w' (blk_rd (hM.blk memA) rfl) (by decide)) ?_
    apply HB.fold
    refine HB.pa 10 rfl ?_
    refine HB.pa 11 rfl ?_
    refine HB.pa 16 rfl ?_
    refine HB.all (by (first | exact Keep.blk memD g16 (Keep.blk memD g7 Keep.nil) | exact Keep.blk memD k16 (Keep.blk memD k7 Keep.nil))) [19] (by kernel_rfl) rfl ⟨⟨_, rfl, ?_⟩, trivial⟩
    refine HP.one ?_
    refine H1.call0 rfl rfl (fun w' hM => mixed_fn (wW l (i - 2)) [17, 19] (by decide) w' (blk_rd (hM.blk memA) rfl) (by decide)) ?_
    apply HB.fold
    refine HB.pa 22 rfl ?_
    refine HB.pa 23 rfl ?_
    refine HB.pa 24 rfl ?_
    refine HB.all (by (first | exact Keep.blk memD g16 (Keep.blk memD g7 Keep.nil) | exact Keep.blk memD k16 (Keep.blk memD k7 Keep.nil))) [25] (by kernel_rfl) rfl ⟨⟨_, rfl, ?_⟩, trivial⟩
    refine HP.one ?_
    refine H1.st (b := b2) rfl rfl (by intro _ h; cases h) (by intro _ h; cases h) rplA (by rw [schW_len]; omega) ?_
    rw [hset]
    apply HB.fold
    refine HB.done (by (first | exact Keep.blk memD g16 (Keep.blk memD g7 Keep.nil) | exact Keep.blk memD k16 (Keep.blk memD k7 Keep.nil))) (by kernel_rfl) ?_
    refine hwNE ?_
    exact HX.again (i + 1) ⟨by omega, hlt⟩ (by show 64 - (i + 1) < 64 - i; omega) esA (by repeat (first | exact Hs.nil _ | (refine Hs.cons pickA ?_)))
  ·refine HP.one ?_
   refine H1.lit (cs := nats [17, 19]) rfl rfl rfl rfl rfl rfl (fun b18 => ?_)
   apply HB.fold
   refine HB.all (by (first | exact Keep.blk memD g16 (Keep.blk memD g7 Keep.nil) | exact Keep.blk memD k16 (Keep.blk memD k7 Keep.nil))) [6] (by kernel_rfl) rfl ⟨⟨_, rfl, ?_⟩, trivial⟩
   refine HP.one ?_
   refine H1.lit (cs := nats [7, 18]) rfl rfl rfl rfl rfl rfl (fun b6 => ?_)
   apply HB.fold
   refine HB.all (by (first | exact Keep.blk memD g16 (Keep.blk memD g7 Keep.nil) | exact Keep.blk memD k16 (Keep.blk memD k7 Keep.nil))) [7] (by kernel_rfl) rfl ⟨⟨_, rfl, ?_⟩, trivial⟩
   refine HP.one ?_
   refine H1.call0 rfl rfl (fun w' hM => mixed_fn (wW l (i - 15)) [7, 18] (by decide) w' (blk_rd (hM.blk memA) rfl) (by decide)) ?_
   apply HB.fold
   refine HB.pa 10 rfl ?_
   refine HB.pa 11 rfl ?_
   refine HB.pa 16 rfl ?_
   refine HB.all (by (first | exact Keep.blk memD g16 (Keep.blk memD g7 Keep.nil) | exact Keep.blk memD k16 (Keep.blk memD k7 Keep.nil))) [19] (by kernel_rfl) rfl ⟨⟨_, rfl, ?_⟩, trivial⟩
   refine HP.one ?_
   refine H1.call0 rfl rfl (fun w' hM => mixed_fn (wW l (i - 2)) [17, 19] (by decide) w' (blk_rd (hM.blk memA) rfl) (by decide)) ?_
   apply HB.fold
   refine HB.pa 22 rfl ?_
   refine HB.pa 23 rfl ?_
   refine HB.pa 24 rfl ?_
   refine HB.all (by (first | exact Keep.blk memD g16 (Keep.blk memD g7 Keep.nil) | exact Keep.blk memD k16 (Keep.blk memD k7 Keep.nil))) [25] (by kernel_rfl) rfl ⟨⟨_, rfl, ?_⟩, trivial⟩
   refine HP.one ?_
   refine H1.st (b := b2) rfl rfl (by intro _ h; cases h) (by intro _ h; cases h) rplA (by rw [schW_len]; omega) ?_
   rw [hset]
   apply HB.fold
   refine HB.done (by (first | exact Keep.blk memD g16 (Keep.blk memD g7 Keep.nil) | exact Keep.blk memD k16 (Keep.blk memD k7 Keep.nil))) (by kernel_rfl) ?_
   refine hwNE ?_
   exact HX.again (i + 1) ⟨by omega, hlt⟩ (by show 64 - (i + 1) < 64 - i; omega) esA (by repeat (first | exact Hs.nil _ | (refine Hs.cons pickA ?_)))
 ·obtain rfl : i = 64 := by omega
  refine hwNE ?_
  refine HL.one (H1.ldAgg (vs := schW l 64) rfl memA (schW_len _ _) (fun i v h => by rwa [Nat.zero_add]) rfl ?_)
  refine hwNE ?_
  refine HL.one (H1.stAgg rfl rfl (schW_len _ _) (row_one' fun _ => rfl) rplA rfl ?_)
  refine hwNE ?_
  exact HX.retc1 rfl rfl memA (schW_len _ _) fun w' hM => ⟨rfl, hM.ext⟩
end Go.Sx
/- Chapter 2: what a block does to a state: the walk. -/
namespace Go.Sx
open Go Go.Proofs Go.RowKit
theorem hbDE {G G2 : Prop} (x : G2) (hwq : Hold G2 → G := by
  intro hQq
  repeat' (first | refine HL.pa ?_ (POp.nilCheck rfl) | apply HL.fold | apply HA.fold | apply HL.nil | apply HX.n_then | apply HC.seq | apply HC.region | refine HL.pa ?_ | refine HL.ga rfl ?_ | refine HL.na rfl ?_ | refine HL.nu rfl rfl ?_ | apply HC.skip | apply HC.exit | apply HC.ret | apply HX.e_block | refine HX.e_other rfl ?_ | apply HX.e_then | apply HX.e_again | apply HX.n_block | apply HX.r_then | apply HX.r_block | apply HX.r_again | refine HC.cond_yes rfl ?_ | refine HC.cond_no rfl ?_ | refine HL.one (H1.ldb rfl memA rfl rfl ?_) | refine HC.cond rfl (fun hc => ?_) (fun hc => ?_) | refine HC.cond_b rfl (fun hc => ?_) (fun hc => ?_))
  exact hQq.get) : G := hwq ⟨x⟩
def RoundG (w : World) : Prop := ∀ i v, (ws kL)[i]? = some v → w.cell? ⟨0, i, none⟩ = some v
theorem RoundG.ext {w w' : World} (h : RoundG w) (k : Ext w w') : RoundG w' := fun i v hv => cell_ext k (h i v hv)
theorem kL_len : kL.length = 64 := rfl
theorem kW_get {i : Nat} (h : i < 64) : (ws kL)[i]? = some (w32 (kW i)) := by
 have : i < kL.length := h
 unfold kW ws
 rw [List.getElem?_map, List.getD_eq_getElem?_getD, List.getElem?_eq_getElem this]; rfl
def addL (s v : S8) (i : Nat) : List Value := row 8 fun j => w32 (if j < i then s.l.getD j 0 + v.l.getD j 0 else s.l.getD j 0)
theorem addL_get {s v : S8} {i : Nat} (h : i < 8) : (addL s v i)[i]? = some (w32 (s.l.getD i 0)) := by
 unfold addL
 rw [row_get _ h, if_neg (Nat.lt_irrefl _)]
theorem addL_set {s v : S8} {i : Nat} : (addL s v i).set i (w32 (s.l.getD i 0 + v.l.getD i 0)) = addL s v (i + 1) := by
 unfold addL
 rw [row_set]
 refine row_congr fun j _ => ?_
 by_cases e : j = i
 ·subst e; rw [if_pos rfl, if_pos (Nat.lt_succ_self _)]
 ·have : (j < i + 1) = (j < i) := by simp only [eq_iff_iff]; omega
  rw [if_neg e]; simp only [this]
theorem S8.get {s : S8} {i : Nat} (h : i < 8) : (ws s.l)[i]? = some (w32 (s.l.getD i 0)) := by
 have : i < s.l.length := h
 unfold ws
 rw [List.getElem?_map, List.getD_eq_getElem?_getD, List.getElem?_eq_getElem this]; rfl
theorem ws_one {l : List UInt32} : ∀ v ∈ ws l, v.oneCell' = true := by
 intro v hv
 obtain ⟨x, -, rfl⟩ := List.mem_map.1 hv
 rfl
attribute [local irreducible] WC WL WX POp Then Again Fn NX W1 WA WO QL RP RA Yld LoopAt HC HL HX HN H1 HA HO HQ HB HP A.blk A.grow A.rd A.obj A.mp AgainH CutH
attribute [local irreducible] mixW kL
set_option maxRecDepth 100000 in
set_option maxHeartbeats 4000000 in
theorem add_fn {w0 w : World} {H : List Atom} {bh bb off c : Nat} (s : S8) (l : List UInt8) (hl : l.length = 64) (hG : RoundG w0) (hM : Mm w0 (A.blk bh (ws s.l) 264 :: H) w)
  (hr : ∀ w', Mm w0 H w' → Rd w' (.slice (some ⟨bb, off, none⟩) 64 c) (ub l)) :
  Fn Tryz.prog 207 #[.pointer (some ⟨bh, 0, none⟩), .slice (some ⟨bb, off, none⟩) 64 c] w fun v w' => v = .tuple #[] ∧ Mm w0 (A.blk bh (ws (comp s l).l) 264 :: H) w' := by
 refine enterK (l := [_, _]) hM rfl Tryz.ntmps207 rfl ?_
 refine hbDE ?_
 refine HL.one (H1.callx (vs := [_]) rfl rfl (fun w' hM => schedule_fn l hl w' (hr w' hM.tail)) ?_)
 refine hbDE ?_
 refine HL.one (H1.alloc (cs := schW l 0) (by kernel_rfl) rfl (fun b4 => ?_))
 refine hbDE ?_
 refine HL.one (H1.stAgg (cs := schW l 0) rfl rfl (schW_len _ _) (row_one' fun _ => rfl) rplA (by rw [schW_len, schW_len]) ?_)
 refine hbDE ?_
 refine HL.one (H1.ldAgg (vs := ws s.l) rfl memA rfl (fun i v h => by rwa [Nat.zero_add]) rfl ?_)
 refine hbDE ?_
 refine HL.one (H1.alloc (cs := List.replicate 8 (.int .u32 0)) (by kernel_rfl) rfl (fun b5 => ?_))
 refine hbDE ?_
 refine HL.one (H1.stAgg (cs := List.replicate 8 (.int .u32 0)) rfl rfl rfl ws_one rplA rfl ?_)
 refine hbDE ?_
 refine HL.one (H1.ldAggw (vs := ws kL) rfl (by unfold ws; rw [List.length_map, kL_len]) (fun w' hM i v hv => by rw [Nat.zero_add]; exact cell_ext hM.ext (hG i v hv)) rfl ?_)
 refine hbDE ?_
 refine HC.cut (α := Unit) (fun _ => [(0, .pointer (some ⟨bh, 0, none⟩)), (5, .pointer (some ⟨b5, 0, none⟩))]) (fun _ => A.blk b5 (ws (rnds l s 64).l) 264 :: A.blk bh (ws s.l) 264 :: H) (fun _ => True) ?_ ?_
 ·repeat refine HC.seq ?_
  refine HC.block ?_
  refine HC.loop (α := Nat) (fun i => [(0, .pointer (some ⟨bh, 0, none⟩)), (4, .pointer (some ⟨b4, 0, none⟩)), (5, .pointer (some ⟨b5, 0, none⟩)), (18, .agg (ws kL).toArray), (19, zv (i : Int))])
   (fun i => A.blk b5 (ws (rnds l s i).l) 264 :: A.blk b4 (schW l 64) 295 :: A.blk bh (ws s.l) 264 :: H) (fun i => i ≤ 64) (fun i => 64 - i) 0 (Nat.zero_le _) esA (Hs.refl _) ?_
  rintro i hi
  by_cases hlt : i < 64
  ·have hk := kW_get hlt
   have hw := schW_get (l := l) (i := 64) hlt hlt
   have hstep : rnds l s (i + 1) = rnd (kW i) (wW l i) (rnds l s i) := rfl
   generalize rnds l s i = S at hstep
   refine hwNB ?_
   refine HL.pa ?_ (POp.index_agg (v := w32 (kW i)) rfl rfl rfl hlt hk)
   refine hwNB ?_
   refine HC.quietS [(some 23, [5], []), (some 24, [23], [0]), (some 25, [5], []), (some 26, [25], [2]), (some 8, [24], [1, 0, 1]), (some 9, [26], [3, 4, 0, 1, 2, 3, 4])] (by kernel_rfl) (by kernel_rfl) (by kernel_rfl) ?_
   refine qwA ?_
   refine HQ.nil ?_
   refine hwNB ?_
   refine HC.anyC ([(⟨b5, 7, none⟩, w32 S.h), (⟨b5, 5, none⟩, w32 S.f), (⟨b5, 6, none⟩, w32 S.g), (⟨b4, i, none⟩, w32 (wW l i))]) rfl ?_
   refine HB.pa 0 rfl ?_
   refine HB.ld 1 rfl rfl memD ?_
   refine HB.pa 2 rfl ?_
   refine HB.pa 6 rfl ?_
   refine HB.pa 7 rfl ?_
   refine HB.ld 8 rfl rfl memD ?_
   refine HB.pa 9 rfl ?_
   refine HB.pa 10 rfl ?_
   refine HB.pa 11 rfl ?_
   refine HB.pa 12 rfl ?_
   refine HB.ld 13 rfl rfl memD ?_
   refine HB.pa 14 rfl ?_
   refine HB.pa 15 rfl ?_
   refine HB.pa 17 rfl ?_
   refine HB.pa 19 rfl ?_
   refine HB.pa 20 rfl ?_
   refine HB.ld 21 rfl rfl memD ?_
   refine HB.all (by (exact Keep.blk (cs := ws S.l) memD rfl (Keep.blk (cs := ws S.l) memD rfl (Keep.blk (cs := ws S.l) memD rfl (Keep.blk memD hw Keep.nil))))) [3] (by kernel_rfl) rfl ⟨⟨_, rfl, ?_⟩, trivial⟩
   refine HP.one ?_
   refine H1.lit (cs := nats [6, 11, 25]) rfl rfl rfl rfl rfl rfl (fun b6 => ?_)
   apply HB.fold
   refine HB.all (by (exact Keep.blk (cs := ws S.l) memD rfl (Keep.blk (cs := ws S.l) memD rfl (Keep.blk (cs := ws S.l) memD rfl (Keep.blk memD hw Keep.nil))))) [4] (by kernel_rfl) rfl ⟨⟨_, rfl, ?_⟩, trivial⟩
   refine HP.one ?_
   refine H1.call0 rfl rfl (fun w' hM => mixed_fn S.e [6, 11, 25] (by decide) w' (blk_rd (hM.blk memA) rfl) (by decide)) ?_
   apply HB.fold
   refine HB.pa 5 rfl ?_
   refine HB.pa 16 rfl ?_
   refine HB.pa 18 rfl ?_
   refine HB.pa 22 rfl ?_
   refine HB.pa 23 rfl ?_
   refine HB.done (by (exact Keep.blk (cs := ws S.l) memD rfl (Keep.blk (cs := ws S.l) memD rfl (Keep.blk (cs := ws S.l) memD rfl (Keep.blk memD hw Keep.nil))))) (by kernel_rfl) ?_
   refine hwNB ?_
   refine HC.sub [(0, .pointer (some ⟨bh, 0, none⟩)), (4, .pointer (some ⟨b4, 0, none⟩)), (5, .pointer (some ⟨b5, 0, none⟩)), (18, .agg (ws kL).toArray), (19, zv (i : Int)), (8, w32 S.a), (10, w32 (rT (kW i) (wW l i) S))]
    (A.blk b5 (ws S.l) 264 :: A.blk b4 (schW l 64) 295 :: A.blk bh (ws s.l) 264 :: H) ?_ esA (Hs.refl _).skip
   refine HC.anyC ([(⟨b5, 1, none⟩, w32 S.b), (⟨b5, 2, none⟩, w32 S.c)]) rfl ?_
   refine HB.pa 0 rfl ?_
   refine HB.pa 3 rfl ?_
   refine HB.pa 4 rfl ?_
   refine HB.ld 5 rfl rfl memD ?_
   refine HB.pa 6 rfl ?_
   refine HB.pa 7 rfl ?_
   refine HB.pa 8 rfl ?_
   refine HB.ld 9 rfl rfl memD ?_
   refine HB.pa 10 rfl ?_
   refine HB.pa 11 rfl ?_
   refine HB.pa 12 rfl ?_
   refine HB.ld 13 rfl rfl memD ?_
   refine HB.pa 14 rfl ?_
   refine HB.ld 15 rfl rfl memD ?_
   refine HB.pa 16 rfl ?_
   refine HB.pa 17 rfl ?_
   refine HB.all (by (exact Keep.blk (cs := ws S.l) memD rfl (Keep.blk (cs := ws S.l) memD rfl Keep.nil))) [1] (by kernel_rfl) rfl ⟨⟨_, rfl, ?_⟩, trivial⟩
   refine HP.one ?_
   refine H1.lit (cs := nats [2, 13, 22]) rfl rfl rfl rfl rfl rfl (fun b7 => ?_)
   apply HB.fold
   refine HB.all (by (exact Keep.blk (cs := ws S.l) memD rfl (Keep.blk (cs := ws S.l) memD rfl Keep.nil))) [2] (by kernel_rfl) rfl ⟨⟨_, rfl, ?_⟩, trivial⟩
   refine HP.one ?_
   refine H1.call0 rfl rfl (fun w' hM => mixed_fn S.a [2, 13, 22] (by decide) w' (blk_rd (hM.blk memA) rfl) (by decide)) ?_
   apply HB.fold
   refine HB.pa 18 rfl ?_
   refine HB.pa 19 rfl ?_
   refine HB.done (by (exact Keep.blk (cs := ws S.l) memD rfl (Keep.blk (cs := ws S.l) memD rfl Keep.nil))) (by kernel_rfl) ?_
   refine hwNB ?_
   refine HC.sub [(0, .pointer (some ⟨bh, 0, none⟩)), (4, .pointer (some ⟨b4, 0, none⟩)), (5, .pointer (some ⟨b5, 0, none⟩)), (18, .agg (ws kL).toArray), (19, zv (i : Int)), (10, w32 (rT (kW i) (wW l i) S)), (11, w32 (rU S))]
    (A.blk b5 (ws S.l) 264 :: A.blk b4 (schW l 64) 295 :: A.blk bh (ws s.l) 264 :: H) ?_ esA (Hs.refl _).skip
   generalize hT : rT (kW i) (wW l i) S = T
   generalize hU : rU S = U
   have hstep' : rnds l s (i + 1) = ⟨T + U, S.a, S.b, S.c, S.d + T, S.e, S.f, S.g⟩ := by rw [hstep, ← hT, ← hU]; rfl
   refine HC.any rfl ?_
   refine HA.pa 0 rfl ?_ (POp.arr_lo (i := 1) rfl rfl rfl (by decide))
   refine HA.pa 1 rfl ?_ (POp.arr_hi (i := 7) rfl rfl rfl (by decide))
   refine HA.all [2] (by kernel_rfl) rfl ⟨⟨_, rfl, ?_⟩, trivial⟩
   refine HO.one ?_
   refine H1.copyB (cur := ws S.l) (cs := ws [S.a, S.b, S.c, S.d, S.e, S.f, S.g]) (cur' := ws [S.a, S.a, S.b, S.c, S.d, S.e, S.f, S.g]) rfl rfl rfl (fun w' hM j v hv => ?_) ws_one (by simp [ws, S8.l]) rfl rplA rfl ?_
   ·rw [add_lit, Nat.zero_add]
    refine (hM.blk (cs := ws S.l) memA).cell ?_
    have hj : j < 7 := (List.getElem?_eq_some_iff.1 hv).1
    match j, hj, hv with
    | 0, _, h | 1, _, h | 2, _, h | 3, _, h | 4, _, h | 5, _, h | 6, _, h => exact h
   apply HA.fold
   refine HA.done (by kernel_rfl) ?_
   refine hwNB ?_
   refine HL.one (H1.st rfl rfl (by intro _ h; cases h) (by intro _ h; cases h) rplA (by simp [ws]) ?_)
   refine hwNB ?_
   refine HL.one (H1.st rfl rfl (by intro _ h; cases h) (by intro _ h; cases h) rplA (by simp [ws]) ?_)
   refine hwNB ?_
   refine HX.again (i + 1) hlt (by show 64 - (i + 1) < 64 - i; omega) esA ?_
   rw [hstep']
   exact Hs.refl _
  ·obtain rfl : i = 64 := by omega
   refine hwNB ?_
   exact HX.cut () trivial esA (Hs.cons Pick.here (Hs.refl _).skip)
 rintro - -
 have hv : ∀ i, i < 8 → (ws (rnds l s 64).l)[i]? = some (w32 ((rnds l s 64).l.getD i 0)) := fun i h => S8.get h
 rw [show comp s l = s.add (rnds l s 64) from rfl]
 generalize rnds l s 64 = V at hv
 refine hwNB ?_
 refine HC.loop (α := Nat) (fun i => [(0, .pointer (some ⟨bh, 0, none⟩)), (5, .pointer (some ⟨b5, 0, none⟩)), (82, zv (i : Int))])
  (fun i => A.blk b5 (ws V.l) 264 :: A.blk bh (addL s V i) 264 :: H) (fun i => i ≤ 8) (fun i => 8 - i) 0 (Nat.zero_le _) esA (Hs.refl _) ?_
 rintro i hi
 by_cases hlt : i < 8
 ·have h1 := hv i hlt
  have h2 := addL_get (s := s) (v := V) hlt
  have h3 := addL_set (s := s) (v := V) (i := i)
  refine hwNB ?_
  refine HC.anyC ([(⟨b5, i, none⟩, w32 (V.l.getD i 0))]) rfl ?_
  refine HB.pa 0 rfl ?_
  refine HB.pa 1 rfl ?_
  refine HB.pa 2 rfl ?_ (POp.nilCheck rfl)
  refine HB.pa 3 rfl ?_
  refine HB.pa 5 rfl ?_
  refine HB.pa 6 rfl ?_
  refine HB.ld 7 rfl rfl memD ?_
  refine HB.pa 9 rfl ?_ (POp.nilCheck rfl)
  refine HB.all (by (exact Keep.blk memD h1 Keep.nil)) [4] (by kernel_rfl) rfl ⟨⟨_, rfl, ?_⟩, trivial⟩
  refine HP.one ?_
  refine H1.ldb rfl memA h2 rfl ?_
  apply HB.fold
  refine HB.pa 8 rfl ?_
  refine HB.pa 10 rfl ?_
  refine HB.all (by (exact Keep.blk memD h1 Keep.nil)) [11] (by kernel_rfl) rfl ⟨⟨_, rfl, ?_⟩, trivial⟩
  refine HP.one ?_
  refine H1.st (b := bh) rfl rfl (by intro _ h; cases h) (by intro _ h; cases h) rplA (by unfold addL; rw [row_len]; exact hlt) ?_
  rw [h3]
  apply HB.fold
  refine HB.done (by (exact Keep.blk memD h1 Keep.nil)) (by kernel_rfl) ?_
  refine hwNB ?_
  exact HX.again (i + 1) hlt (by show 8 - (i + 1) < 8 - i; omega) esA (Hs.refl _)
 ·obtain rfl : i = 8 := by omega
  refine hwNB ?_
  exact HX.end0 rfl fun w' hM => ⟨rfl, hM.tail⟩
end Go.Sx
/-
 The layer with atoms: bytes of a string to which more is added; strings out of bytes.
-/
namespace Go.Sx
open Go Go.RowKit
def A.gb (e : TypeId) (b c n : Nat) (xs : List Value) : Atom :=
 A.obj b fun o => ∃ cur fz, o = .cells cur e fz ∧ (∀ q, q < cur.size → ¬ (fz.1 ≤ q ∧ q < fz.2)) ∧ n ≤ c ∧ cur.size = c ∧ cur.toList.take n = xs ∧ xs.length = n
theorem Mm.gb {w0 w : World} {H : List Atom} {e : TypeId} {b c n : Nat} {xs : List Value} (h : Mm w0 H w) (hm : A.gb e b c n xs ∈ H) :
  ∃ cur fz, w.heap[b]? = some (.cells cur e fz) ∧ (∀ q, q < cur.size → ¬ (fz.1 ≤ q ∧ q < fz.2)) ∧ n ≤ c ∧ cur.size = c ∧ cur.toList.take n = xs ∧ xs.length = n := by
 obtain ⟨o, h1, cur, fz, rfl, h2⟩ := h.obj hm
 exact ⟨cur, fz, h1, h2⟩
theorem gb_cell {w0 w : World} {H : List Atom} {e : TypeId} {b c n : Nat} {xs : List Value} (h : Mm w0 H w) (hm : A.gb e b c n xs ∈ H) {j : Nat} {v : Value} (hv : xs[j]? = some v) : w.cell? ⟨b, j, none⟩ = some v := by
 obtain ⟨cur, fz, h1, -, h3, h4, h5, h6⟩ := h.gb hm
 have hj : j < n := by have := (List.getElem?_eq_some_iff.1 hv).1; omega
 rw [← h5, List.getElem?_take_of_lt hj] at hv
 simp only [World.cell?, h1]
 simpa using hv
theorem gb_rd {w0 w : World} {H : List Atom} {e : TypeId} {b c n off m c2 : Nat} {xs : List Value} (h : Mm w0 H w) (hm : A.gb e b c n xs ∈ H) (h1 : off + m ≤ n) (h2 : m ≤ c2) : Rd w (.slice (some ⟨b, off, none⟩) m c2) ((xs.drop off).take m) := by
 have hl : ((xs.drop off).take m).length = m := by
  obtain ⟨cur, fz, -, -, -, -, -, h6⟩ := h.gb hm
  rw [List.length_take, List.length_drop, h6]; omega
 refine ⟨some ⟨b, off, none⟩, c2, by rw [hl], by rw [hl]; exact h2, .inr ⟨b, off, rfl, ?_, fun i u hu => ?_⟩⟩
 ·obtain ⟨cur, fz, hb, -⟩ := h.gb hm
  exact (Array.getElem?_eq_some_iff.1 hb).1
 ·have hi : i < m := by have := (List.getElem?_eq_some_iff.1 hu).1; omega
  rw [List.getElem?_take_of_lt hi, List.getElem?_drop] at hu
  exact gb_cell h hm hu
section
variable {P : Program} {r : Option Nat} {N : Nat} {ds : List Deferred} {ol rest : List Oper} {Q : Post} {E : Env} {w0 : World} {H : List Atom} {next : Act → World → Prop} {g : Option (Nat × Bool)}
variable {d : Nat} {t ty : TypeId} {pos : String} {af : Array Edge} {x y : Operand}
theorem H1.sgb {src dst e : TypeId} {s : ByteArray} [hs : UTy P src .string] [hd' : UTy P dst (.slice e)] [he : UTy P e (.int .u8)] (hx : Env.ev E x = some (.string s)) (hd : Nat.blt d N = true)
  (h : ∀ b c, HN N ds next ((d, .slice (some ⟨b, 0, none⟩) s.size c) :: E) w0 (A.gb e b c s.size (ub s.data.toList) :: H)) : H1 P r N ds next ⟨some d, .convert src dst x, ty, pos, af, g⟩ Q E w0 H := fun w hM => by
 have hrun := run_bytes_of_string (P := P) w src dst e s hs.is hd'.is he.is
 have hge := grownCap_ge w s.size 0 e
 obtain ⟨R, hR⟩ : ∃ R, R = bytesRow s (grownCap w s.size 0 e) := ⟨_, rfl⟩
 rw [← hR] at hrun
 have hsz : s.data.size = s.size := rfl
 refine W1.run (v := .slice (some ⟨w.heap.size, 0, none⟩) s.size (grownCap w s.size 0 e)) (w' := w.drew.alloc (.cells R e (R.size, R.size + 1))) (fun a ha => ?_) rfl hd (h w.heap.size (grownCap w s.size 0 e) _ ?_)
 ·simp only [execOp, ha.ev hx, Sem.run_bind, hrun, Result.andThen, Sem.run_pure]
 ·refine (hM.more ((Ext.drew w).trans (Ext.alloc w.drew _))).cons ⟨_, heap_alloc_new w.drew _, _, _, rfl, fun q hq hh => ?_, hge, ?_, ?_, ?_⟩ (by simp [A.gb, A.obj]) fun b hb => ?_
  ·have := hh.1
   simp only at this
   omega
  ·rw [hR]; simp only [bytesRow, Array.size_append, Array.size_map, Array.size_replicate]; omega
  ·rw [hR]
   simp only [bytesRow, Array.toList_append, Array.toList_map]
   rw [List.take_append_of_le_length (by rw [List.length_map, Array.length_toList]; omega), List.take_of_length_le (by rw [List.length_map, Array.length_toList]; omega)]
   rfl
  ·unfold ub; rw [List.length_map, Array.length_toList]; omega
  ·have hb' : b = w.heap.size := by simpa [A.gb, A.obj] using hb
   subst hb'
   refine ⟨fun hm => ?_, hM.ext.size, by simp⟩
   have := (hM.rng _ hm).2
   omega
theorem H1.appG1 {e : TypeId} {z u : Value} {bb n c b b2 : Nat} {xs : List Value} {H' : Nat → Nat → List Atom} [h : UTy P t (.slice e)] [hi : ITy P e z 1 bb]
  (hx : Env.ev E x = some (.slice (some ⟨b, 0, none⟩) n c)) (hy : Env.ev E y = some (.slice (some ⟨b2, 0, none⟩) 1 1)) (hr : ∀ b' c', Rpl (A.gb e b c n xs) (A.gb e b' c' (n + 1) (xs ++ [u])) H (H' b' c'))
  (hm : A.blk b2 [u] e ∈ H) (h1 : u.oneCell' = true) (hzs : z.cells.size = 1) (hnm : n + 1 ≤ 1000000) (hb : Nat.ble bb 1000 = true) (hd : Nat.blt d N = true)
  (hn : ∀ b' c', HN N ds next ((d, .slice (some ⟨b', 0, none⟩) (n + 1) c') :: E) w0 (H' b' c')) :
  H1 P r N ds next ⟨some d, .call ⟨.builtin .append, #[x, y], #[t, t]⟩, ty, pos, af, g⟩ Q E w0 H := fun w hM => by
 obtain ⟨i, hi1, hi2, hi3, hi4⟩ := hi.parts
 obtain ⟨cur, fz, hb1, hfz, hnc, hcs, htk, hxl⟩ := hM.gb (hr 0 0).mem
 have hnews : ∀ j v, [u][j]? = some v → w.cell? ((⟨b2, 0, none⟩ : Addr).add j) = some v := fun j v hj => by
  rw [add_lit, Nat.zero_add]
  exact (hM.blk hm).cell hj
 have hlc : cur.toList.length = c := by simpa using hcs
 by_cases hroom : n + 1 ≤ c
 ·have hst := run_storeCells_cells (P := P) b n [u] 0 w (fun j hj => by
   have hj0 : j = 0 := by simpa using hj
   subst hj0
   have hlt : n < cur.size := by omega
   simp [World.cell?, hb1, hlt]) (fun j hj => by
   have hj0 : j = 0 := by simpa using hj
   subst hj0
   have := hfz n (by omega)
   simp only [World.frozen?, hb1, Nat.add_zero]
   simpa using this) (by simpa using h1)
  have hf := run_firstCells_some (P := P) w i.size 1 ⟨b2, 0, none⟩ 1 1 [u] (by rw [hi3]; rfl) hnews
  rw [hi3] at hf
  have hrun : (Builtin.append_ #[t, t] ty #[.slice (some ⟨b, 0, none⟩) n c, .slice (some ⟨b2, 0, none⟩) 1 1]).run P w = .ok (.slice (some ⟨b, 0, none⟩) (n + 1) c) (w.setCells b n [u]) := by
   simp only [Nat.add_zero] at hst
   simp [Builtin.append_, run_underlying h.is, sizeOf, typeInfo, hi1, Builtin.lenOf, hroom, hf, Addr.add_lit, hi3, hst]
  have hnew : (w.setCells b n [u]).heap[b]? = some (.cells (cur.setIfInBounds n u) e fz) := by
   simp [World.setCells, World.setCell, Array.getElem?_modify, hb1]
  refine W1.run (v := .slice (some ⟨b, 0, none⟩) (n + 1) c) (w' := w.setCells b n [u]) (fun a ha => ?_) rfl hd (hn b c _ (hM.turn (hr b c) ?_ ?_ ?_ (by simp [World.setCells, World.setCell]) (fun q hq hq' => ?_) ⟨_, hnew, _, _, rfl, fun q hq => hfz q (by simpa using hq), hroom, by simpa using hcs, ?_, by simp [hxl]⟩ (by simp [A.gb, A.obj]) fun b' hb' => .inl hb'))
  ·simp only [execOp, resolve, invoke, Go.builtin, Sem.run_bind, Sem.run_pure, Result.andThen, List.map_toArray, List.map_cons, List.map_nil, ha.ev hx, ha.ev hy, hrun]
  ·simp [World.setCells, World.setCell]
  ·simp [World.setCells, World.setCell]
  ·simp [World.setCells, World.setCell]
  ·have hne : ¬ b = q := fun e => hq' (by simp [A.gb, A.obj, e])
   simp [World.setCells, World.setCell, Array.getElem?_modify, hne]
  ·rw [Array.toList_setIfInBounds, List.take_succ_eq_append_getElem (by rw [List.length_set]; omega), List.getElem_set_self, List.take_set, htk]
   rw [List.set_eq_of_length_le (by omega)]
 ·have hrun := run_append_grow (P := P) (w := w) t ty e i z h.is hi1 hi2 ⟨b, 0, none⟩ n c xs (by rw [hi3, hxl]; omega) (fun j v hv => by
   rw [add_lit, Nat.zero_add]; exact gb_cell hM (hr 0 0).mem hv) ⟨b2, 0, none⟩ 1 1 [u] (by rw [hi3]; rfl) hnews (by omega) (by omega) (growslice_fits (by omega) (Nat.le_trans (Nat.mul_le_mul hnm (by rw [hi4]; exact Nat.le_of_ble_eq_true hb)) (by decide)))
  have hge := grownCap_ge w (n + 1) c e
  have hM2 := hM
  refine W1.run (v := .slice (some ⟨w.heap.size, 0, none⟩) (n + 1) (grownCap w (n + 1) c e)) (w' := w.drew.alloc (.cells (xs.toArray ++ [u].toArray ++ Builtin.zeroCells z.cells (grownCap w (n + 1) c e - (n + 1))) e)) (fun a ha => ?_) rfl hd
   (hn _ _ _ (hM.turn (hr _ _) rfl rfl rfl (by simp) (fun q hq hq' => ?_) ⟨_, heap_alloc_new w.drew _, _, _, rfl, fun q _ hh => by simp at hh, hge, ?_, ?_, by simp [hxl]⟩ (by simp [A.gb, A.obj]) fun b' hb' => .inr ?_))
  ·simp only [execOp, resolve, invoke, Go.builtin, Sem.run_bind, Sem.run_pure, Result.andThen, List.map_toArray, List.map_cons, List.map_nil, ha.ev hx, ha.ev hy, hrun]
  ·exact (Ext.alloc w.drew _).block q hq
  ·simp [Builtin.zeroCells, hzs, hxl]; omega
  ·simp only [Array.toList_append]
   rw [List.take_append_of_le_length (by simp [hxl]), List.take_of_length_le (by simp [hxl])]
  ·have hb' : b' = w.heap.size := by simpa [A.gb, A.obj] using hb'
   subst hb'
   exact ⟨Nat.le_refl _, by simp⟩
theorem H1.bstrB {dst e eb : TypeId} {b c : Nat} {ys : List UInt8} [h : UTy P t (.slice e)] [he : UTy P e (.int .u8)] [hs : UTy P dst .string] (hx : Env.ev E x = some (.slice (some ⟨b, 0, none⟩) ys.length c)) (hm : A.blk b (ub ys) eb ∈ H)
  (hd : Nat.blt d N = true) (hn : HN N ds next ((d, .string ⟨ys.toArray⟩) :: E) w0 H) : H1 P r N ds next ⟨some d, .convert t dst x, ty, pos, af, g⟩ Q E w0 H := fun w hM =>
 W1.bytes_string hx rfl (fun j hj => by
  rw [add_lit, Nat.zero_add]
  exact (hM.blk hm).cell (by simp [ub, hj])) hd (hn w hM)
theorem POp.cut3 {e : TypeId} {b off l c lo hi mx : Nat} {z : Value} {sz bb : Nat} {k1 k2 k3 : IntKind} {n1 n2 n3 : Int} {y1 y2 y3 : Operand} [h : UTy P t (.slice e)] [hi' : ITy P e z sz bb] (hx : Env.ev E x = some (.slice (some ⟨b, off, none⟩) l c))
  (h1 : Env.ev E y1 = some (.int k1 n1)) (h2 : Env.ev E y2 = some (.int k2 n2)) (h3 : Env.ev E y3 = some (.int k3 n3)) (e1 : n1 = (lo : Int)) (e2 : n2 = (hi : Int)) (e3 : n3 = (mx : Int)) (h4 : lo ≤ hi) (h5 : hi ≤ mx) (h6 : mx ≤ c) (hne : lo < mx) :
  POp P N ds E (.slice t x (some y1) (some y2) (some y3)) ty (.slice (some ⟨b, off + lo * sz, none⟩) (hi - lo) (mx - lo)) := fun a ha d pos af g w => by
 subst e1; subst e2; subst e3
 have hc : ¬ mx = lo := by omega
 simp [execOp, ha.ev hx, ha.ev h1, ha.ev h2, ha.ev h3, Instr.sliceAt, Instr.slice, run_underlying h.is, Instr.sliceBounds, run_bound (show (0 : Int) ≤ (mx : Int) by omega) (show (mx : Int) ≤ ((c : Nat) : Int) by omega),
  run_bound (show (0 : Int) ≤ (hi : Int) by omega) (show (hi : Int) ≤ ((mx : Nat) : Int) by omega), run_bound (show (0 : Int) ≤ (lo : Int) by omega) (show (lo : Int) ≤ ((hi : Nat) : Int) by omega), Sem.run_bind, run_sizeOf, hc, add_lit]
end
end Go.Sx
/-
 The layer with atoms: parts of a block that are stored whole; strings copied into a block; slices of the call's own that are cleared and cut.
-/
namespace Go.Sx
open Go Go.RowKit
section
variable {P : Program} {r : Option Nat} {N : Nat} {ds : List Deferred} {ol rest : List Oper} {Q : Post} {E : Env} {w0 : World} {H : List Atom} {next : Act → World → Prop} {g : Option (Nat × Bool)}
variable {d : Option Nat} {t ty : TypeId} {pos : String} {af : Array Edge} {x y : Operand}
end
end Go.Sx
/- Chapter 2: the digest of a string: the walks. -/
namespace Go.Sx
open Go Go.Proofs Go.RowKit
theorem digL_at (s : S8) : ∀ (i k : Nat), i < 8 → k < 4 → (digL s)[4 * i + k]? = some ((s.l.getD i 0) >>> UInt32.ofNat (24 - 8 * k)).toUInt8 := by
 intro i k hi hk
 match i, hi, k, hk with
 | 0, _, 0, _ | 0, _, 1, _ | 0, _, 2, _ | 0, _, 3, _ => rfl
 | 1, _, 0, _ | 1, _, 1, _ | 1, _, 2, _ | 1, _, 3, _ => rfl
 | 2, _, 0, _ | 2, _, 1, _ | 2, _, 2, _ | 2, _, 3, _ => rfl
 | 3, _, 0, _ | 3, _, 1, _ | 3, _, 2, _ | 3, _, 3, _ => rfl
 | 4, _, 0, _ | 4, _, 1, _ | 4, _, 2, _ | 4, _, 3, _ => rfl
 | 5, _, 0, _ | 5, _, 1, _ | 5, _, 2, _ | 5, _, 3, _ => rfl
 | 6, _, 0, _ | 6, _, 1, _ | 6, _, 2, _ | 6, _, 3, _ => rfl
 | 7, _, 0, _ | 7, _, 1, _ | 7, _, 2, _ | 7, _, 3, _ => rfl
def dgC (s : S8) (m : Nat) : List Value := row 32 fun q => b8 (if q < m then (digL s).getD q 0 else 0)
theorem dgC_set {s : S8} {i k : Nat} (hi : i < 8) (hk : k < 4) : (dgC s (4 * i + k)).set (4 * i + k) (b8 ((s.l.getD i 0) >>> UInt32.ofNat (24 - 8 * k)).toUInt8) = dgC s (4 * i + (k + 1)) := by
 have h := digL_at s i k hi hk
 unfold dgC
 rw [row_set]
 refine row_congr fun j _ => ?_
 by_cases e : j = 4 * i + k
 ·subst e
  have e2 : (digL s).getD (4 * i + k) 0 = ((s.l.getD i 0) >>> UInt32.ofNat (24 - 8 * k)).toUInt8 := by rw [List.getD_eq_getElem?_getD, h]; rfl
  rw [if_pos rfl, if_pos (by omega), e2]
 ·have : (j < 4 * i + (k + 1)) = (j < 4 * i + k) := by simp only [eq_iff_iff]; omega
  rw [if_neg e]; simp only [this]
theorem dgC_32 (s : S8) : dgC s 32 = ub (digL s) := rfl
attribute [local irreducible] WC WL WX POp Then Again Fn NX W1 WA WO QL RP RA Yld LoopAt HC HL HX HN H1 HA HO HQ HB HP A.blk A.grow A.rd A.obj A.mp AgainH CutH
attribute [local irreducible] mixW kL digL
set_option maxHeartbeats 1000000 in
theorem digest_fn (s : S8) (w : World) : Fn Tryz.prog 208 #[.agg (ws s.l).toArray] w fun v w' => v = .string ⟨(digL s).toArray⟩ ∧ Ext w w' := by
 refine enterH (l := [_]) rfl Tryz.ntmps208 rfl ?_
 refine hwNE ?_
 refine HL.one (H1.boxAgg (cs := ws s.l) rfl rfl (fun b1 => ?_))
 refine hwNE ?_
 refine HL.one (H1.alloc (cs := dgC s 0) (by kernel_rfl) rfl (fun b3 => ?_))
 refine hwNE ?_
 refine HL.one (H1.ldAgg (vs := ws s.l) rfl memA rfl (fun i v h => by rwa [Nat.zero_add]) rfl ?_)
 refine hwNE ?_
 refine HC.loop (α := Nat) (fun i => [(3, .pointer (some ⟨b3, 0, none⟩)), (7, .agg (ws s.l).toArray), (8, zv (i : Int))]) (fun i => [A.blk b3 (dgC s (4 * i)) 298]) (fun i => i ≤ 8) (fun i => 8 - i) 0 (Nat.zero_le _) esA (by repeat (first | exact Hs.nil _ | (refine Hs.cons pickA ?_))) ?_
 rintro i hi
 by_cases hlt : i < 8
 ·have hx := S8.get (s := s) hlt
  refine hwNE ?_
  refine HL.pa ?_ (POp.index_agg (v := w32 (s.l.getD i 0)) rfl rfl rfl hlt hx)
  refine hwNE ?_
  refine HC.loop (α := Nat) (fun k => [(3, .pointer (some ⟨b3, 0, none⟩)), (7, .agg (ws s.l).toArray), (8, zv (i : Int)), (4, zv (i : Int)), (5, w32 (s.l.getD i 0)), (12, zv (k : Int))]) (fun k => [A.blk b3 (dgC s (4 * i + k)) 298]) (fun k => k ≤ 4) (fun k => 4 - k) 0 (Nat.zero_le _) esA (Hs.refl _) ?_
  rintro k hk
  by_cases hlt2 : k < 4
  ·have hset := dgC_set (s := s) hlt hlt2
   refine hwNE ?_
   refine HL.pa ?_ (POp.shr32 (s := 24 - 8 * k) rfl rfl (by omega) (by omega))
   refine hwNE ?_
   rw [show (4 * (i : Int) + (k : Int)).toNat = 4 * i + k from by omega]
   refine HL.one (H1.st (b := b3) rfl rfl (by intro _ h; cases h) (by intro _ h; cases h) rplA (by unfold dgC; rw [row_len]; omega) ?_)
   rw [hset]
   refine hwNE ?_
   exact HX.again (k + 1) hlt2 (by show 4 - (k + 1) < 4 - k; omega) esA (Hs.refl _)
  ·obtain rfl : k = 4 := by omega
   refine hwNE ?_
   exact HX.again (i + 1) hlt (by show 8 - (i + 1) < 8 - i; omega) esA (Hs.refl _)
 ·obtain rfl : i = 8 := by omega
  rw [dgC_32]
  refine hwNE ?_
  refine HL.pa ?_ (POp.arr_all rfl)
  refine hwNE ?_
  refine HL.one (H1.bstrB (ys := digL s) (b := b3) (c := 32) (by rw [digL_len]; rfl) memA rfl ?_)
  refine hwNE ?_
  exact HX.ret1 rfl rfl fun w' hM => ⟨rfl, hM.ext⟩
theorem chunk_fn {n c bp : Nat} (w : World) : Fn Tryz.prog 206 #[.slice (some ⟨bp, 0, none⟩) n c, zv 64] w fun v w' => ∃ q : Nat × Nat, True ∧ v = .func (.func 240) #[] #[.pointer (some ⟨q.1, 0, none⟩), .pointer (some ⟨q.2, 0, none⟩)] ∧
  Mm w [A.blk q.2 [zv 64] 3, A.blk q.1 [.slice (some ⟨bp, 0, none⟩) n c] 104] w' := by
 refine enterH (l := [_, _]) rfl Tryz.ntmps206 rfl ?_
 refine hwNE ?_
 refine HL.one (H1.box rfl rfl rfl (fun b1 => ?_))
 refine hwNE ?_
 refine HL.one (H1.box rfl rfl rfl (fun b2 => ?_))
 refine hwNE ?_
 exact HX.ret1 rfl rfl fun w' hM => ⟨(b1, b2), trivial, rfl, hM⟩
set_option maxHeartbeats 1000000 in
theorem chunk1_fn {w0 : World} {K0 K1 : Atom} {Hq : Nat → List Atom} {b1 b2 bp c l : Nat} (nq : Nat) (hc : 64 * nq ≤ c) (hn : nq ≤ 100000)
  (hy : ∀ q, q < nq → ∀ w, Mm w0 (K0 :: K1 :: A.blk b2 [zv 64] 3 :: A.blk b1 [.slice (some ⟨bp, 0, none⟩) (64 * nq) c] 104 :: Hq q) w →
   Yld Tryz.prog l [.slice (some ⟨bp, 64 * q, none⟩) 64 64] w fun b w' => b = true ∧ ∃ _z : Unit, True ∧
    Mm w0 (K0 :: K1 :: A.blk b2 [zv 64] 3 :: A.blk b1 [.slice (some ⟨bp, 0, none⟩) (64 * nq) c] 104 :: Hq (q + 1)) w') :
  ∀ w, Mm w0 (K0 :: K1 :: A.blk b2 [zv 64] 3 :: A.blk b1 [.slice (some ⟨bp, 0, none⟩) (64 * nq) c] 104 :: Hq 0) w →
   Fn Tryz.prog 240 (.func (.yield l) #[] #[] :: [.pointer (some ⟨b1, 0, none⟩), .pointer (some ⟨b2, 0, none⟩)]).toArray w fun _ w' => ∃ _z : Unit, True ∧ Mm w0 (K0 :: K1 :: Hq nq) w' := by
 intro w hM
 refine enterK (l := [_, _, _]) hM rfl Tryz.ntmps240 rfl ?_
 refine hwNE ?_
 refine HC.loop (α := Nat) (fun q => [(0, .func (.yield l) #[] #[]), (1, .pointer (some ⟨b1, 0, none⟩)), (2, .pointer (some ⟨b2, 0, none⟩)), (4, zv ((64 * q : Nat) : Int))]) (fun q => K0 :: K1 :: A.blk b2 [zv 64] 3 :: A.blk b1 [.slice (some ⟨bp, 0, none⟩) (64 * nq) c] 104 :: Hq q)
  (fun q => q ≤ nq) (fun q => nq - q) 0 (Nat.zero_le _) esA (Hs.refl _) ?_
 rintro q hq
 by_cases hlt : q < nq
 ·have hlt' : ((64 * q : Nat) : Int) < ((64 * nq : Nat) : Int) := by omega
  have hmin : min (64 : Int) (((64 * nq - ((64 * q : Nat) : Int).toNat : Nat)) : Int) = 64 := by omega
  refine hwNE ?_
  refine HC.quietS [(some 13, [2], []), (some 14, [1], []), (some 15, [4], []), (some 16, [14, 15], [1, 2]), (some 17, [16], [3]), (some 18, [13, 17], [0, 4]), (some 5, [18], [5, 0, 1, 2, 3, 4, 5])] (by kernel_rfl) (by kernel_rfl) (by kernel_rfl) ?_
  refine qwA ?_
  refine HQ.pa ?_ (POp.cut_l rfl rfl (by omega) (by omega) (by omega))
  refine qwA ?_
  rw [hmin]
  refine HQ.nil ?_
  refine hwNE ?_
  refine HL.pa ?_ (POp.cut3 (lo := 64 * q) (hi := 64 * q + 64) (mx := 64 * q + 64) rfl rfl rfl rfl rfl (by omega) (by omega) (by omega) (by omega) (by omega) (by omega))
  rw [show 64 * q + 64 - 64 * q = 64 from by omega, Nat.zero_add, Nat.mul_one]
  refine HL.one (H1.yield (vs := [.slice (some ⟨bp, 64 * q, none⟩) 64 64]) rfl rfl rfl (hy q hlt) ?_)
  rintro - -
  refine hwNE ?_
  exact HX.again (q + 1) hlt (by show nq - (q + 1) < nq - q; omega) (by refine ⟨rfl, rfl, rfl, ?_, trivial⟩; show some (zv _) = some (zv _); congr 2) (Hs.refl _)
 ·obtain rfl : q = nq := by omega
  refine hwNE ?_
  exact HX.end0 rfl fun w' hM => ⟨(), trivial, hM.sub (Hs.cons Pick.here (Hs.cons Pick.here (Hs.refl _).skip.skip))⟩
end Go.Sx
/- Chapter 2: Sum and Chain: the walks. -/
namespace Go.Sx
open Go Go.Proofs Go.RowKit
theorem ub_app1 (ys : List UInt8) (b : UInt8) : ub ys ++ [b8 b] = ub (ys ++ [b]) := by simp [ub]
theorem ub_len (ys : List UInt8) : (ub ys).length = ys.length := by simp [ub]
theorem ub_mid (ys : List UInt8) (i : Nat) : ((ub ys).drop i).take 64 = ub ((ys.drop i).take 64) := by simp [ub, List.map_drop, List.map_take]
theorem rep_snoc (L : List UInt8) (j : Nat) : L ++ List.replicate j 0 ++ [(0 : UInt8)] = L ++ List.replicate (j + 1) 0 := by
 rw [List.append_assoc, List.replicate_succ']
theorem rng_snoc (L : List UInt8) (n j : Nat) : L ++ (List.range j).map (shaT n) ++ [shaT n j] = L ++ (List.range (j + 1)).map (shaT n) := by
 rw [List.append_assoc, List.range_succ, List.map_append]; rfl
attribute [local irreducible] WC WL WX POp Then Again Fn NX W1 WA WO QL RP RA Yld LoopAt HC HL HX HN H1 HA HO HQ HB HP A.blk A.grow A.rd A.obj A.mp AgainH CutH
attribute [local irreducible] A.gb kL digL shaI shaT
set_option maxHeartbeats 2000000 in
theorem sum_fn (s : ByteArray) (hs : s.size ≤ 900000) (w : World) (hG : RoundG w) : Fn Tryz.prog 145 #[.string s] w fun v w' => v = .string (sumS s) ∧ Ext w w' := by
 have hlen : s.data.toList.length = s.size := by rw [Array.length_toList]; rfl
 obtain ⟨n, hn⟩ : ∃ n, n = s.size := ⟨_, rfl⟩
 have hz : shaZ n < 64 := by unfold shaZ; omega
 have hP : shaP s.data.toList = s.data.toList ++ [128] ++ List.replicate (shaZ n) 0 ++ (List.range 8).map (shaT n) := by unfold shaP; rw [hlen, hn]
 have hPl := shaP_len s.data.toList
 have hPm := shaP_mod s.data.toList
 rw [hlen, ← hn] at hPl
 refine enterMH (l := [_]) rfl Tryz.ntmps145 rfl ?_
 refine hwNE ?_
 refine HL.build (cs := ws shaI.l) rfl (by kernel_rfl) rfl ?_
 refine hwNE ?_
 refine HL.one (H1.alloc (cs := List.replicate 8 (.int .u32 0)) (by kernel_rfl) rfl (fun b3 => ?_))
 refine hwNE ?_
 refine HL.one (H1.stAgg (cs := List.replicate 8 (.int .u32 0)) rfl rfl rfl ws_one rplA rfl ?_)
 refine hwNE ?_
 refine HL.one (H1.sgb (e := 5) rfl rfl (fun bp0 c0 => ?_))
 rw [← hn]
 refine hwNE ?_
 refine HL.one (H1.lit (cs := [b8 128]) rfl rfl rfl rfl rfl rfl (fun b9 => ?_))
 refine hwNE ?_
 refine HL.one (H1.appG1 (u := b8 128) rfl rfl (fun _ _ => by first | ((repeat (first | with_reducible exact Rpl.here | with_reducible apply Rpl.there)); done) | (repeat (first | exact Rpl.here | apply Rpl.there))) memA rfl rfl (by omega) rfl rfl (fun bp1 c1 => ?_))
 rw [ub_app1]
 refine hwNE ?_
 refine HC.loop (α := Nat × Nat × Nat) (fun z => [(0, .string s), (3, .pointer (some ⟨b3, 0, none⟩)), (4, .slice (some ⟨z.2.1, 0, none⟩) (n + 1 + z.1) z.2.2)])
  (fun z => [A.blk b3 (ws shaI.l) 264, A.gb 5 z.2.1 z.2.2 (n + 1 + z.1) (ub (s.data.toList ++ [128] ++ List.replicate z.1 0))]) (fun z => z.1 ≤ shaZ n) (fun z => shaZ n - z.1) (0, bp1, c1) (Nat.zero_le _) esA
  (by show Hs _ [_, A.gb _ bp1 c1 (n + 1) (ub (s.data.toList ++ [128] ++ []))]; rw [List.append_nil]; exact Hs.cons (Pick.there (Pick.there Pick.here)) (Hs.cons (Pick.there Pick.here) (Hs.nil _))) ?_
 rintro ⟨j, bp, c⟩ hj
 dsimp only at hj ⊢
 by_cases hlt : j < shaZ n
 ·have hne : ¬ (((n + 1 + j : Nat) : Int) % 64 = 56) := by unfold shaZ at hlt; omega
  refine hwNE ?_
  refine HL.one (H1.lit (cs := [b8 0]) rfl rfl rfl rfl rfl rfl (fun b9 => ?_))
  refine hwNE ?_
  refine HL.one (H1.appG1 (u := b8 0) rfl rfl (fun _ _ => by first | ((repeat (first | with_reducible exact Rpl.here | with_reducible apply Rpl.there)); done) | (repeat (first | exact Rpl.here | apply Rpl.there))) memA rfl rfl (by omega) rfl rfl (fun bp2 c2 => ?_))
  rw [ub_app1, rep_snoc]
  refine hwNE ?_
  exact HX.again (j + 1, bp2, c2) hlt (by show shaZ n - (j + 1) < shaZ n - j; omega) esA (Hs.cons (Pick.there Pick.here) (Hs.cons (Pick.there Pick.here) (Hs.nil _)))
 ·obtain rfl : j = shaZ n := by omega
  have hne : ((n + 1 + shaZ n : Nat) : Int) % 64 = 56 := by unfold shaZ; omega
  refine hwNE ?_
  refine HC.loop (α := Nat × Nat × Nat) (fun z => [(0, .string s), (3, .pointer (some ⟨b3, 0, none⟩)), (4, .slice (some ⟨z.2.1, 0, none⟩) (n + 1 + shaZ n + z.1) z.2.2), (5, zv (7 - (z.1 : Int)))])
   (fun z => [A.blk b3 (ws shaI.l) 264, A.gb 5 z.2.1 z.2.2 (n + 1 + shaZ n + z.1) (ub (s.data.toList ++ [128] ++ List.replicate (shaZ n) 0 ++ (List.range z.1).map (shaT n)))]) (fun z => z.1 ≤ 8) (fun z => 8 - z.1) (0, bp, c) (Nat.zero_le _) esA
   (by show Hs _ [_, A.gb _ bp c (n + 1 + shaZ n) (ub (s.data.toList ++ [128] ++ List.replicate (shaZ n) 0 ++ []))]; rw [List.append_nil]; exact Hs.refl _) ?_
  rintro ⟨k, bp2, c2⟩ hk
  dsimp only at hk ⊢
  by_cases hlt2 : k < 8
  ·have hge : (0 : Int) ≤ 7 - (k : Int) := by omega
   refine hwNE ?_
   rw [← hn]
   refine hwNE ?_
   refine HL.pa ?_ (POp.shr (a := 8 * n) (b := 8 * (7 - k)) rfl rfl (by omega) (by omega) (by omega))
   refine hwNE ?_
   refine HL.one (H1.lit (cs := [b8 (shaT n k)]) rfl rfl (by unfold shaT; rfl) rfl rfl rfl (fun b9 => ?_))
   refine hwNE ?_
   refine HL.one (H1.appG1 (u := b8 (shaT n k)) rfl rfl (fun _ _ => by first | ((repeat (first | with_reducible exact Rpl.here | with_reducible apply Rpl.there)); done) | (repeat (first | exact Rpl.here | apply Rpl.there))) memA rfl rfl (by omega) rfl rfl (fun bp3 c3 => ?_))
   rw [ub_app1, rng_snoc]
   refine hwNE ?_
   refine HX.again (k + 1, bp3, c3) hlt2 (by show 8 - (k + 1) < 8 - k; omega) ⟨rfl, rfl, rfl, ?_, trivial⟩ (Hs.cons (Pick.there Pick.here) (Hs.cons (Pick.there Pick.here) (Hs.nil _)))
   show some (zv _) = some (zv _)
   congr 2
   show (7 - (k : Int)) - 1 = 7 - ((k + 1 : Nat) : Int)
   omega
  ·obtain rfl : k = 8 := by omega
   have hge : ¬ ((0 : Int) ≤ 7 - ((8 : Nat) : Int)) := by omega
   obtain ⟨nq, hq⟩ : ∃ nq, 64 * nq = n + 1 + shaZ n + 8 := ⟨(n + 1 + shaZ n + 8) / 64, by omega⟩
   have hnq : nq = (shaP s.data.toList).length / 64 := by rw [hPl]; omega
   rw [← hP, ← hq]
   have hsum : sumS s = ⟨(digL (sums (shaP s.data.toList) nq)).toArray⟩ := by unfold sumS sumL; rw [hnq]
   rw [hsum]
   rw [← hq] at hPl
   generalize shaP s.data.toList = Pd at hPl
   refine hwNE ?_
   refine HL.one (H1.callz (vs := [_, zv 64]) rfl rfl (fun w' _ => chunk_fn (n := 64 * nq) (c := c2) (bp := bp2) w') ?_)
   rintro ⟨q1, q2⟩ -
   dsimp only
   refine hwNE ?_
   refine HC.sub [(3, .pointer (some ⟨b3, 0, none⟩)), (34, .func (.func 240) #[] #[.pointer (some ⟨q1, 0, none⟩), .pointer (some ⟨q2, 0, none⟩)])]
    (A.blk q2 [zv 64] 3 :: A.blk q1 [.slice (some ⟨bp2, 0, none⟩) (64 * nq) c2] 104 :: [A.blk b3 (ws (sums Pd 0).l) 264, A.gb 5 bp2 c2 (64 * nq) (ub Pd)]) ?_ esA (by repeat (first | exact Hs.nil _ | (refine Hs.cons pickA ?_)))
   refine HC.rangeFunc (α := Unit) (lb := [.pointer (some ⟨q1, 0, none⟩), .pointer (some ⟨q2, 0, none⟩)]) (fun _ => [A.blk b3 (ws (sums Pd nq).l) 264, A.gb 5 bp2 c2 (64 * nq) (ub Pd)]) (fun _ => True) rfl ?_ ?_
   ·intro D l L hL w1 hM1
    have hc2 : 64 * nq ≤ c2 := by
     obtain ⟨_, _, _, _, h, _⟩ := hM1.gb (e := 5) (b := bp2) (c := c2) (n := 64 * nq) (xs := ub Pd) memA
     exact h
    refine chunk1_fn (Hq := fun q => [A.blk b3 (ws (sums Pd q).l) 264, A.gb 5 bp2 c2 (64 * nq) (ub Pd)]) nq hc2 (by omega) ?_ w1 hM1
    intro q hqlt
    refine Yld.ofH hL memA rfl rfl ?_
    dsimp only [List.zip_cons_cons, List.zip_nil_right, putAll]
    refine hwNE ?_
    refine HX.ra hL rplA ?_
    refine hwNE ?_
    have hl64 : ((Pd.drop (64 * q)).take 64).length = 64 := by rw [List.length_take, List.length_drop]; omega
    refine HL.one (H1.callk (α := Unit) (V := fun _ => .tuple #[]) (I := fun _ => True)
     (H' := fun _ => A.blk b3 (ws (sums Pd (q + 1)).l) 264 :: [L .busy none, A.dfr D, A.blk q2 [zv 64] 3, A.blk q1 [.slice (some ⟨bp2, 0, none⟩) (64 * nq) c2] 104, A.gb 5 bp2 c2 (64 * nq) (ub Pd)])
     (vs := [.pointer (some ⟨b3, 0, none⟩), .slice (some ⟨bp2, 64 * q, none⟩) 64 64]) rfl rfl (fun w' hM => ?_) ?_)
    ·refine (add_fn (H := [L .busy none, A.dfr D, A.blk q2 [zv 64] 3, A.blk q1 [.slice (some ⟨bp2, 0, none⟩) (64 * nq) c2] 104, A.gb 5 bp2 c2 (64 * nq) (ub Pd)]) (sums Pd q) ((Pd.drop (64 * q)).take 64) hl64 hG
      (hM.sub (Hs.cons (Pick.there (Pick.there (Pick.there (Pick.there Pick.here)))) (Hs.refl _))) (fun w2 hM2 => ?_)).mono fun v w2 h => ⟨(), trivial, h⟩
     have := gb_rd hM2 (e := 5) (b := bp2) (c := c2) (n := 64 * nq) (xs := ub Pd) (off := 64 * q) (m := 64) (c2 := 64) memA (by omega) (Nat.le_refl _)
     rwa [ub_mid] at this
    rintro - -
    refine hwNE ?_
    refine HX.rp_n hL rplA fun w' hM => ⟨rfl, (), trivial, ?_⟩
    exact hM.sub (Hs.cons (Pick.there Pick.here) (Hs.cons (Pick.there Pick.here) (Hs.cons (Pick.there Pick.here) (Hs.cons (Pick.there Pick.here) (Hs.refl _)))))
   ·rintro D - -
    refine hwNE ?_
    refine HL.one (H1.ldAgg (vs := ws (sums Pd nq).l) rfl memA rfl (fun i v h => by rwa [Nat.zero_add]) rfl ?_)
    refine hwNE ?_
    refine HL.one (H1.callx (vs := [_]) rfl rfl (fun w' _ => digest_fn (sums Pd nq) w') ?_)
    refine hwNE ?_
    exact HX.retM1 rfl rfl Pick.here fun w' hM => ⟨rfl, hM.ext⟩
end Go.Sx
/- Chapter 2: marked digests; Chain: the walks. -/
namespace Go.Sx
open Go Go.Proofs Go.RowKit
theorem joinB_fn (c b off : Nat) (l : List ByteArray) (w : World) (hR : Rd w (.slice (some ⟨b, off, none⟩) l.length c) (strs l)) (hb : b < w.heap.size) (hl : l.length ≤ 100) (hc : l.length ≤ c) (hs : (catS l).size ≤ 1000000) :
  Fn Tryz.prog 239 #[.slice (some ⟨b, off, none⟩) l.length c, .string (ByteArray.mk #[])] w fun v w' => v = .string (catS l) ∧ Ext w w' := by
 have hlen : (Lib.join (l.map (·.data.toList)) (ByteArray.mk #[]).data.toList).length = (catS l).size := by
  rw [← join_empty l]; rfl
 have := Tryz.strings_Join b off c l (ByteArray.mk #[]) w (fun j x hx => hR.cell (by simp [strs, hx])) hb (by omega) hc (by omega)
 refine Calls.mono this ?_
 rintro e w' ⟨rfl, h2⟩
 exact ⟨_, rfl, by rw [join_empty], h2⟩
def mkB (m : UInt8) : ByteArray := ByteArray.mk #[m]
def markS (m : UInt8) (l : List ByteArray) : ByteArray := sumS (mkB m ++ catS l)
def chainS (h r : ByteArray) : ByteArray := markS 2 [h, r]
theorem markS_size (m : UInt8) (l : List ByteArray) : (markS m l).size = 32 := sumS_size _
theorem chainS_size (h r : ByteArray) : (chainS h r).size = 32 := sumS_size _
theorem catS_2 (a b : ByteArray) : (catS [a, b]).size = a.size + b.size := by
 show ((a.data.toList ++ (b.data.toList ++ []) : List UInt8).toArray).size = _
 rw [List.size_toArray, List.append_nil, List.length_append, Array.length_toList, Array.length_toList]; rfl
theorem catS_1 (a : ByteArray) : (catS [a]).size = a.size := by
 show ((a.data.toList ++ [] : List UInt8).toArray).size = _
 rw [List.size_toArray, List.append_nil, Array.length_toList]; rfl
theorem mkB_size (m : UInt8) (s : ByteArray) : (mkB m ++ s).size = 1 + s.size := by
 rw [ByteArray.size_append]; rfl
attribute [local irreducible] WC WL WX POp Then Again Fn NX W1 WA WO QL RP RA Yld LoopAt HC HL HX HN H1 HA HO HQ HB HP A.blk A.grow A.rd A.obj A.mp AgainH CutH
attribute [local irreducible] sumS
theorem marked_fn (m : ByteArray) (w : World) : Fn Tryz.prog 205 #[.string m] w fun v w' => ∃ b : Nat, True ∧ v = .func (.func 238) #[] #[.pointer (some ⟨b, 0, none⟩)] ∧ Mm w [A.blk b [.string m] 9] w' := by
 refine enterH (l := [_]) rfl Tryz.ntmps205 rfl ?_
 refine hwNE ?_
 refine HL.one (H1.box rfl rfl rfl (fun b1 => ?_))
 refine hwNE ?_
 exact HX.ret1 rfl rfl fun w' hM => ⟨b1, trivial, rfl, hM⟩
theorem marked1_fn {b1 b2 : Nat} (m : UInt8) (l : List ByteArray) (w : World) (hG : RoundG w) (h1 : w.cell? ⟨b1, 0, none⟩ = some (.string (mkB m))) (h2 : Rd w (.slice (some ⟨b2, 0, none⟩) l.length l.length) (strs l)) (hb : b2 < w.heap.size) (hl : l.length ≤ 100) (hs : (catS l).size ≤ 800000) :
  Fn Tryz.prog 238 #[.slice (some ⟨b2, 0, none⟩) l.length l.length, .pointer (some ⟨b1, 0, none⟩)] w fun v w' => v = .string (markS m l) ∧ Ext w w' := by
 have hsz := mkB_size m (catS l)
 have hm1 : (mkB m).size = 1 := rfl
 refine enterH (l := [_, _]) rfl Tryz.ntmps238 rfl ?_
 refine hwNE ?_
 refine HC.quietS [(some 4, [1], []), (some 5, [0], []), (some 6, [5], [1]), (some 7, [4, 6], [0, 2]), (some 8, [7], [3, 2]), (some 3, [8], [4, 4, 0, 1, 2, 3, 4])] (by kernel_rfl) (by kernel_rfl) (by kernel_rfl) ?_
 refine HQ.ld rfl (fun w' hM => cell_ext hM.ext h1) rfl ?_
 refine qwA ?_
 refine HQ.call (vs := [.slice (some ⟨b2, 0, none⟩) l.length l.length, .string (ByteArray.mk #[])]) rfl rfl (fun w' hM => joinB_fn _ _ _ l w' (h2.ext hM.ext) (Nat.lt_of_lt_of_le hb hM.ext.size) hl (Nat.le_refl _) (by omega)) ?_
 refine qwA ?_
 refine HQ.call (vs := [_]) rfl rfl (fun w' hM => sum_fn (mkB m ++ catS l) (by omega) w' (hG.ext hM.ext)) ?_
 refine qwA ?_
 refine HQ.nil ?_
 refine hwNE ?_
 exact HX.ret1 rfl rfl fun w' hM => ⟨rfl, hM.ext⟩
end Go.Sx
/- Plain, chapters 1 and 26: numbers and strings that are read back; a journal's content. -/
namespace Go.Sx
open Go
def unz (z : Nat) : Int := if z % 2 = 0 then ((z / 2 : Nat) : Int) else -((z / 2 : Nat) : Int) - 1
def decG (s : List UInt8) (p i z : Nat) : Option (Nat × Nat) :=
 if h : i < 9 then
  if p + i < s.length then
   if 128 ≤ (s.getD (p + i) 0).toNat then decG s p (i + 1) (z + (s.getD (p + i) 0).toNat % 128 * 2 ^ (7 * i))
   else if ((s.getD (p + i) 0).toNat = 0 ∧ 0 < i) ∨ unz (z + (s.getD (p + i) 0).toNat % 128 * 2 ^ (7 * i)) < -4611686018427387903 then none
   else some (z + (s.getD (p + i) 0).toNat % 128 * 2 ^ (7 * i), p + i + 1)
  else none
 else none
termination_by 9 - i
theorem decG_9 (s : List UInt8) (p z : Nat) : decG s p 9 z = none := by rw [decG, dif_neg (by decide)]
theorem decG_end {s : List UInt8} {p i z : Nat} (h : ¬ p + i < s.length) : decG s p i z = none := by
 rw [decG]
 by_cases hi : i < 9
 ·rw [dif_pos hi, if_neg h]
 ·rw [dif_neg hi]
theorem decG_on {s : List UInt8} {p i z : Nat} (hi : i < 9) (h : p + i < s.length) (hb : 128 ≤ (s.getD (p + i) 0).toNat) : decG s p i z = decG s p (i + 1) (z + (s.getD (p + i) 0).toNat % 128 * 2 ^ (7 * i)) := by
 rw [decG, dif_pos hi, if_pos h, if_pos hb]
theorem decG_no {s : List UInt8} {p i z : Nat} (hi : i < 9) (h : p + i < s.length) (hb : ¬ 128 ≤ (s.getD (p + i) 0).toNat)
  (hn : ((s.getD (p + i) 0).toNat = 0 ∧ 0 < i) ∨ unz (z + (s.getD (p + i) 0).toNat % 128 * 2 ^ (7 * i)) < -4611686018427387903) : decG s p i z = none := by
 rw [decG, dif_pos hi, if_pos h, if_neg hb, if_pos hn]
theorem decG_yes {s : List UInt8} {p i z : Nat} (hi : i < 9) (h : p + i < s.length) (hb : ¬ 128 ≤ (s.getD (p + i) 0).toNat)
  (hn : ¬ (((s.getD (p + i) 0).toNat = 0 ∧ 0 < i) ∨ unz (z + (s.getD (p + i) 0).toNat % 128 * 2 ^ (7 * i)) < -4611686018427387903)) : decG s p i z = some (z + (s.getD (p + i) 0).toNat % 128 * 2 ^ (7 * i), p + i + 1) := by
 rw [decG, dif_pos hi, if_pos h, if_neg hb, if_neg hn]
theorem decG_le {s : List UInt8} {p : Nat} : ∀ (k i z : Nat), 9 - i ≤ k → ∀ {x : Nat × Nat}, decG s p i z = some x → p < x.2 ∧ x.2 ≤ s.length
 | 0, i, z, hk, x, h => by
  rw [decG, dif_neg (by omega)] at h; cases h
 | k + 1, i, z, hk, x, h => by
  rw [decG] at h
  split at h
  ·split at h
   ·split at h
    ·exact decG_le k (i + 1) _ (by omega) h
    ·split at h
     ·cases h
     ·simp only [Option.some.injEq] at h
      subst h
      exact ⟨by show p < p + i + 1; omega, by show p + i + 1 ≤ _; omega⟩
   ·cases h
  ·cases h
def decI (s : List UInt8) (p : Nat) : Option (Nat × Nat) := decG s p 0 0
def decS (s : List UInt8) (p : Nat) : Option (List UInt8 × Nat) :=
 match decI s p with
 | none => none
 | some (z, q) => if unz z < 0 ∨ unz z > 65536 ∨ unz z > ((s.length : Nat) : Int) - (q : Int) then none else some ((s.drop q).take (unz z).toNat, q + (unz z).toNat)
structure Tp where
 recs : List ByteArray
 head : ByteArray
 size : Nat
def outL (h r : ByteArray) : List UInt8 := 1 :: (putN r.size ++ r.data.toList ++ (chainS h r).data.toList)
def outB (h r : ByteArray) : ByteArray := ⟨(outL h r).toArray⟩
def Tp.add (t : Tp) (r : ByteArray) : Tp := ⟨t.recs ++ [r], chainS t.head r, t.size + (outL t.head r).length⟩
def mkBA (l : List UInt8) : ByteArray := ⟨l.toArray⟩
theorem outL_pos (h r : ByteArray) : 0 < (outL h r).length := by unfold outL; rw [List.length_cons]; omega
def loadF (s : List UInt8) (t : Tp) : Option Tp :=
 if _h : t.size < s.length ∧ s.getD t.size 0 ≠ 0 then
  if s.getD t.size 0 = 1 then
   match decS s (t.size + 1) with
   | none => none
   | some (r, q) => if q + 32 ≤ s.length ∧ outL t.head (mkBA r) = (s.drop t.size).take (q + 32 - t.size) then loadF s (t.add (mkBA r)) else none
  else none
 else some t
termination_by s.length - t.size
decreasing_by
 have := outL_pos t.head (mkBA r)
 show s.length - (t.size + (outL t.head (mkBA r)).length) < _
 omega
theorem loadF_step {s : List UInt8} {t : Tp} {r : List UInt8} {q : Nat} (h : t.size < s.length ∧ s.getD t.size 0 ≠ 0) (h1 : s.getD t.size 0 = 1) (hd : decS s (t.size + 1) = some (r, q))
  (hn : q + 32 ≤ s.length ∧ outL t.head (mkBA r) = (s.drop t.size).take (q + 32 - t.size)) : loadF s t = loadF s (t.add (mkBA r)) := by
 rw [loadF, dif_pos h, if_pos h1, hd]
 simp only
 rw [if_pos hn]
end Go.Sx
/- Plain, chapters 1 and 26: what was stored is read back. -/
namespace Go.Sx
open Go
theorem getD_drop {s r : List UInt8} {p : Nat} {b : UInt8} (h : s.drop p = b :: r) : p < s.length ∧ s.getD p 0 = b ∧ s.drop (p + 1) = r := by
 have h1 : p < s.length := by
  rcases Nat.lt_or_ge p s.length with h2 | h2
  ·exact h2
  ·rw [List.drop_of_length_le h2] at h; cases h
 rw [List.drop_eq_getElem_cons h1] at h
 injection h with h2 h3
 refine ⟨h1, ?_, h3⟩
 rw [List.getD_eq_getElem?_getD, List.getElem?_eq_getElem h1]
 exact h2
theorem drop_app {s a r : List UInt8} {p : Nat} (h : s.drop p = a ++ r) : s.drop (p + a.length) = r := by
 rw [← List.drop_drop, h, List.drop_left]
theorem drop_len {s a r : List UInt8} {p : Nat} (h : s.drop p = a ++ r) (ha : 0 < a.length) : s.length = p + a.length + r.length := by
 have := congrArg List.length h
 rw [List.length_drop, List.length_append] at this
 omega
theorem u8_nat {a : Nat} (h : a < 256) : (UInt8.ofNat a).toNat = a := by simp; omega
theorem decG_vint : ∀ (n v i z : Nat), v < 128 ^ (n + 1) → i + n < 9 → (0 < i → 0 < v) → ∀ {s rest : List UInt8} {p : Nat}, s.drop (p + i) = vint v ++ rest → 0 ≤ unz (z + v * 2 ^ (7 * i)) →
  decG s p i z = some (z + v * 2 ^ (7 * i), p + i + (vint v).length)
 | n, v, i, z, hv, hi, h0, s, rest, p, hs, hu => by
  by_cases h : v < 128
  ·rw [vint_lt h] at hs ⊢
   obtain ⟨h1, h2, h3⟩ := getD_drop hs
   have h4 := u8_nat (show v < 256 by omega)
   have e : (s.getD (p + i) 0).toNat = v := by rw [h2, h4]
   have hmod : v % 128 = v := Nat.mod_eq_of_lt h
   rw [decG_yes (by omega) h1 (by omega) (by rw [e, hmod]; omega), e, hmod]; rfl
  ·match n, hv, hi with
   | 0, hv, hi => omega
   | n + 1, hv, hi =>
    rw [vint_ge h] at hs ⊢
    obtain ⟨h1, h2, h3⟩ := getD_drop hs
    have h4 := u8_nat (show v % 128 + 128 < 256 by omega)
    have e : (s.getD (p + i) 0).toNat = v % 128 + 128 := by rw [h2, h4]
    have hmod : (v % 128 + 128) % 128 = v % 128 := by omega
    have hz : z + v % 128 * 2 ^ (7 * i) + v / 128 * 2 ^ (7 * (i + 1)) = z + v * 2 ^ (7 * i) := by
     have e2 : 2 ^ (7 * (i + 1)) = 128 * 2 ^ (7 * i) := by rw [Nat.mul_add, Nat.pow_add, Nat.mul_comm]
     rw [e2, Nat.add_assoc, ← Nat.mul_assoc, ← Nat.add_mul]
     congr 2
     omega
    rw [decG_on (by omega) h1 (by omega), e, hmod, decG_vint n (v / 128) (i + 1) _ (by rw [Nat.pow_succ] at hv; omega) (by omega) (by omega) h3 (by rw [hz]; exact hu), hz, List.length_cons]
    congr 2; omega
theorem unz_even (n : Nat) : unz (2 * n) = (n : Int) := by
 unfold unz
 rw [if_pos (by omega)]
 omega
theorem decI_putN {n : Nat} (hn : n ≤ 1099511627776) {s rest : List UInt8} {p : Nat} (h : s.drop p = putN n ++ rest) : decI s p = some (2 * n, p + (putN n).length) := by
 have := decG_vint 8 (2 * n) 0 0 (by omega) (by omega) (fun h => by omega) (s := s) (rest := rest) (p := p) h (by rw [Nat.mul_zero, Nat.pow_zero, Nat.mul_one, Nat.zero_add, unz_even]; omega)
 unfold decI
 rw [this, Nat.mul_zero, Nat.pow_zero, Nat.mul_one, Nat.zero_add]; rfl
theorem decS_putN {r : List UInt8} (hr : r.length ≤ 65536) {s rest : List UInt8} {p : Nat} (h : s.drop p = putN r.length ++ r ++ rest) : decS s p = some (r, p + (putN r.length).length + r.length) := by
 rw [List.append_assoc] at h
 have hd := decI_putN (by omega) h
 have h2 := drop_app h
 have hl := congrArg List.length h2
 rw [List.length_drop, List.length_append] at hl
 have hp : 0 < (putN r.length).length := by
  unfold putN; unfold vint; split <;> simp
 have hq := drop_len h hp
 rw [List.length_append] at hq
 unfold decS
 rw [hd]
 simp only [unz_even]
 rw [if_neg (by omega), h2, Int.toNat_natCast]
 simp
def outsL (h : ByteArray) : List ByteArray → List UInt8
 | [] => []
 | r :: l => outL h r ++ outsL (chainS h r) l
def adds (t : Tp) (l : List ByteArray) : Tp := l.foldl Tp.add t
theorem adds_nil (t : Tp) : adds t [] = t := rfl
theorem adds_cons (t : Tp) (r : ByteArray) (l : List ByteArray) : adds t (r :: l) = adds (t.add r) l := rfl
theorem loadF_add {s rest : List UInt8} {t : Tp} {r : ByteArray} (hr : r.size ≤ 65536) (h : s.drop t.size = outL t.head r ++ rest) : loadF s t = loadF s (t.add r) := by
 have hrl : r.data.toList.length = r.size := by rw [Array.length_toList]; rfl
 have hcl : (chainS t.head r).data.toList.length = 32 := by rw [Array.length_toList]; exact chainS_size t.head r
 have hout : outL t.head r = 1 :: (putN r.size ++ r.data.toList ++ (chainS t.head r).data.toList) := rfl
 have hmk : mkBA r.data.toList = r := by cases r; rfl
 rw [hout, List.cons_append] at h
 obtain ⟨h1, h2, h3⟩ := getD_drop h
 have h3' : s.drop (t.size + 1) = putN r.data.toList.length ++ r.data.toList ++ ((chainS t.head r).data.toList ++ rest) := by rw [h3, hrl]; simp
 have hd := decS_putN (by omega) h3'
 have hpr : (putN r.data.toList.length).length = (putN r.size).length := by rw [hrl]
 have hlen := congrArg List.length h3
 simp only [List.length_drop, List.length_append] at hlen
 have hol : (outL t.head r).length = 1 + (putN r.size).length + r.size + 32 := by rw [hout]; simp only [List.length_cons, List.length_append]; omega
 have hstep := loadF_step (t := t) ⟨h1, by rw [h2]; decide⟩ h2 hd ⟨by omega, ?_⟩
 ·rw [hmk] at hstep; exact hstep
 ·rw [hmk, h, ← List.cons_append, ← hout, show t.size + 1 + (putN r.data.toList.length).length + r.data.toList.length + 32 - t.size = (outL t.head r).length from by rw [hol, hrl]; omega, List.take_left]
def isZero (l : List UInt8) : Bool := l.all (· == 0)
end Go.Sx
/- Chapter 1: numbers and strings that are read back: the walks. -/
namespace Go.Sx
open Go Go.Proofs Go.RowKit
theorem bits_and_u8 (a b : Nat) (ha : a < 256) (hb : b < 256) : bits .and .u8 (a : Int) (b : Int) = ((a &&& b : Nat) : Int) := by
 show IntKind.u8.wrap (((BitVec.ofInt 8 a &&& BitVec.ofInt 8 b).toNat : Nat) : Int) = _
 have h1 : (BitVec.ofInt 8 (a : Int)).toNat = a := by simp; omega
 have h2 : (BitVec.ofInt 8 (b : Int)).toNat = b := by simp; omega
 have h3 : a &&& b < 256 := Nat.lt_of_le_of_lt Nat.and_le_left ha
 rw [BitVec.toNat_and, h1, h2]
 exact wrap_u8 (by omega) (by omega)
theorem POp.and8 {P : Program} {N : Nat} {ds : List Deferred} {E : Env} {t t' ty : TypeId} {x y : Operand} {m n : Int} {a b : Nat} (hx : Env.ev E x = some (.int .u8 m)) (hy : Env.ev E y = some (.int .u8 n)) (em : m = (a : Int)) (en : n = (b : Int)) (h1 : a < 256) (h2 : b < 256) :
  POp P N ds E (.binOp .and t x y t') ty (.int .u8 ((a &&& b : Nat) : Int)) := POp.bin hx hy guard_int fun w => by
 subst em; subst en
 rw [binOp_and, intBits_and, bits_and_u8 a b h1 h2]; rfl
theorem bits_zz {a : Nat} (ha : a < 9223372036854775808) : bits .xor .i64 (a : Int) (-1) = -(a : Int) - 1 := by
 show IntKind.i64.wrap (((BitVec.ofInt 64 a ^^^ BitVec.ofInt 64 (-1)).toNat : Nat) : Int) = _
 rw [show BitVec.ofInt 64 (-1) = BitVec.allOnes 64 from by decide, BitVec.xor_allOnes]
 have h1 : (BitVec.ofInt 64 (a : Int)).toNat = a := ofInt_toNat a (by omega)
 rw [BitVec.toNat_not, h1]
 simp [IntKind.wrap, IntKind.bits, IntKind.signed]
 omega
theorem POp.zz {P : Program} {N : Nat} {ds : List Deferred} {E : Env} {t t' ty : TypeId} {x y : Operand} {z : Nat} (hx : Env.ev E x = some (zv ((z / 2 : Nat) : Int))) (hy : Env.ev E y = some (zv (-((z % 2 : Nat) : Int)))) (hz : z < 18446744073709551616) :
  POp P N ds E (.binOp .xor t x y t') ty (zv (unz z)) := POp.bin hx hy guard_int fun w => by
 unfold unz
 by_cases h : z % 2 = 0
 ·rw [if_pos h, h]
  have e : bits .xor .i64 ((z / 2 : Nat) : Int) (-((0 : Nat) : Int)) = ((z / 2 : Nat) : Int) := by
   have := bits_xor_nat (z / 2) 0 (by omega) (by omega)
   rw [Nat.xor_zero] at this
   exact this
  rw [binOp_xor, intBits_xor, e]; rfl
 ·have h1 : z % 2 = 1 := by omega
  rw [if_neg h, h1]
  have e : bits .xor .i64 ((z / 2 : Nat) : Int) (-((1 : Nat) : Int)) = -((z / 2 : Nat) : Int) - 1 := bits_zz (by omega)
  rw [binOp_xor, intBits_xor, e]; rfl
theorem or_shl {z g k : Nat} (h : z < 2 ^ k) : z ||| (g <<< k) = z + g * 2 ^ k := by
 have e := Nat.two_pow_add_eq_or_of_lt (i := k) (b := z) h g
 rw [Nat.shiftLeft_eq, Nat.or_comm, Nat.mul_comm g, ← e, Nat.add_comm]
def intV : Option (Nat × Nat) → Value
 | some (z, q) => .tuple #[zv (unz z), zv (q : Int), zv 0]
 | none => .tuple #[zv 0, zv 0, zv 10]
def strV : Option (List UInt8 × Nat) → Value
 | some (r, q) => .tuple #[.string (mkBA r), zv (q : Int), zv 0]
 | none => .tuple #[.string (mkBA []), zv 0, zv 10]
theorem WX.ret3 {P : Program} {N : Nat} {E : Env} {w : World} {fn : Func} {t1 t2 t3 : Nat} {v1 v2 v3 : Value} {R : Value → World → Prop} (hr : fn.results = #[.tmp t1, .tmp t2, .tmp t3]) (h1 : Env.g E t1 = some v1) (h2 : Env.g E t2 = some v2) (h3 : Env.g E t3 = some v3) (h : R (.tuple #[v1, v2, v3]) w) :
  WX N [] .ret (bodyPost P fn (RetP R)) E w := fun a ha => by
 refine ⟨ha.defers, .tuple #[v1, v2, v3], ?_, ⟨_, rfl, h⟩⟩
 have e1 : a.tmps.getD t1 undef = v1 := by rw [Array.getD_eq_getD_getElem?, ha.get _ _ h1]; rfl
 have e2 : a.tmps.getD t2 undef = v2 := by rw [Array.getD_eq_getD_getElem?, ha.get _ _ h2]; rfl
 have e3 : a.tmps.getD t3 undef = v3 := by rw [Array.getD_eq_getD_getElem?, ha.get _ _ h3]; rfl
 have e1' : a.tmps[t1]?.getD undef = v1 := by simpa using e1
 have e2' : a.tmps[t2]?.getD undef = v2 := by simpa using e2
 have e3' : a.tmps[t3]?.getD undef = v3 := by simpa using e3
 simp [results, hr, e1', e2', e3']
attribute [local irreducible] WC WL WX POp Then Again Fn NX W1 WA WO QL RP RA Yld LoopAt HC HL HX HN H1 HA HO HQ HB HP A.blk A.grow A.rd A.obj A.mp AgainH CutH
attribute [local irreducible] unz
set_option maxHeartbeats 4000000 in
theorem int_fn (s : ByteArray) (p : Nat) (hp : p ≤ s.size) (hs : s.size ≤ 5000000) (w : World) : Fn Tryz.prog 159 #[.string s, zv (p : Int)] w fun v w' => v = intV (decI s.data.toList p) ∧ w = w' := by
 have hlen : s.data.toList.length = s.size := by rw [Array.length_toList]; rfl
 refine enter (l := [_, _]) rfl Tryz.ntmps159 rfl ?_
 repeat' (first | apply WL.fold | apply WA.fold | apply WL.nil | apply WX.n_then | apply WC.seq | apply WC.region | refine WL.pa ?_ | refine WL.ga rfl ?_ | refine WL.na rfl ?_ | refine WL.nu rfl rfl ?_ | apply WC.block | apply WC.skip | apply WC.exit | apply WC.ret | apply WX.e_block | refine WX.e_other rfl ?_ | apply WX.e_then | apply WX.e_again | apply WX.n_block | apply WX.r_then | apply WX.r_block | apply WX.r_again | refine WC.cond_yes rfl ?_ | refine WC.cond_no rfl ?_ | refine WC.cond rfl (fun hc => ?_) (fun hc => ?_) | refine WC.cond_b rfl (fun hc => ?_) (fun hc => ?_))
 refine WC.loop (α := Nat × Nat) (fun x => [(0, .string s), (1, zv (p : Int)), (7, .int .u64 (x.2 : Int)), (19, zv (x.1 : Int))])
  (fun x w' => w' = w ∧ x.1 ≤ 9 ∧ x.2 < 2 ^ (7 * x.1) ∧ decG s.data.toList p x.1 x.2 = decI s.data.toList p) (fun x => 9 - x.1) (0, 0) esA ⟨rfl, by omega, by decide, rfl⟩ ?_
 rintro ⟨i, z⟩ w' ⟨rfl, hi, hz, hd⟩
 dsimp only at hi hz hd ⊢
 by_cases hlt : i < 9
 ·by_cases hin : p + i < s.size
  ·have hin' : p + i < s.data.toList.length := by omega
   have hge : ¬ ((s.size : Int) ≤ (p : Int) + (i : Int)) := by omega
   obtain ⟨b, hb⟩ : ∃ b, b = (s.data.toList.getD (p + i) 0).toNat := ⟨_, rfl⟩
   have hbl : b < 256 := by rw [hb]; exact UInt8.toNat_lt _
   have hsb : sb s (p + i) = b := hb.symm
   have hpw : 2 ^ (7 * i) ≤ 2 ^ 56 := Nat.pow_le_pow_right (by decide) (by omega)
   have hmul : b % 128 * 2 ^ (7 * i) ≤ 127 * 2 ^ 56 := Nat.mul_le_mul (by omega) hpw
   have hand : b &&& 127 = b % 128 := Nat.and_two_pow_sub_one_eq_mod b 7
   have hor : z ||| (b % 128) <<< (7 * i) = z + b % 128 * 2 ^ (7 * i) := or_shl hz
   have hz2 : z + b % 128 * 2 ^ (7 * i) < 2 ^ (7 * (i + 1)) := by
    have e : 2 ^ (7 * (i + 1)) = 128 * 2 ^ (7 * i) := by rw [Nat.mul_add, Nat.pow_add, Nat.mul_comm]
    have h2 : b % 128 * 2 ^ (7 * i) ≤ 127 * 2 ^ (7 * i) := Nat.mul_le_mul_right _ (by omega)
    omega
   have hz3 : z + b % 128 * 2 ^ (7 * i) < 9223372036854775808 := by
    have h2 : 2 ^ (7 * (i + 1)) ≤ 2 ^ 63 := Nat.pow_le_pow_right (by decide) (by omega)
    omega
   have hshl : (b % 128) <<< (7 * i) < 18446744073709551616 := by rw [Nat.shiftLeft_eq]; omega
   have on := decG_on (s := s.data.toList) (p := p) (z := z) hlt hin'
   have no := decG_no (s := s.data.toList) (p := p) (z := z) hlt hin'
   have yes := decG_yes (s := s.data.toList) (p := p) (z := z) hlt hin'
   rw [← hb] at on no yes
   generalize hz' : z + b % 128 * 2 ^ (7 * i) = z' at hor hz2 hz3 on no yes
   repeat' (first | apply WL.fold | apply WA.fold | apply WL.nil | apply WX.n_then | apply WC.seq | apply WC.region | refine WL.pa ?_ | refine WL.ga rfl ?_ | refine WL.na rfl ?_ | refine WL.nu rfl rfl ?_ | apply WC.block | apply WC.skip | apply WC.exit | apply WC.ret | apply WX.e_block | refine WX.e_other rfl ?_ | apply WX.e_then | apply WX.e_again | apply WX.n_block | apply WX.r_then | apply WX.r_block | apply WX.r_again | refine WC.cond_yes rfl ?_ | refine WC.cond_no rfl ?_ | refine WC.cond rfl (fun hc => ?_) (fun hc => ?_) | refine WC.cond_b rfl (fun hc => ?_) (fun hc => ?_))
   rw [hsb]
   refine WL.pa ?_ (POp.and8 (a := b) (b := 127) rfl rfl rfl rfl hbl (by decide))
   rw [hand]
   repeat' (first | apply WL.fold | apply WA.fold | apply WL.nil | apply WX.n_then | apply WC.seq | apply WC.region | refine WL.pa ?_ | refine WL.ga rfl ?_ | refine WL.na rfl ?_ | refine WL.nu rfl rfl ?_ | apply WC.block | apply WC.skip | apply WC.exit | apply WC.ret | apply WX.e_block | refine WX.e_other rfl ?_ | apply WX.e_then | apply WX.e_again | apply WX.n_block | apply WX.r_then | apply WX.r_block | apply WX.r_again | refine WC.cond_yes rfl ?_ | refine WC.cond_no rfl ?_ | refine WC.cond rfl (fun hc => ?_) (fun hc => ?_) | refine WC.cond_b rfl (fun hc => ?_) (fun hc => ?_))
   refine WL.pa ?_ ((POp.conv (k' := .u64) rfl).of (v' := .int .u64 ((b % 128 : Nat) : Int)) (by rw [wrap_u64 (by omega)]))
   repeat' (first | apply WL.fold | apply WA.fold | apply WL.nil | apply WX.n_then | apply WC.seq | apply WC.region | refine WL.pa ?_ | refine WL.ga rfl ?_ | refine WL.na rfl ?_ | refine WL.nu rfl rfl ?_ | apply WC.block | apply WC.skip | apply WC.exit | apply WC.ret | apply WX.e_block | refine WX.e_other rfl ?_ | apply WX.e_then | apply WX.e_again | apply WX.n_block | apply WX.r_then | apply WX.r_block | apply WX.r_again | refine WC.cond_yes rfl ?_ | refine WC.cond_no rfl ?_ | refine WC.cond rfl (fun hc => ?_) (fun hc => ?_) | refine WC.cond_b rfl (fun hc => ?_) (fun hc => ?_))
   refine WL.pa ?_ (POp.shl64 (a := b % 128) (b := 7 * i) rfl rfl rfl (by omega) (by omega) hshl)
   repeat' (first | apply WL.fold | apply WA.fold | apply WL.nil | apply WX.n_then | apply WC.seq | apply WC.region | refine WL.pa ?_ | refine WL.ga rfl ?_ | refine WL.na rfl ?_ | refine WL.nu rfl rfl ?_ | apply WC.block | apply WC.skip | apply WC.exit | apply WC.ret | apply WX.e_block | refine WX.e_other rfl ?_ | apply WX.e_then | apply WX.e_again | apply WX.n_block | apply WX.r_then | apply WX.r_block | apply WX.r_again | refine WC.cond_yes rfl ?_ | refine WC.cond_no rfl ?_ | refine WC.cond rfl (fun hc => ?_) (fun hc => ?_) | refine WC.cond_b rfl (fun hc => ?_) (fun hc => ?_))
   refine WL.pa ?_ (POp.or64 (a := z) (b := (b % 128) <<< (7 * i)) rfl rfl rfl rfl (by omega) hshl)
   rw [hor]
   by_cases h128 : 128 ≤ b
   ·have h128' : (128 : Int) ≤ (b : Int) := by omega
    repeat' (first | apply WL.fold | apply WA.fold | apply WL.nil | apply WX.n_then | apply WC.seq | apply WC.region | refine WL.pa ?_ | refine WL.ga rfl ?_ | refine WL.na rfl ?_ | refine WL.nu rfl rfl ?_ | apply WC.block | apply WC.skip | apply WC.exit | apply WC.ret | apply WX.e_block | refine WX.e_other rfl ?_ | apply WX.e_then | apply WX.e_again | apply WX.n_block | apply WX.r_then | apply WX.r_block | apply WX.r_again | refine WC.cond_yes rfl ?_ | refine WC.cond_no rfl ?_ | refine WC.cond rfl (fun hc => ?_) (fun hc => ?_) | refine WC.cond_b rfl (fun hc => ?_) (fun hc => ?_))
    exact WX.again (i + 1, z') ⟨rfl, hlt, hz2, by rw [← on h128]; exact hd⟩ (by show 9 - (i + 1) < 9 - i; omega) esA
   ·have h128' : ¬ (128 : Int) ≤ (b : Int) := by omega
    have hand1 : z' &&& 1 = z' % 2 := Nat.and_two_pow_sub_one_eq_mod z' 1
    have hshr : z' >>> 1 = z' / 2 := Nat.shiftRight_eq_div_pow z' 1
    repeat' (first | apply WL.fold | apply WA.fold | apply WL.nil | apply WX.n_then | apply WC.seq | apply WC.region | refine WL.pa ?_ | refine WL.ga rfl ?_ | refine WL.na rfl ?_ | refine WL.nu rfl rfl ?_ | apply WC.block | apply WC.skip | apply WC.exit | apply WC.ret | apply WX.e_block | refine WX.e_other rfl ?_ | apply WX.e_then | apply WX.e_again | apply WX.n_block | apply WX.r_then | apply WX.r_block | apply WX.r_again | refine WC.cond_yes rfl ?_ | refine WC.cond_no rfl ?_ | refine WC.cond rfl (fun hc => ?_) (fun hc => ?_) | refine WC.cond_b rfl (fun hc => ?_) (fun hc => ?_))
    refine WL.pa ?_ (POp.shr64 (a := z') (b := 1) rfl rfl rfl rfl (by decide))
    rw [hshr]
    repeat' (first | apply WL.fold | apply WA.fold | apply WL.nil | apply WX.n_then | apply WC.seq | apply WC.region | refine WL.pa ?_ | refine WL.ga rfl ?_ | refine WL.na rfl ?_ | refine WL.nu rfl rfl ?_ | apply WC.block | apply WC.skip | apply WC.exit | apply WC.ret | apply WX.e_block | refine WX.e_other rfl ?_ | apply WX.e_then | apply WX.e_again | apply WX.n_block | apply WX.r_then | apply WX.r_block | apply WX.r_again | refine WC.cond_yes rfl ?_ | refine WC.cond_no rfl ?_ | refine WC.cond rfl (fun hc => ?_) (fun hc => ?_) | refine WC.cond_b rfl (fun hc => ?_) (fun hc => ?_))
    refine WL.pa ?_ (POp.and64 (a := z') (b := 1) rfl rfl rfl rfl (by omega) (by decide))
    rw [hand1]
    repeat' (first | apply WL.fold | apply WA.fold | apply WL.nil | apply WX.n_then | apply WC.seq | apply WC.region | refine WL.pa ?_ | refine WL.ga rfl ?_ | refine WL.na rfl ?_ | refine WL.nu rfl rfl ?_ | apply WC.block | apply WC.skip | apply WC.exit | apply WC.ret | apply WX.e_block | refine WX.e_other rfl ?_ | apply WX.e_then | apply WX.e_again | apply WX.n_block | apply WX.r_then | apply WX.r_block | apply WX.r_again | refine WC.cond_yes rfl ?_ | refine WC.cond_no rfl ?_ | refine WC.cond rfl (fun hc => ?_) (fun hc => ?_) | refine WC.cond_b rfl (fun hc => ?_) (fun hc => ?_))
    refine WL.pa ?_ (POp.zz (z := z') rfl rfl (by omega))
    by_cases hb0 : (b : Int) = 0
    ·by_cases hi0 : (0 : Int) < (i : Int)
     ·have hno := no h128 (.inl ⟨by omega, by omega⟩)
      repeat' (first | apply WL.fold | apply WA.fold | apply WL.nil | apply WX.n_then | apply WC.seq | apply WC.region | refine WL.pa ?_ | refine WL.ga rfl ?_ | refine WL.na rfl ?_ | refine WL.nu rfl rfl ?_ | apply WC.block | apply WC.skip | apply WC.exit | apply WC.ret | apply WX.e_block | refine WX.e_other rfl ?_ | apply WX.e_then | apply WX.e_again | apply WX.n_block | apply WX.r_then | apply WX.r_block | apply WX.r_again | refine WC.cond_yes rfl ?_ | refine WC.cond_no rfl ?_ | refine WC.cond rfl (fun hc => ?_) (fun hc => ?_) | refine WC.cond_b rfl (fun hc => ?_) (fun hc => ?_))
      exact WX.ret3 (P := Tryz.prog) rfl rfl rfl rfl ⟨by rw [← hd, hno]; rfl, rfl⟩
     ·by_cases hu : unz z' < -4611686018427387903
      ·have hno := no h128 (.inr hu)
       repeat' (first | apply WL.fold | apply WA.fold | apply WL.nil | apply WX.n_then | apply WC.seq | apply WC.region | refine WL.pa ?_ | refine WL.ga rfl ?_ | refine WL.na rfl ?_ | refine WL.nu rfl rfl ?_ | apply WC.block | apply WC.skip | apply WC.exit | apply WC.ret | apply WX.e_block | refine WX.e_other rfl ?_ | apply WX.e_then | apply WX.e_again | apply WX.n_block | apply WX.r_then | apply WX.r_block | apply WX.r_again | refine WC.cond_yes rfl ?_ | refine WC.cond_no rfl ?_ | refine WC.cond rfl (fun hc => ?_) (fun hc => ?_) | refine WC.cond_b rfl (fun hc => ?_) (fun hc => ?_))
       exact WX.ret3 (P := Tryz.prog) rfl rfl rfl rfl ⟨by rw [← hd, hno]; rfl, rfl⟩
      ·have hyes := yes h128 (by omega)
       repeat' (first | apply WL.fold | apply WA.fold | apply WL.nil | apply WX.n_then | apply WC.seq | apply WC.region | refine WL.pa ?_ | refine WL.ga rfl ?_ | refine WL.na rfl ?_ | refine WL.nu rfl rfl ?_ | apply WC.block | apply WC.skip | apply WC.exit | apply WC.ret | apply WX.e_block | refine WX.e_other rfl ?_ | apply WX.e_then | apply WX.e_again | apply WX.n_block | apply WX.r_then | apply WX.r_block | apply WX.r_again | refine WC.cond_yes rfl ?_ | refine WC.cond_no rfl ?_ | refine WC.cond rfl (fun hc => ?_) (fun hc => ?_) | refine WC.cond_b rfl (fun hc => ?_) (fun hc => ?_))
       exact WX.ret3 (P := Tryz.prog) rfl rfl rfl rfl ⟨by rw [← hd, hyes]; rfl, rfl⟩
    ·by_cases hu : unz z' < -4611686018427387903
     ·have hno := no h128 (.inr hu)
      repeat' (first | apply WL.fold | apply WA.fold | apply WL.nil | apply WX.n_then | apply WC.seq | apply WC.region | refine WL.pa ?_ | refine WL.ga rfl ?_ | refine WL.na rfl ?_ | refine WL.nu rfl rfl ?_ | apply WC.block | apply WC.skip | apply WC.exit | apply WC.ret | apply WX.e_block | refine WX.e_other rfl ?_ | apply WX.e_then | apply WX.e_again | apply WX.n_block | apply WX.r_then | apply WX.r_block | apply WX.r_again | refine WC.cond_yes rfl ?_ | refine WC.cond_no rfl ?_ | refine WC.cond rfl (fun hc => ?_) (fun hc => ?_) | refine WC.cond_b rfl (fun hc => ?_) (fun hc => ?_))
      exact WX.ret3 (P := Tryz.prog) rfl rfl rfl rfl ⟨by rw [← hd, hno]; rfl, rfl⟩
     ·have hyes := yes h128 (by omega)
      repeat' (first | apply WL.fold | apply WA.fold | apply WL.nil | apply WX.n_then | apply WC.seq | apply WC.region | refine WL.pa ?_ | refine WL.ga rfl ?_ | refine WL.na rfl ?_ | refine WL.nu rfl rfl ?_ | apply WC.block | apply WC.skip | apply WC.exit | apply WC.ret | apply WX.e_block | refine WX.e_other rfl ?_ | apply WX.e_then | apply WX.e_again | apply WX.n_block | apply WX.r_then | apply WX.r_block | apply WX.r_again | refine WC.cond_yes rfl ?_ | refine WC.cond_no rfl ?_ | refine WC.cond rfl (fun hc => ?_) (fun hc => ?_) | refine WC.cond_b rfl (fun hc => ?_) (fun hc => ?_))
      exact WX.ret3 (P := Tryz.prog) rfl rfl rfl rfl ⟨by rw [← hd, hyes]; rfl, rfl⟩
  ·have hge : ((s.size : Int) ≤ (p : Int) + (i : Int)) := by omega
   have hno := decG_end (s := s.data.toList) (p := p) (i := i) (z := z) (by omega)
   repeat' (first | apply WL.fold | apply WA.fold | apply WL.nil | apply WX.n_then | apply WC.seq | apply WC.region | refine WL.pa ?_ | refine WL.ga rfl ?_ | refine WL.na rfl ?_ | refine WL.nu rfl rfl ?_ | apply WC.block | apply WC.skip | apply WC.exit | apply WC.ret | apply WX.e_block | refine WX.e_other rfl ?_ | apply WX.e_then | apply WX.e_again | apply WX.n_block | apply WX.r_then | apply WX.r_block | apply WX.r_again | refine WC.cond_yes rfl ?_ | refine WC.cond_no rfl ?_ | refine WC.cond rfl (fun hc => ?_) (fun hc => ?_) | refine WC.cond_b rfl (fun hc => ?_) (fun hc => ?_))
   exact WX.ret3 (P := Tryz.prog) rfl rfl rfl rfl ⟨by rw [← hd, hno]; rfl, rfl⟩
 ·obtain rfl : i = 9 := by omega
  have hno := decG_9 s.data.toList p z
  repeat' (first | apply WL.fold | apply WA.fold | apply WL.nil | apply WX.n_then | apply WC.seq | apply WC.region | refine WL.pa ?_ | refine WL.ga rfl ?_ | refine WL.na rfl ?_ | refine WL.nu rfl rfl ?_ | apply WC.block | apply WC.skip | apply WC.exit | apply WC.ret | apply WX.e_block | refine WX.e_other rfl ?_ | apply WX.e_then | apply WX.e_again | apply WX.n_block | apply WX.r_then | apply WX.r_block | apply WX.r_again | refine WC.cond_yes rfl ?_ | refine WC.cond_no rfl ?_ | refine WC.cond rfl (fun hc => ?_) (fun hc => ?_) | refine WC.cond_b rfl (fun hc => ?_) (fun hc => ?_))
  exact WX.ret3 (P := Tryz.prog) rfl rfl rfl rfl ⟨by rw [← hd, hno]; rfl, rfl⟩
end Go.Sx
/- Chapter 1: a string that is read back: the walk. -/
namespace Go.Sx
open Go Go.Proofs Go.RowKit
theorem ba_ext {s t : ByteArray} (h : s.data.toList = t.data.toList) : s = t := by
 cases s; cases t
 congr 1
 exact Array.toList_inj.1 h
theorem extract_L (s : ByteArray) (a b : Nat) : (s.extract a b).data.toList = (s.data.toList.drop a).take (b - a) := by
 rw [ByteArray.data_extract, Array.toList_extract]
theorem extract_mk (s : ByteArray) (a b : Nat) : s.extract a b = mkBA ((s.data.toList.drop a).take (b - a)) := ba_ext (by rw [extract_L]; rfl)
attribute [local irreducible] WC WL WX POp Then Again Fn NX W1 WA WO QL RP RA Yld LoopAt HC HL HX HN H1 HA HO HQ HB HP A.blk A.grow A.rd A.obj A.mp AgainH CutH
attribute [local irreducible] unz
set_option maxHeartbeats 2000000 in
theorem string_fn (s : ByteArray) (p : Nat) (hp : p ≤ s.size) (hs : s.size ≤ 5000000) (w : World) : Fn Tryz.prog 160 #[.string s, zv (p : Int)] w fun v w' => v = strV (decS s.data.toList p) ∧ w = w' := by
 have hlen : s.data.toList.length = s.size := by rw [Array.length_toList]; rfl
 have hint := int_fn s p hp hs w
 refine enter (l := [_, _]) rfl Tryz.ntmps160 rfl ?_
 unfold decS
 cases hd : decI s.data.toList p with
 | none =>
  rw [hd] at hint
  repeat' (first | apply WL.fold | apply WA.fold | apply WL.nil | apply WX.n_then | apply WC.seq | apply WC.region | refine WL.pa ?_ | refine WL.ga rfl ?_ | refine WL.na rfl ?_ | refine WL.nu rfl rfl ?_ | apply WC.block | apply WC.skip | apply WC.exit | apply WC.ret | apply WX.e_block | refine WX.e_other rfl ?_ | apply WX.e_then | apply WX.e_again | apply WX.n_block | apply WX.r_then | apply WX.r_block | apply WX.r_again | refine WC.cond_yes rfl ?_ | refine WC.cond_no rfl ?_ | refine WC.cond rfl (fun hc => ?_) (fun hc => ?_) | refine WC.cond_b rfl (fun hc => ?_) (fun hc => ?_))
  refine WL.call rfl rfl hint ?_
  rintro v w' ⟨rfl, rfl⟩
  unfold intV
  repeat' (first | apply WL.fold | apply WA.fold | apply WL.nil | apply WX.n_then | apply WC.seq | apply WC.region | refine WL.pa ?_ | refine WL.ga rfl ?_ | refine WL.na rfl ?_ | refine WL.nu rfl rfl ?_ | apply WC.block | apply WC.skip | apply WC.exit | apply WC.ret | apply WX.e_block | refine WX.e_other rfl ?_ | apply WX.e_then | apply WX.e_again | apply WX.n_block | apply WX.r_then | apply WX.r_block | apply WX.r_again | refine WC.cond_yes rfl ?_ | refine WC.cond_no rfl ?_ | refine WC.cond rfl (fun hc => ?_) (fun hc => ?_) | refine WC.cond_b rfl (fun hc => ?_) (fun hc => ?_))
  exact WX.ret3 (P := Tryz.prog) rfl rfl rfl rfl ⟨rfl, rfl⟩
 | some x =>
  obtain ⟨z, q⟩ := x
  rw [hd] at hint
  have hq := decG_le 9 0 0 (by omega) hd
  simp only at hq
  rw [hlen] at hq ⊢
  dsimp only
  repeat' (first | apply WL.fold | apply WA.fold | apply WL.nil | apply WX.n_then | apply WC.seq | apply WC.region | refine WL.pa ?_ | refine WL.ga rfl ?_ | refine WL.na rfl ?_ | refine WL.nu rfl rfl ?_ | apply WC.block | apply WC.skip | apply WC.exit | apply WC.ret | apply WX.e_block | refine WX.e_other rfl ?_ | apply WX.e_then | apply WX.e_again | apply WX.n_block | apply WX.r_then | apply WX.r_block | apply WX.r_again | refine WC.cond_yes rfl ?_ | refine WC.cond_no rfl ?_ | refine WC.cond rfl (fun hc => ?_) (fun hc => ?_) | refine WC.cond_b rfl (fun hc => ?_) (fun hc => ?_))
  refine WL.call rfl rfl hint ?_
  rintro v w' ⟨rfl, rfl⟩
  unfold intV
  obtain ⟨u, hu⟩ : ∃ u, u = unz z := ⟨_, rfl⟩
  rw [← hu]
  by_cases h1 : u < 0
  ·rw [if_pos (.inl h1)]
   repeat' (first | apply WL.fold | apply WA.fold | apply WL.nil | apply WX.n_then | apply WC.seq | apply WC.region | refine WL.pa ?_ | refine WL.ga rfl ?_ | refine WL.na rfl ?_ | refine WL.nu rfl rfl ?_ | apply WC.block | apply WC.skip | apply WC.exit | apply WC.ret | apply WX.e_block | refine WX.e_other rfl ?_ | apply WX.e_then | apply WX.e_again | apply WX.n_block | apply WX.r_then | apply WX.r_block | apply WX.r_again | refine WC.cond_yes rfl ?_ | refine WC.cond_no rfl ?_ | refine WC.cond rfl (fun hc => ?_) (fun hc => ?_) | refine WC.cond_b rfl (fun hc => ?_) (fun hc => ?_))
   exact WX.ret3 (P := Tryz.prog) rfl rfl rfl rfl ⟨rfl, rfl⟩
  ·by_cases h2 : u > 65536
   ·rw [if_pos (.inr (.inl h2))]
    repeat' (first | apply WL.fold | apply WA.fold | apply WL.nil | apply WX.n_then | apply WC.seq | apply WC.region | refine WL.pa ?_ | refine WL.ga rfl ?_ | refine WL.na rfl ?_ | refine WL.nu rfl rfl ?_ | apply WC.block | apply WC.skip | apply WC.exit | apply WC.ret | apply WX.e_block | refine WX.e_other rfl ?_ | apply WX.e_then | apply WX.e_again | apply WX.n_block | apply WX.r_then | apply WX.r_block | apply WX.r_again | refine WC.cond_yes rfl ?_ | refine WC.cond_no rfl ?_ | refine WC.cond rfl (fun hc => ?_) (fun hc => ?_) | refine WC.cond_b rfl (fun hc => ?_) (fun hc => ?_))
    exact WX.ret3 (P := Tryz.prog) rfl rfl rfl rfl ⟨rfl, rfl⟩
   ·by_cases h3 : u > (s.size : Int) - (q : Int)
    ·rw [if_pos (.inr (.inr h3))]
     repeat' (first | apply WL.fold | apply WA.fold | apply WL.nil | apply WX.n_then | apply WC.seq | apply WC.region | refine WL.pa ?_ | refine WL.ga rfl ?_ | refine WL.na rfl ?_ | refine WL.nu rfl rfl ?_ | apply WC.block | apply WC.skip | apply WC.exit | apply WC.ret | apply WX.e_block | refine WX.e_other rfl ?_ | apply WX.e_then | apply WX.e_again | apply WX.n_block | apply WX.r_then | apply WX.r_block | apply WX.r_again | refine WC.cond_yes rfl ?_ | refine WC.cond_no rfl ?_ | refine WC.cond rfl (fun hc => ?_) (fun hc => ?_) | refine WC.cond_b rfl (fun hc => ?_) (fun hc => ?_))
     exact WX.ret3 (P := Tryz.prog) rfl rfl rfl rfl ⟨rfl, rfl⟩
    ·rw [if_neg (by omega)]
     obtain ⟨n, rfl⟩ := Int.eq_ofNat_of_zero_le (show 0 ≤ u by omega)
     have e1 : ((q : Int) + (n : Int)).toNat = q + n := by omega
     have e2 := extract_mk s q (q + n)
     rw [show q + n - q = n from by omega] at e2
     repeat' (first | apply WL.fold | apply WA.fold | apply WL.nil | apply WX.n_then | apply WC.seq | apply WC.region | refine WL.pa ?_ | refine WL.ga rfl ?_ | refine WL.na rfl ?_ | refine WL.nu rfl rfl ?_ | apply WC.block | apply WC.skip | apply WC.exit | apply WC.ret | apply WX.e_block | refine WX.e_other rfl ?_ | apply WX.e_then | apply WX.e_again | apply WX.n_block | apply WX.r_then | apply WX.r_block | apply WX.r_again | refine WC.cond_yes rfl ?_ | refine WC.cond_no rfl ?_ | refine WC.cond rfl (fun hc => ?_) (fun hc => ?_) | refine WC.cond_b rfl (fun hc => ?_) (fun hc => ?_))
     refine WX.ret3 (P := Tryz.prog) rfl rfl rfl rfl ⟨?_, rfl⟩
     rw [← hu, e1, Int.toNat_natCast, Int.toNat_natCast, e2]
     rfl
end Go.Sx
/-
 Regions whose order is open: loads of cells that stay as they are until an operation of the region that comes behind them.
-/
namespace Go.Sx
open Go
def AnyU (C : Array Bool → World → Prop) (P : Program) (ops : Array Oper) (Q : Post) : Nat → Array Bool → Act → World → Prop
 | 0, listed, a, w => C listed w ∧ Region.ready .any ops listed = [] ∧ Q .normal a w
 | fuel + 1, listed, a, w => C listed w ∧ (Region.ready .any ops listed = [] → Q .normal a w) ∧ ∀ i ∈ Region.ready .any ops listed, wpOpIn (FW none) 0 P ops Q i (AnyU C P ops Q fuel (listed.setIfInBounds i true)) a w
section
variable {C : Array Bool → World → Prop} {P : Program} {ops : Array Oper} {Q : Post}
theorem AnyU.is : ∀ {fuel : Nat} {listed : Array Bool} {a : Act} {w : World}, AnyU C P ops Q fuel listed a w → C listed w
 | 0, _, _, _, h => h.1
 | _ + 1, _, _, _, h => h.1
theorem anyU_in : ∀ (fuel : Nat) (listed : Array Bool) (a : Act) (w : World), AnyU C P ops Q fuel listed a w → wpAnyIn (FW none) 0 P .any ops Q fuel listed a w := by
 intro fuel
 induction fuel with
 | zero => intro listed a w h; exact h.2
 | succ fuel ih => intro listed a w h; exact ⟨h.2.1, fun j hj => wpOpIn_mono (fun a' w' h3 => ih _ a' w' h3) (h.2.2 j hj)⟩
theorem anyU_first {i : Nat} {oi : Oper} {v : Value} (Y : Act → Prop) (G : Array Bool → Prop) (hdn : ∀ listed w, C (listed.setIfInBounds i true) w → C listed w)
  (hG : ∀ listed j, G listed → i ∈ Region.ready .any ops listed → j ∈ Region.ready .any ops listed → j ≠ i → G (listed.setIfInBounds j true))
  (now : ∀ {K : Act → World → Prop} {a : Act} {w : World} {listed : Array Bool}, Y a → G listed → C listed w → K (a.put oi.dst v) w → wpOpIn (FW none) 0 P ops Q i K a w)
  (step : ∀ {j : Nat} {oj : Oper} {K : Act → World → Prop} {a : Act} {w : World}, ops[j]? = some oj → oi.apart ops oj = true → Y a → wpOpIn (FW none) 0 P ops Q j K (a.put oi.dst v) w → wpOpIn (FW none) 0 P ops Q j (fun a' w' => Y a' ∧ K (a'.put oi.dst v) w') a w) :
  ∀ (fuel : Nat) (listed : Array Bool) (a : Act) (w : World), (∀ (j : Nat) (oj : Oper), ops[j]? = some oj → j ≠ i → listed.getD j true = false → (∀ e ∈ oj.after, Region.binds .any e = true → e.on ≠ i) → oi.apart ops oj = true) →
   i ∈ Region.ready .any ops listed → Y a → G listed → AnyU C P ops Q fuel (listed.setIfInBounds i true) (a.put oi.dst v) w → AnyU C P ops Q (fuel + 1) listed a w := by
 intro fuel
 induction fuel with
 | zero =>
  intro listed a w _ hr hy hg h
  refine ⟨hdn _ _ h.is, fun e => (by rw [e] at hr; cases hr), fun j hj => ?_⟩
  by_cases hji : j = i
  ·subst hji; exact now hy hg (hdn _ _ h.is) h
  ·have h1 := ready_mono hj hji
   rw [h.2.1] at h1; cases h1
 | succ fuel ih =>
  intro listed a w hf hr hy hg h
  refine ⟨hdn _ _ h.is, fun e => (by rw [e] at hr; cases hr), fun j hj => ?_⟩
  by_cases hji : j = i
  ·subst hji; exact now hy hg (hdn _ _ h.is) h
  ·obtain ⟨hun, oj, hoj, hall⟩ := mem_ready.1 hj
   have hno : ∀ e ∈ oj.after, Region.binds .any e = true → e.on ≠ i := by
    intro e he hb e1
    have h1 := hall e he hb
    have h0 := (mem_ready.1 hr).1
    rw [e1] at h1
    rw [Array.getD_eq_getD_getElem?] at h0 h1
    cases hl : listed[i]? with
    | none => rw [hl] at h1; cases h1
    | some b => rw [hl] at h0 h1; simp only [Option.getD_some] at h0 h1; rw [h0] at h1; cases h1
   refine wpOpIn_mono (fun a' w' h3 => ?_) (step hoj (hf j oj hoj hji hun hno) hy (h.2.2 j (ready_mono hj hji)))
   refine ih (listed.setIfInBounds j true) a' w' (fun k ok hok hki hku hkn => ?_) (ready_mono hr (Ne.symm hji)) h3.1 (hG listed j hg hr hj hji) ?_
   ·by_cases e : j = k
    ·subst e; exact hf j ok hok hji hun hkn
    ·rw [getD_set_ne true e] at hku; exact hf k ok hok hki hku hkn
   ·rw [Array.setIfInBounds_comm _ _ hji]; exact h3.2
end
def CellsU (l : List (Nat × Addr × Value)) (listed : Array Bool) (w : World) : Prop := ∀ p ∈ l, listed.getD p.1 true = false → w.cell? p.2.1 = some p.2.2
def notU (l : List (Nat × Addr × Value)) (i : Nat) : Bool := l.all fun p => !Nat.beq p.1 i
def behindB (ol : List Oper) (s i : Nat) : Bool := match ol[s]? with
 | some o => o.after.toList.any fun e => Region.binds .any e && Nat.beq e.on i
 | none => false
theorem cellsU_dn {l : List (Nat × Addr × Value)} {i : Nat} (h : notU l i = true) (listed : Array Bool) (w : World) (hC : CellsU l (listed.setIfInBounds i true) w) : CellsU l listed w := fun p hp hl => by
 have h1 := List.all_eq_true.1 h p hp
 have h2 : ¬ i = p.1 := fun e => by
  subst e
  simp [Nat.beq_refl] at h1
 exact hC p hp (by rw [getD_set_ne true h2]; exact hl)
theorem unlisted_behind {ol : List Oper} {s i : Nat} (hb : behindB ol s i = true) {listed : Array Bool} {j : Nat} (hs : listed.getD s true = false) (hi : i ∈ Region.ready .any ol.toArray listed) (hj : j ∈ Region.ready .any ol.toArray listed) : (listed.setIfInBounds j true).getD s true = false := by
 have hne : ¬ j = s := fun e => by
  subst e
  obtain ⟨-, oj, hoj, hall⟩ := mem_ready.1 hj
  have hoj' : ol[j]? = some oj := by simpa using hoj
  unfold behindB at hb
  rw [hoj'] at hb
  obtain ⟨e, he, h2⟩ := List.any_eq_true.1 hb
  rw [Bool.and_eq_true] at h2
  have h3 := hall e (by simpa using he) h2.1
  have h4 : e.on = i := Nat.eq_of_beq_eq_true h2.2
  have h0 := (mem_ready.1 hi).1
  rw [h4] at h3
  rw [Array.getD_eq_getD_getElem?] at h0 h3
  cases hl : listed[i]? with
  | none => rw [hl] at h3; cases h3
  | some b => rw [hl] at h0 h3; simp only [Option.getD_some] at h0 h3; rw [h0] at h3; cases h3
 rw [getD_set_ne true hne]; exact hs
def HU (l : List (Nat × Addr × Value)) (P : Program) (N : Nat) (ds : List Deferred) (ol : List Oper) (fuel : Nat) (listed : Array Bool) (Q : Post) (E : Env) (w0 : World) (H : List Atom) : Prop :=
 ∀ w, Mm w0 H w → ∀ a, Rep N ds E a → AnyU (CellsU l) P ol.toArray Q fuel listed a w
def HV (l : List (Nat × Addr × Value)) (P : Program) (N : Nat) (ds : List Deferred) (ol : List Oper) (fuel : Nat) (listed : Array Bool) (i : Nat) (o : Oper) (Q : Post) (E : Env) (w0 : World) (H : List Atom) : Prop :=
 ∀ w, Mm w0 H w → ∀ a, Rep N ds E a → if Region.wanted o (yielded ol.toArray a.tmps) then o.wpIn (FW none) 0 P a w (AnyU (CellsU l) P ol.toArray Q fuel (listed.setIfInBounds i true)) Q
  else AnyU (CellsU l) P ol.toArray Q fuel (listed.setIfInBounds i true) (a.put o.dst undef) w
def AllU (l : List (Nat × Addr × Value)) (P : Program) (N : Nat) (ds : List Deferred) (ol : List Oper) (fuel : Nat) (listed : Array Bool) (Q : Post) (E : Env) (w0 : World) (H : List Atom) : List Nat → Prop
 | [] => True
 | i :: rs => (∃ o, ol[i]? = some o ∧ HV l P N ds ol fuel listed i o Q E w0 H) ∧ AllU l P N ds ol fuel listed Q E w0 H rs
def KeepU (l : List (Nat × Addr × Value)) (listed : Array Bool) (w0 : World) (H : List Atom) : Prop := ∀ w, Mm w0 H w → CellsU l listed w
section
variable {l : List (Nat × Addr × Value)} {w0 : World} {H : List Atom} {listed : Array Bool}
theorem KeepU.nil : KeepU [] listed w0 H := fun _ _ _ h => by cases h
theorem KeepU.cons {s : Nat} {ad : Addr} {v : Value} (h1 : ∀ w, Mm w0 H w → w.cell? ad = some v) (h : KeepU l listed w0 H) : KeepU ((s, ad, v) :: l) listed w0 H := fun w hM p hp hl => by
 rcases List.mem_cons.1 hp with rfl | hp
 ·exact h1 w hM
 ·exact h w hM p hp hl
theorem KeepU.skip {s : Nat} {ad : Addr} {v : Value} (h1 : listed.getD s true = true) (h : KeepU l listed w0 H) : KeepU ((s, ad, v) :: l) listed w0 H := fun w hM p hp hl => by
 rcases List.mem_cons.1 hp with rfl | hp
 ·rw [h1] at hl; cases hl
 ·exact h w hM p hp hl
theorem KeepU.blk {s b i : Nat} {v : Value} {cs : List Value} {e : TypeId} (hm : A.blk b cs e ∈ H) (hi : cs[i]? = some v) (h : KeepU l listed w0 H) : KeepU ((s, ⟨b, i, none⟩, v) :: l) listed w0 H := h.cons fun _ hM => (hM.blk hm).cell hi
theorem KeepU.grow {s b i c n sz : Nat} {v : Value} {vs : List Value} {e : TypeId} (hm : A.grow e sz (some ⟨b, 0, none⟩) c n vs ∈ H) (hi : vs[i]? = some v) (h : KeepU l listed w0 H) : KeepU ((s, ⟨b, i, none⟩, v) :: l) listed w0 H := h.cons fun _ hM => ownsRow_cell (hM.own hm) hi
theorem KeepU.base {s : Nat} {ad : Addr} {v : Value} (hc : w0.cell? ad = some v) (h : KeepU l listed w0 H) : KeepU ((s, ad, v) :: l) listed w0 H := h.cons fun _ hM => cell_ext hM.ext hc
variable {P : Program} {r : Option Nat} {N : Nat} {ds : List Deferred} {ol : List Oper} {Q : Post} {E : Env} {fuel : Nat} {ty : TypeId} {pos : String} {af : Array Edge}
theorem kU {p : Nat × Addr × Value} {l : List (Nat × Addr × Value)} {listed : Array Bool} {w0 : World} {H : List Atom} (h : KeepU l listed w0 H) (f : KeepU l listed w0 H → KeepU (p :: l) listed w0 H := by intro hkU; first | exact KeepU.blk (by (repeat (first | exact List.Mem.head _ | apply List.Mem.tail)); done) rfl hkU | exact KeepU.grow (by (repeat (first | exact List.Mem.head _ | apply List.Mem.tail)); done) (by assumption) hkU | exact KeepU.base (by assumption) hkU) : KeepU (p :: l) listed w0 H := f h
theorem HC.anyU [hm : Mixed P] {id : Nat} {ol : List Oper} (l : List (Nat × Addr × Value)) (hf : ol.length = fuel) (h : HU l P N ds ol fuel (Array.replicate ol.length false) Q E w0 H) : HC P none N ds (.region id ol.toArray true) Q E w0 H :=
 HC.any hf fun w hM a ha => anyU_in _ _ _ _ (h w hM a ha)
theorem HU.pa [hq : QPanic Q] {d : Nat} {op : Op} {v : Value} (i : Nat) (ho : ol[i]? = some ⟨some d, op, ty, pos, af, none⟩) (h : HU l P N ds ol fuel (listed.setIfInBounds i true) Q ((d, v) :: E) w0 H)
  (hp : POp P N ds E op ty v := by exact popA)
  (hs : (Region.noSelect ol.toArray && Region.free .any ol.toArray listed i && (Region.ready .any ol.toArray listed).contains i) = true := by kernel_rfl)
  (hn : notU l i = true := by exact rfl)
  (hi : callsB op = false := by exact rfl)
  (hd : Nat.blt d N = true := by exact rfl) : HU l P N ds ol (fuel + 1) listed Q E w0 H := fun w hM a ha => by
 simp only [Bool.and_eq_true] at hs
 have ho' : ol.toArray[i]? = some ⟨some d, op, ty, pos, af, none⟩ := by simpa using ho
 have hyf : YieldsFenced P ol.toArray ⟨some d, op, ty, pos, af, none⟩ v a := ⟨.inl ⟨rfl, fun w => hp a ha _ _ _ _ _⟩, fun w => by
  unfold Oper.about
  cases op with
  | call c =>
   obtain ⟨cal, args, ats⟩ := c
   cases cal with
   | builtin b => simp [resolve, Target.leads]
   | value f => cases hi
   | invoke f m => cases hi
  | _ => rfl⟩
 exact anyU_first (YieldsFenced P ol.toArray ⟨some d, op, ty, pos, af, none⟩ v) (fun _ => True) (cellsU_dn hn) (fun _ _ _ _ _ _ => trivial) (fun hy _ _ hk => hy.wpOpIn rfl ho' hk)
  (fun hj hap hy h => wpOpIn_put rfl hj hap (fun cs b => Region.noSelect_spec hs.1.1 i _ cs b ho') (fun cs b => Region.noSelect_spec hs.1.1 _ _ cs b hj) (fun c a w => hq.is c a _ _ w) hy h) fuel listed a w
  (Region.free_spec ho' hs.1.2) (by simpa using hs.2) hyf trivial (h w hM _ (ha.put hd v))
theorem HU.ld [hq : QPanic Q] {d s : Nat} {t : TypeId} {x : Operand} {ad : Addr} {v : Value} [hat : ATy P t false] (i : Nat) (ho : ol[i]? = some ⟨some d, .load t x, ty, pos, af, none⟩) (hx : Env.ev E x = some (.pointer (some ad))) (hc : (s, ad, v) ∈ l)
  (h : HU l P N ds ol fuel (listed.setIfInBounds i true) Q ((d, v) :: E) w0 H)
  (hb : (behindB ol s i && !listed.getD s true) = true := by kernel_rfl)
  (hne : (match x with | .tmp t => !(Nat.beq t d) | _ => true) = true := by exact rfl)
  (hs : (Region.noSelect ol.toArray && Region.free .any ol.toArray listed i && (Region.ready .any ol.toArray listed).contains i) = true := by kernel_rfl)
  (hn : notU l i = true := by exact rfl)
  (hd : Nat.blt d N = true := by exact rfl) : HU l P N ds ol (fuel + 1) listed Q E w0 H := fun w hM a ha => by
 simp only [Bool.and_eq_true] at hs
 rw [Bool.and_eq_true] at hb
 have ho' : ol.toArray[i]? = some ⟨some d, .load t x, ty, pos, af, none⟩ := by simpa using ho
 have hxd : ∀ d', (some d : Option Nat) = some d' → x ≠ .tmp d' := fun d' hd' e => by cases hd'; subst e; simp at hne
 refine anyU_first (oi := ⟨some d, .load t x, ty, pos, af, none⟩) (fun a' => a'.eval x = a.eval x) (fun listed => listed.getD s true = false) (cellsU_dn hn) (fun listed j hg hi hj hji => unlisted_behind hb.1 hg hi hj) (fun {K a' w' listed'} hy hg hC hk => ?_)
  (fun {j oj K a' w'} hj hap hy h => wpOpIn_mono (fun a'' w'' h3 => ⟨h3.1.trans hy, h3.2⟩) (op_swap rfl rfl hxd hj hap (fun cs b => Region.noSelect_spec hs.1.1 _ _ cs b hj) (fun c a w => hq.is c a _ _ w) h)) fuel listed a w
  (Region.free_spec ho' hs.1.2) (by simpa using hs.2) rfl (by simpa using hb.2) (h w hM _ (ha.put hd v))
 unfold wpOpIn
 rw [ho']
 dsimp only
 rw [if_pos (by simp [Region.wanted])]
 refine ⟨fun _ _ => trivial, ?_⟩
 have h1 : a'.eval x = .pointer (some ad) := hy.trans (ha.ev hx)
 have h2 := hC _ hc hg
 have hrun : (execOp a'.eval ⟨some d, .load t x, ty, pos, af, none⟩).run P w' = .ok (.value v) w' := by
  simp only [execOp, h1, Instr.loadAt, Instr.sureAddr, loadVar, Sem.run_bind, Sem.run_pure]
  simp [run_isAgg, h2]
 rw [semAt_of rfl, hrun]
 exact hk
theorem HU.done (hk : KeepU l listed w0 H) (hr : Region.ready .any ol.toArray listed = []) (h : HX N ds .normal Q E w0 H) : HU l P N ds ol fuel listed Q E w0 H := fun w hM a ha => by
 cases fuel with
 | zero => exact ⟨hk w hM, hr, h w hM a ha⟩
 | succ fuel => exact ⟨hk w hM, fun _ => h w hM a ha, fun i hi => by rw [hr] at hi; cases hi⟩
theorem HU.all (hk : KeepU l listed w0 H) (rs : List Nat) (hr : Region.ready .any ol.toArray listed = rs) (hne : rs.isEmpty = false) (h : AllU l P N ds ol fuel listed Q E w0 H rs) : HU l P N ds ol (fuel + 1) listed Q E w0 H := fun w hM a ha => by
 refine ⟨hk w hM, fun e => (by rw [hr] at e; subst e; cases hne), ?_⟩
 rw [hr]
 clear hr hne
 induction rs with
 | nil => intro i hi; cases hi
 | cons i rs ih =>
  intro j hj
  rcases List.mem_cons.1 hj with rfl | hj
  ·obtain ⟨o, ho, h1⟩ := h.1
   have ho' : ol.toArray[j]? = some o := by simpa using ho
   unfold wpOpIn
   rw [ho']
   have h2 := h1 w hM a ha
   dsimp only
   split
   ·rename_i hw; rw [if_pos hw] at h2; exact h2
   ·rename_i hw; rw [if_neg hw] at h2; exact ⟨fun _ _ => trivial, h2⟩
  ·exact ih h.2 j hj
theorem HU.fold (h : HU l P N ds ol fuel listed Q E w0 H) : HN N ds (AnyU (CellsU l) P ol.toArray Q fuel listed) E w0 H := fun w hM a ha => h w hM a ha
theorem HV.one {op : Op} {d : Option Nat} {i : Nat} (h : H1 P none N ds (AnyU (CellsU l) P ol.toArray Q fuel (listed.setIfInBounds i true)) ⟨d, op, ty, pos, af, none⟩ Q E w0 H) : HV l P N ds ol fuel listed i ⟨d, op, ty, pos, af, none⟩ Q E w0 H := fun w hM a ha => by
 simp only [Region.wanted, if_true]
 exact h w hM a ha
end
end Go.Sx
