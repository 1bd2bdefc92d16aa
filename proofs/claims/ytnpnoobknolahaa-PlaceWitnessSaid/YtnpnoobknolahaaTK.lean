/- Chapter 18: the law PlaceWitness. -/
import Derived.Test.YtnpnoobknolahaaTJ
namespace Go.Sx
open Go Go.Proofs Go.RowKit
attribute [local irreducible] WC WL WX POp Then Again Fn NX W1 WA WO QL RP RA Yld LoopAt HC HL HX HN H1 HA HO HQ HB HP A.blk A.grow A.rd A.obj A.mp AgainH CutH
attribute [local irreducible] A.mq A.mit A.dfrs A.loop mapsA A.land A.pure chk best
set_option maxHeartbeats 4000000 in
theorem placeWitness_fn (v : Value) (X : List St) (y : Di) (set k : Int) (hX : X.length ≤ 9223372036854775807) (hxb : ∀ s ∈ X, s.i64) (hyb : y.b.i64 ∧ i64R y.liars) (hset : i64R set) (hk : i64R k) (w : World) (hT : RdS w v X) :
    Fn Try.prog 5 #[.agg (caseC v y set k).toArray] w fun u w' => u = .bool true ∧ Ext w w' := by
  have h7 := madeN_7 X
  have hoL := ownL_len X set
  have hoK := caseK_in X set k
  have hdi := madeD_in y
  refine enterH (l := [_]) rfl Try.ntmps5 rfl ?_
  repeat' (first | apply HL.fold | apply HA.fold | apply HL.nil | apply HX.n_then | apply HC.seq | apply HC.region | refine HL.pa ?_ | refine HL.ga rfl ?_ | refine HL.na rfl ?_ | refine HL.nu rfl rfl ?_ | apply HC.block | apply HC.skip | apply HC.exit | apply HC.ret | apply HX.e_block | refine HX.e_other rfl ?_ | apply HX.e_then | apply HX.e_again | apply HX.n_block | apply HX.r_then | apply HX.r_block | apply HX.r_again | refine HC.cond_yes rfl ?_ | refine HC.cond_no rfl ?_ | refine HL.one (H1.ldb rfl memA rfl rfl ?_) | refine HC.cond rfl (fun hc => ?_) (fun hc => ?_) | refine HC.cond_b rfl (fun hc => ?_) (fun hc => ?_))
  refine HL.one (H1.boxAgg (cs := caseC v y set k) rfl rfl (fun b3 => ?_))
  repeat' (first | apply HL.fold | apply HA.fold | apply HL.nil | apply HX.n_then | apply HC.seq | apply HC.region | refine HL.pa ?_ | refine HL.ga rfl ?_ | refine HL.na rfl ?_ | refine HL.nu rfl rfl ?_ | apply HC.block | apply HC.skip | apply HC.exit | apply HC.ret | apply HX.e_block | refine HX.e_other rfl ?_ | apply HX.e_then | apply HX.e_again | apply HX.n_block | apply HX.r_then | apply HX.r_block | apply HX.r_again | refine HC.cond_yes rfl ?_ | refine HC.cond_no rfl ?_ | refine HL.one (H1.ldb rfl memA rfl rfl ?_) | refine HC.cond rfl (fun hc => ?_) (fun hc => ?_) | refine HC.cond_b rfl (fun hc => ?_) (fun hc => ?_))
  refine HL.one (H1.callx (vs := []) rfl rfl (fun w' _ => ksane_fn w') ?_)
  repeat' (first | apply HL.fold | apply HA.fold | apply HL.nil | apply HX.n_then | apply HC.seq | apply HC.region | refine HL.pa ?_ | refine HL.ga rfl ?_ | refine HL.na rfl ?_ | refine HL.nu rfl rfl ?_ | apply HC.block | apply HC.skip | apply HC.exit | apply HC.ret | apply HX.e_block | refine HX.e_other rfl ?_ | apply HX.e_then | apply HX.e_again | apply HX.n_block | apply HX.r_then | apply HX.r_block | apply HX.r_again | refine HC.cond_yes rfl ?_ | refine HC.cond_no rfl ?_ | refine HL.one (H1.ldb rfl memA rfl rfl ?_) | refine HC.cond rfl (fun hc => ?_) (fun hc => ?_) | refine HC.cond_b rfl (fun hc => ?_) (fun hc => ?_))
  refine HL.one (H1.ldAgg (vs := caseC v y set k) rfl memA rfl (fun i v hv => by rw [Nat.zero_add]; exact hv) rfl ?_)
  repeat' (first | apply HL.fold | apply HA.fold | apply HL.nil | apply HX.n_then | apply HC.seq | apply HC.region | refine HL.pa ?_ | refine HL.ga rfl ?_ | refine HL.na rfl ?_ | refine HL.nu rfl rfl ?_ | apply HC.block | apply HC.skip | apply HC.exit | apply HC.ret | apply HX.e_block | refine HX.e_other rfl ?_ | apply HX.e_then | apply HX.e_again | apply HX.n_block | apply HX.r_then | apply HX.r_block | apply HX.r_again | refine HC.cond_yes rfl ?_ | refine HC.cond_no rfl ?_ | refine HL.one (H1.ldb rfl memA rfl rfl ?_) | refine HC.cond rfl (fun hc => ?_) (fun hc => ?_) | refine HC.cond_b rfl (fun hc => ?_) (fun hc => ?_))
  refine HL.one (H1.callz (vs := [.agg (caseC v y set k).toArray]) rfl rfl (fun w' hM => kmade_fn v X y set k hX hxb hyb hset hk w' (hT.ext hM.ext)) ?_)
  rintro ⟨⟨aS, cS⟩, ⟨aL, cL⟩⟩ ⟨bL, hbL⟩
  dsimp only [List.cons_append, List.nil_append] at hbL ⊢
  subst hbL
  repeat' (first | apply HL.fold | apply HA.fold | apply HL.nil | apply HX.n_then | apply HC.seq | apply HC.region | refine HL.pa ?_ | refine HL.ga rfl ?_ | refine HL.na rfl ?_ | refine HL.nu rfl rfl ?_ | apply HC.block | apply HC.skip | apply HC.exit | apply HC.ret | apply HX.e_block | refine HX.e_other rfl ?_ | apply HX.e_then | apply HX.e_again | apply HX.n_block | apply HX.r_then | apply HX.r_block | apply HX.r_again | refine HC.cond_yes rfl ?_ | refine HC.cond_no rfl ?_ | refine HL.one (H1.ldb rfl memA rfl rfl ?_) | refine HC.cond rfl (fun hc => ?_) (fun hc => ?_) | refine HC.cond_b rfl (fun hc => ?_) (fun hc => ?_))
  refine HL.one (H1.alloc (cs := [zv 0, zv 0, zv 0, zv 0, zv 0]) rfl rfl (fun b5 => ?_))
  repeat' (first | apply HL.fold | apply HA.fold | apply HL.nil | apply HX.n_then | apply HC.seq | apply HC.region | refine HL.pa ?_ | refine HL.ga rfl ?_ | refine HL.na rfl ?_ | refine HL.nu rfl rfl ?_ | apply HC.block | apply HC.skip | apply HC.exit | apply HC.ret | apply HX.e_block | refine HX.e_other rfl ?_ | apply HX.e_then | apply HX.e_again | apply HX.n_block | apply HX.r_then | apply HX.r_block | apply HX.r_again | refine HC.cond_yes rfl ?_ | refine HC.cond_no rfl ?_ | refine HL.one (H1.ldb rfl memA rfl rfl ?_) | refine HC.cond rfl (fun hc => ?_) (fun hc => ?_) | refine HC.cond_b rfl (fun hc => ?_) (fun hc => ?_))
  refine HL.one (H1.stAgg (cs := [zv 0, zv 0, zv 0, zv 0, zv 0]) (vs := (madeD y).cells) rfl rfl rfl (by unfold Di.cells; intro v hv; simp only [List.mem_cons, List.not_mem_nil, or_false] at hv; rcases hv with rfl | rfl | rfl | rfl | rfl <;> rfl) rplA rfl ?_)
  repeat' (first | apply HL.fold | apply HA.fold | apply HL.nil | apply HX.n_then | apply HC.seq | apply HC.region | refine HL.pa ?_ | refine HL.ga rfl ?_ | refine HL.na rfl ?_ | refine HL.nu rfl rfl ?_ | apply HC.block | apply HC.skip | apply HC.exit | apply HC.ret | apply HX.e_block | refine HX.e_other rfl ?_ | apply HX.e_then | apply HX.e_again | apply HX.n_block | apply HX.r_then | apply HX.r_block | apply HX.r_again | refine HC.cond_yes rfl ?_ | refine HC.cond_no rfl ?_ | refine HL.one (H1.ldb rfl memA rfl rfl ?_) | refine HC.cond rfl (fun hc => ?_) (fun hc => ?_) | refine HC.cond_b rfl (fun hc => ?_) (fun hc => ?_))
  refine HL.one (H1.ldAgg (vs := (madeD y).cells) rfl memA rfl (fun i v hv => by rw [Nat.zero_add]; exact hv) rfl ?_)
  repeat' (first | apply HL.fold | apply HA.fold | apply HL.nil | apply HX.n_then | apply HC.seq | apply HC.region | refine HL.pa ?_ | refine HL.ga rfl ?_ | refine HL.na rfl ?_ | refine HL.nu rfl rfl ?_ | apply HC.block | apply HC.skip | apply HC.exit | apply HC.ret | apply HX.e_block | refine HX.e_other rfl ?_ | apply HX.e_then | apply HX.e_again | apply HX.n_block | apply HX.r_then | apply HX.r_block | apply HX.r_again | refine HC.cond_yes rfl ?_ | refine HC.cond_no rfl ?_ | refine HL.one (H1.ldb rfl memA rfl rfl ?_) | refine HC.cond rfl (fun hc => ?_) (fun hc => ?_) | refine HC.cond_b rfl (fun hc => ?_) (fun hc => ?_))
  refine HL.one (H1.callz1 (An := fun z : Option Addr × Nat => A.grow 3 1 z.1 z.2 (chk (madeS X) (madeD y) (natI (ownL X set)) (caseK X set k)).1.length (ints (natI (chk (madeS X) (madeD y) (natI (ownL X set)) (caseK X set k)).1))) (vs := [.slice aS (madeS X).length cS, .agg (madeD y).cells.toArray, .slice (some ⟨bL, 0, none⟩) (ownL X set).length cL, zv (caseK X set k)]) rfl rfl (fun w' hM => by
    have h1 := hM.gr (a := some ⟨bL, 0, none⟩) (c := cL) memA
    exact check_fn _ (madeS X) (madeD y) _ (natI (ownL X set)) (caseK X set k) (by rw [madeS_len]; omega) (by rw [natI_len]; omega) w' (RdS.own (a := aS) (c := cS) hM memA) h1) ?_)
  rintro ⟨aC, cC⟩ -
  dsimp only
  have hgood : goodP (madeS X) (madeD y) (natI (ownL X set)) (caseK X set k) := (good_nat (madeV X y) (ownL_asc X set) (fun i hi => by rw [madeS_len]; exact ownL_lt hi)).2 hoK
  have hhold := hold_natI' (ownL_asc X set)
  cases hlo : lostP (madeS X) (madeD y) (hold (natI (ownL X set))) ((natI (ownL X set)).length - (caseK X set k).toNat + 1) with
  | none =>
    rw [chk_none hgood hlo]
    repeat' (first | apply HL.fold | apply HA.fold | apply HL.nil | apply HX.n_then | apply HC.seq | apply HC.region | refine HL.pa ?_ | refine HL.ga rfl ?_ | refine HL.na rfl ?_ | refine HL.nu rfl rfl ?_ | apply HC.block | apply HC.skip | apply HC.exit | apply HC.ret | apply HX.e_block | refine HX.e_other rfl ?_ | apply HX.e_then | apply HX.e_again | apply HX.n_block | apply HX.r_then | apply HX.r_block | apply HX.r_again | refine HC.cond_yes rfl ?_ | refine HC.cond_no rfl ?_ | refine HL.one (H1.ldb rfl memA rfl rfl ?_) | refine HC.cond rfl (fun hc => ?_) (fun hc => ?_) | refine HC.cond_b rfl (fun hc => ?_) (fun hc => ?_))
    exact HX.ret1 rfl rfl fun w' hM => ⟨rfl, hM.ext⟩
  | some T =>
  rw [chk_some hgood hlo]
  rw [hhold, natI_len] at hlo
  unfold lostP at hlo
  obtain ⟨hsub, hlen⟩ := mem_combs.1 (List.mem_of_find?_eq_some hlo)
  have hhit : Hit (gS (madeS X)) T (madeD y).left (madeD y).m := by
    have := List.find?_some (p := fun T => hitB (gS (madeS X)) T (madeD y).left (madeD y).m) hlo
    exact hitB_iff.1 this
  have hTasc : T.Pairwise (· < ·) := (ownL_asc X set).sublist hsub
  have hTS : ∀ i ∈ T, i < (madeS X).length := fun i hi => by rw [madeS_len]; exact ownL_lt (hsub.subset hi)
  have hTl := hsub.length_le
  obtain ⟨wa, wb, wc, we, hwit⟩ := wit_of (madeV X y) hTS hhit
  repeat' (first | apply HL.fold | apply HA.fold | apply HL.nil | apply HX.n_then | apply HC.seq | apply HC.region | refine HL.pa ?_ | refine HL.ga rfl ?_ | refine HL.na rfl ?_ | refine HL.nu rfl rfl ?_ | apply HC.block | apply HC.skip | apply HC.exit | apply HC.ret | apply HX.e_block | refine HX.e_other rfl ?_ | apply HX.e_then | apply HX.e_again | apply HX.n_block | apply HX.r_then | apply HX.r_block | apply HX.r_again | refine HC.cond_yes rfl ?_ | refine HC.cond_no rfl ?_ | refine HL.one (H1.ldb rfl memA rfl rfl ?_) | refine HC.cond rfl (fun hc => ?_) (fun hc => ?_) | refine HC.cond_b rfl (fun hc => ?_) (fun hc => ?_))
  refine HC.loop (α := Nat) (fun i => [(3, .bool true), (4, .slice aS (madeS X).length cS), (5, .pointer (some ⟨b5, 0, none⟩)), (6, .slice (some ⟨bL, 0, none⟩) (ownL X set).length cL), (7, zv (caseK X set k)), (8, .slice aC T.length cC), (10, zv (i : Int))])
    (fun _ => [A.grow 3 1 aC cC T.length (ints (natI T)), A.blk b5 (madeD y).cells 24, A.grow 3 1 (some ⟨bL, 0, none⟩) cL (ownL X set).length (ints (natI (ownL X set))), A.grow 54 4 aS cS (madeS X).length ((madeS X).flatMap sc)]) (fun i => i ≤ T.length) (fun i => T.length - i) 0 (Nat.zero_le _) esA (by repeat (first | exact Hs.nil _ | (refine Hs.cons pickA ?_))) ?_
  intro i hi
  by_cases hit : i < T.length
  rotate_left
  · obtain rfl : i = T.length := by omega
    have hlen' : (T.length : Int) = ((ownL X set).length : Int) - caseK X set k + 1 := by omega
    repeat' (first | apply HL.fold | apply HA.fold | apply HL.nil | apply HX.n_then | apply HC.seq | apply HC.region | refine HL.pa ?_ | refine HL.ga rfl ?_ | refine HL.na rfl ?_ | refine HL.nu rfl rfl ?_ | apply HC.block | apply HC.skip | apply HC.exit | apply HC.ret | apply HX.e_block | refine HX.e_other rfl ?_ | apply HX.e_then | apply HX.e_again | apply HX.n_block | apply HX.r_then | apply HX.r_block | apply HX.r_again | refine HC.cond_yes rfl ?_ | refine HC.cond_no rfl ?_ | refine HL.one (H1.ldb rfl memA rfl rfl ?_) | refine HC.cond rfl (fun hc => ?_) (fun hc => ?_) | refine HC.cond_b rfl (fun hc => ?_) (fun hc => ?_))
    refine HL.one (H1.ldAgg (vs := (madeD y).cells) rfl memA rfl (fun i v hv => by rw [Nat.zero_add]; exact hv) rfl ?_)
    repeat' (first | apply HL.fold | apply HA.fold | apply HL.nil | apply HX.n_then | apply HC.seq | apply HC.region | refine HL.pa ?_ | refine HL.ga rfl ?_ | refine HL.na rfl ?_ | refine HL.nu rfl rfl ?_ | apply HC.block | apply HC.skip | apply HC.exit | apply HC.ret | apply HX.e_block | refine HX.e_other rfl ?_ | apply HX.e_then | apply HX.e_again | apply HX.n_block | apply HX.r_then | apply HX.r_block | apply HX.r_again | refine HC.cond_yes rfl ?_ | refine HC.cond_no rfl ?_ | refine HL.one (H1.ldb rfl memA rfl rfl ?_) | refine HC.cond rfl (fun hc => ?_) (fun hc => ?_) | refine HC.cond_b rfl (fun hc => ?_) (fun hc => ?_))
    refine HL.one (H1.callx (vs := [.slice aS (madeS X).length cS, .agg (madeD y).cells.toArray, .slice aC T.length cC]) rfl rfl (fun w' hM => struckBy_fn _ (madeS X) (madeD y) _ T (by rw [madeS_len]; omega) (by omega) hTS (madeV X y) hwit w' (RdS.own (a := aS) (c := cS) hM memA) (hM.gr (a := aC) (c := cC) memA)) ?_)
    repeat' (first | apply HL.fold | apply HA.fold | apply HL.nil | apply HX.n_then | apply HC.seq | apply HC.region | refine HL.pa ?_ | refine HL.ga rfl ?_ | refine HL.na rfl ?_ | refine HL.nu rfl rfl ?_ | apply HC.block | apply HC.skip | apply HC.exit | apply HC.ret | apply HX.e_block | refine HX.e_other rfl ?_ | apply HX.e_then | apply HX.e_again | apply HX.n_block | apply HX.r_then | apply HX.r_block | apply HX.r_again | refine HC.cond_yes rfl ?_ | refine HC.cond_no rfl ?_ | refine HL.one (H1.ldb rfl memA rfl rfl ?_) | refine HC.cond rfl (fun hc => ?_) (fun hc => ?_) | refine HC.cond_b rfl (fun hc => ?_) (fun hc => ?_))
    exact HX.ret1 rfl rfl fun w' hM => ⟨rfl, hM.ext⟩
  refine HC.openg (.head _) (by omega) fun bC hbC => ?_
  subst hbC
  have hin : (T[i] : Int) ∈ natI (ownL X set) := List.mem_map.2 ⟨_, hsub.subset (List.getElem_mem hit), rfl⟩
  have c1 : ∀ H w', Mm w (A.grow 3 1 (some ⟨bC, 0, none⟩) cC T.length (ints (natI T)) :: H) w' → ∀ j (hj : j < T.length), w'.cell? ⟨bC, j, none⟩ = some (zv (T[j] : Int)) := fun H w' hM j hj => Rd.cell0 (hM.gr (.head _)) (natI_get hj)
  repeat' (first | apply HL.fold | apply HA.fold | apply HL.nil | apply HX.n_then | apply HC.seq | apply HC.region | refine HL.pa ?_ | refine HL.ga rfl ?_ | refine HL.na rfl ?_ | refine HL.nu rfl rfl ?_ | apply HC.block | apply HC.skip | apply HC.exit | apply HC.ret | apply HX.e_block | refine HX.e_other rfl ?_ | apply HX.e_then | apply HX.e_again | apply HX.n_block | apply HX.r_then | apply HX.r_block | apply HX.r_again | refine HC.cond_yes rfl ?_ | refine HC.cond_no rfl ?_ | refine HL.one (H1.ldb rfl memA rfl rfl ?_) | refine HC.cond rfl (fun hc => ?_) (fun hc => ?_) | refine HC.cond_b rfl (fun hc => ?_) (fun hc => ?_))
  by_cases h0 : i = 0
  · subst h0
    refine HC.anyC ([(⟨bC, 0, none⟩, zv (T[0] : Int))]) rfl ?_
    refine HB.pa 0 rfl ?_
    refine HB.pa 1 rfl ?_
    refine HB.pa 2 rfl ?_
    refine HB.pa 3 rfl ?_
    refine HB.ld 4 rfl rfl memD ?_
    refine HB.all (by exact Keep.cons (fun w' hM => c1 _ w' hM 0 hit) Keep.nil) [5] (by kernel_rfl) rfl ⟨⟨_, rfl, ?_⟩, trivial⟩
    refine HP.one ?_
    refine H1.call0 (vs := [.slice (some ⟨bL, 0, none⟩) (ownL X set).length cL, zv (T[0] : Int)]) rfl rfl (fun w' hM => by
        have h1 := hM.gr (a := some ⟨bL, 0, none⟩) (c := cL) memA
        exact khas_fn _ (natI (ownL X set)) _ (by rw [natI_len]; omega) w' h1) ?_
    rw [decide_eq_true hin]
    apply HB.fold
    refine HB.pa 6 rfl ?_
    refine HB.pa 7 rfl ?_
    first | refine HB.ga 8 rfl rfl ?_ | refine HB.na 8 rfl rfl ?_ | refine HB.nu 8 rfl rfl ?_
    first | refine HB.ga 9 rfl rfl ?_ | refine HB.na 9 rfl rfl ?_ | refine HB.nu 9 rfl rfl ?_
    first | refine HB.ga 10 rfl rfl ?_ | refine HB.na 10 rfl rfl ?_ | refine HB.nu 10 rfl rfl ?_
    first | refine HB.ga 11 rfl rfl ?_ | refine HB.na 11 rfl rfl ?_ | refine HB.nu 11 rfl rfl ?_
    first | refine HB.ga 12 rfl rfl ?_ | refine HB.na 12 rfl rfl ?_ | refine HB.nu 12 rfl rfl ?_
    first | refine HB.ga 13 rfl rfl ?_ | refine HB.na 13 rfl rfl ?_ | refine HB.nu 13 rfl rfl ?_
    first | refine HB.ga 14 rfl rfl ?_ | refine HB.na 14 rfl rfl ?_ | refine HB.nu 14 rfl rfl ?_
    first | refine HB.ga 15 rfl rfl ?_ | refine HB.na 15 rfl rfl ?_ | refine HB.nu 15 rfl rfl ?_
    first | refine HB.ga 16 rfl rfl ?_ | refine HB.na 16 rfl rfl ?_ | refine HB.nu 16 rfl rfl ?_
    first | refine HB.ga 17 rfl rfl ?_ | refine HB.na 17 rfl rfl ?_ | refine HB.nu 17 rfl rfl ?_
    first | refine HB.ga 18 rfl rfl ?_ | refine HB.na 18 rfl rfl ?_ | refine HB.nu 18 rfl rfl ?_
    first | refine HB.ga 19 rfl rfl ?_ | refine HB.na 19 rfl rfl ?_ | refine HB.nu 19 rfl rfl ?_
    first | refine HB.ga 20 rfl rfl ?_ | refine HB.na 20 rfl rfl ?_ | refine HB.nu 20 rfl rfl ?_
    first | refine HB.ga 21 rfl rfl ?_ | refine HB.na 21 rfl rfl ?_ | refine HB.nu 21 rfl rfl ?_
    refine HB.pa 22 rfl ?_
    refine HB.done (by exact Keep.cons (fun w' hM => c1 _ w' hM 0 hit) Keep.nil) (by kernel_rfl) ?_
    repeat' (first | apply HL.fold | apply HA.fold | apply HL.nil | apply HX.n_then | apply HC.seq | apply HC.region | refine HL.pa ?_ | refine HL.ga rfl ?_ | refine HL.na rfl ?_ | refine HL.nu rfl rfl ?_ | apply HC.block | apply HC.skip | apply HC.exit | apply HC.ret | apply HX.e_block | refine HX.e_other rfl ?_ | apply HX.e_then | apply HX.e_again | apply HX.n_block | apply HX.r_then | apply HX.r_block | apply HX.r_again | refine HC.cond_yes rfl ?_ | refine HC.cond_no rfl ?_ | refine HL.one (H1.ldb rfl memA rfl rfl ?_) | refine HC.cond rfl (fun hc => ?_) (fun hc => ?_) | refine HC.cond_b rfl (fun hc => ?_) (fun hc => ?_))
    exact HX.again 1 (by omega) (by omega) esA (by repeat (first | exact Hs.nil _ | (refine Hs.cons pickA ?_)))
  · obtain ⟨j, rfl⟩ : ∃ j, i = j + 1 := ⟨i - 1, by omega⟩
    have hj : j < T.length := by omega
    have hlt : T[j] < T[j + 1] := List.pairwise_iff_getElem.1 hTasc j (j + 1) hj hit (by omega)
    have hlt' : ¬ (T[j + 1] : Int) ≤ (T[j] : Int) := by omega
    refine HC.anyC ([(⟨bC, j + 1, none⟩, zv (T[j + 1] : Int)), (⟨bC, j, none⟩, zv (T[j] : Int))]) rfl ?_
    refine HB.pa 0 rfl ?_
    refine HB.pa 1 rfl ?_
    refine HB.pa 2 rfl ?_
    refine HB.pa 3 rfl ?_
    refine HB.ld 4 rfl rfl memD ?_
    refine HB.all (by exact Keep.cons (fun w' hM => c1 _ w' hM (j + 1) hit) (Keep.cons (fun w' hM => c1 _ w' hM j hj) Keep.nil)) [5] (by kernel_rfl) rfl ⟨⟨_, rfl, ?_⟩, trivial⟩
    refine HP.one ?_
    refine H1.call0 (vs := [.slice (some ⟨bL, 0, none⟩) (ownL X set).length cL, zv (T[j + 1] : Int)]) rfl rfl (fun w' hM => by
        have h1 := hM.gr (a := some ⟨bL, 0, none⟩) (c := cL) memA
        exact khas_fn _ (natI (ownL X set)) _ (by rw [natI_len]; omega) w' h1) ?_
    rw [decide_eq_true hin]
    apply HB.fold
    refine HB.pa 6 rfl ?_
    refine HB.pa 7 rfl ?_
    first | refine HB.ga 8 rfl rfl ?_ | refine HB.na 8 rfl rfl ?_ | refine HB.nu 8 rfl rfl ?_
    first | refine HB.ga 9 rfl rfl ?_ | refine HB.na 9 rfl rfl ?_ | refine HB.nu 9 rfl rfl ?_
    first | refine HB.ga 10 rfl rfl ?_ | refine HB.na 10 rfl rfl ?_ | refine HB.nu 10 rfl rfl ?_
    first | refine HB.ga 11 rfl rfl ?_ | refine HB.na 11 rfl rfl ?_ | refine HB.nu 11 rfl rfl ?_
    first | refine HB.ga 12 rfl rfl ?_ | refine HB.na 12 rfl rfl ?_ | refine HB.nu 12 rfl rfl ?_
    first | refine HB.ga 13 rfl rfl ?_ | refine HB.na 13 rfl rfl ?_ | refine HB.nu 13 rfl rfl ?_
    first | refine HB.ga 15 rfl rfl ?_ | refine HB.na 15 rfl rfl ?_ | refine HB.nu 15 rfl rfl ?_
    first | refine HB.ga 16 rfl rfl ?_ | refine HB.na 16 rfl rfl ?_ | refine HB.nu 16 rfl rfl ?_
    refine HB.all (by exact Keep.cons (fun w' hM => c1 _ w' hM (j + 1) hit) (Keep.cons (fun w' hM => c1 _ w' hM j hj) Keep.nil)) [14, 17] (by kernel_rfl) rfl ⟨⟨_, rfl, ?_⟩, ⟨_, rfl, ?_⟩, trivial⟩
    · refine HP.one_a rfl ?_
      refine H1.ldw rfl (fun w' hM => c1 _ w' hM (j + 1) hit) rfl ?_
      apply HB.fold
      refine HB.all (by exact Keep.cons (fun w' hM => c1 _ w' hM (j + 1) hit) (Keep.cons (fun w' hM => c1 _ w' hM j hj) Keep.nil)) [17] (by kernel_rfl) rfl ⟨⟨_, rfl, ?_⟩, trivial⟩
      refine HP.one_a rfl ?_
      refine H1.pa (v := zv (j : Int)) ?_ (by
          rw [show (j : Int) = ((j + 1 : Nat) : Int) - 1 from by omega]
          first
            | (apply POp.move; rfl)
            | (apply POp.assign; rfl)
            | (apply POp.extract; rfl; rfl)
            | (apply POp.len_slice; rfl)
            | (apply POp.len_string; rfl)
            | (apply POp.lss; rfl; rfl)
            | (apply POp.leq; rfl; rfl)
            | (apply POp.gtr; rfl; rfl)
            | (apply POp.geq; rfl; rfl)
            | (apply POp.eql; rfl; rfl)
            | (apply POp.neq; rfl; rfl)
            | (apply POp.not_d; rfl)
            | (apply POp.not_b; rfl)
            | (apply POp.add; rfl; rfl; omega; omega)
            | (apply POp.sub; rfl; rfl; omega; omega)
            | (apply POp.xor; rfl; rfl; (first | with_reducible exact cst _ | with_reducible exact lit _ | exact rfl); (first | with_reducible exact cst _ | with_reducible exact lit _ | exact rfl); (first | omega | assumption | decide | (refine Nat.lt_of_le_of_lt (Nat.shiftRight_le _ _) ?_; omega) | (refine Nat.lt_of_le_of_lt Nat.and_le_right ?_; omega) | (refine Nat.lt_of_le_of_lt Nat.and_le_left ?_; omega) | (refine Nat.xor_lt_two_pow (n := 63) ?_ ?_ <;> omega)); (first | omega | assumption | decide | (refine Nat.lt_of_le_of_lt (Nat.shiftRight_le _ _) ?_; omega) | (refine Nat.lt_of_le_of_lt Nat.and_le_right ?_; omega) | (refine Nat.lt_of_le_of_lt Nat.and_le_left ?_; omega) | (refine Nat.xor_lt_two_pow (n := 63) ?_ ?_ <;> omega)))
            | (apply POp.xor8; rfl; rfl; (first | with_reducible exact cst _ | with_reducible exact lit _ | exact rfl); (first | with_reducible exact cst _ | with_reducible exact lit _ | exact rfl); (first | omega | assumption); (first | omega | assumption))
            | (apply POp.and; rfl; rfl; (first | with_reducible exact cst _ | with_reducible exact lit _ | exact rfl); (first | with_reducible exact cst _ | with_reducible exact lit _ | exact rfl); (first | omega | assumption | decide | (refine Nat.lt_of_le_of_lt (Nat.shiftRight_le _ _) ?_; omega) | (refine Nat.lt_of_le_of_lt Nat.and_le_right ?_; omega) | (refine Nat.lt_of_le_of_lt Nat.and_le_left ?_; omega) | (refine Nat.xor_lt_two_pow (n := 63) ?_ ?_ <;> omega)); (first | omega | assumption | decide | (refine Nat.lt_of_le_of_lt (Nat.shiftRight_le _ _) ?_; omega) | (refine Nat.lt_of_le_of_lt Nat.and_le_right ?_; omega) | (refine Nat.lt_of_le_of_lt Nat.and_le_left ?_; omega) | (refine Nat.xor_lt_two_pow (n := 63) ?_ ?_ <;> omega)))
            | (apply POp.or; rfl; rfl; (first | with_reducible exact cst _ | with_reducible exact lit _ | exact rfl); (first | with_reducible exact cst _ | with_reducible exact lit _ | exact rfl); (first | omega | assumption | decide | (refine Nat.lt_of_le_of_lt (Nat.shiftRight_le _ _) ?_; omega) | (refine Nat.lt_of_le_of_lt Nat.and_le_right ?_; omega) | (refine Nat.lt_of_le_of_lt Nat.and_le_left ?_; omega) | (refine Nat.xor_lt_two_pow (n := 63) ?_ ?_ <;> omega)); (first | omega | assumption | decide | (refine Nat.lt_of_le_of_lt (Nat.shiftRight_le _ _) ?_; omega) | (refine Nat.lt_of_le_of_lt Nat.and_le_right ?_; omega) | (refine Nat.lt_of_le_of_lt Nat.and_le_left ?_; omega) | (refine Nat.xor_lt_two_pow (n := 63) ?_ ?_ <;> omega)))
            | (apply POp.shr; rfl; rfl; (first | with_reducible exact cst _ | with_reducible exact lit _ | exact rfl); (first | with_reducible exact cst _ | with_reducible exact lit _ | exact rfl); omega)
            | (apply POp.shl; rfl; rfl; (first | with_reducible exact cst _ | with_reducible exact lit _ | exact rfl); (first | with_reducible exact cst _ | with_reducible exact lit _ | exact rfl); omega; (first | omega | assumption | decide | (refine Nat.lt_of_le_of_lt (Nat.shiftRight_le _ _) ?_; omega) | (refine Nat.lt_of_le_of_lt Nat.and_le_right ?_; omega) | (refine Nat.lt_of_le_of_lt Nat.and_le_left ?_; omega) | (refine Nat.xor_lt_two_pow (n := 63) ?_ ?_ <;> omega)))
            | (apply POp.quo; rfl; rfl; omega; omega; omega)
            | (apply POp.rem; rfl; rfl; omega; omega)
            | (apply POp.min_int; rfl; rfl)
            | (apply POp.max_int; rfl; rfl)
            | (apply POp.conv_i64; rfl; omega; omega)
            | (apply POp.index_slice; rfl; rfl; omega; omega; (first | (simp only [Nat.zero_add, Nat.add_zero, Nat.mul_one, Int.toNat_natCast, Int.reduceToNat, Nat.reduceMul, Nat.reduceAdd]; done) | (simp only [Nat.zero_add, Nat.add_zero, Nat.mul_one, Int.toNat_natCast, Int.reduceToNat, Nat.reduceMul, Nat.reduceAdd]; rfl) | rfl))
            | (apply POp.index_array; rfl; rfl; omega; omega; (first | (simp only [Nat.zero_add, Nat.add_zero, Nat.mul_one, Int.toNat_natCast, Int.reduceToNat, Nat.reduceMul, Nat.reduceAdd]; done) | (simp only [Nat.zero_add, Nat.add_zero, Nat.mul_one, Int.toNat_natCast, Int.reduceToNat, Nat.reduceMul, Nat.reduceAdd]; rfl) | rfl))
            | (apply POp.makeFunc; rfl; rfl)
            | (apply POp.index_string; rfl; rfl; (first | with_reducible exact cst _ | with_reducible exact lit _ | exact rfl); omega)
            | (apply POp.sub_lh; rfl; rfl; rfl; omega; omega; omega)
            | (apply POp.sub_h; rfl; rfl; omega; omega)
            | (apply POp.sub_l; rfl; rfl; omega; omega)
            | (apply POp.seql; rfl; rfl)
            | (apply POp.sneq; rfl; rfl)
            | (apply POp.conv_u8; rfl; omega; omega)
            | (apply POp.mul; rfl; rfl; omega; omega)
            | (refine POp.pick_t rfl ?_ rfl; (first | with_reducible rfl | assumption | (simp only [Bool.not_true, Bool.not_false]; done) | (simp only [decide_eq_true_eq, decide_eq_false_iff_not, Bool.not_true, Bool.not_false, not_true_eq_false, not_false_eq_true, reduceCtorEq]; first | done | assumption | omega)))
            | (refine POp.pick_f rfl ?_ rfl; (first | with_reducible rfl | assumption | (simp only [Bool.not_true, Bool.not_false]; done) | (simp only [decide_eq_true_eq, decide_eq_false_iff_not, Bool.not_true, Bool.not_false, not_true_eq_false, not_false_eq_true, reduceCtorEq]; first | done | assumption | omega)))
            | (apply POp.neg; rfl; omega; omega)
            | (apply POp.cat; rfl; rfl; omega)
            | (apply POp.beql; rfl; rfl)
            | (apply POp.bneq; rfl; rfl)
            | (apply POp.field; rfl; rfl)
            | (refine POp.fieldAddr rfl rfl)
            | (apply POp.cut_h; rfl; rfl; omega; omega))
      apply HB.fold
      first | refine HB.ga 18 rfl rfl ?_ | refine HB.na 18 rfl rfl ?_ | refine HB.nu 18 rfl rfl ?_
      refine HB.all (by exact Keep.cons (fun w' hM => c1 _ w' hM (j + 1) hit) (Keep.cons (fun w' hM => c1 _ w' hM j hj) Keep.nil)) [19] (by kernel_rfl) rfl ⟨⟨_, rfl, ?_⟩, trivial⟩
      refine HP.one_a rfl ?_
      refine H1.ldw rfl (fun w' hM => c1 _ w' hM j hj) rfl ?_
      apply HB.fold
      first | refine HB.ga 20 rfl rfl ?_ | refine HB.na 20 rfl rfl ?_ | refine HB.nu 20 rfl rfl ?_
      first | refine HB.ga 21 rfl rfl ?_ | refine HB.na 21 rfl rfl ?_ | refine HB.nu 21 rfl rfl ?_
      refine HB.pa 22 rfl ?_
      refine HB.done (by exact Keep.cons (fun w' hM => c1 _ w' hM (j + 1) hit) (Keep.cons (fun w' hM => c1 _ w' hM j hj) Keep.nil)) (by kernel_rfl) ?_
      repeat' (first | apply HL.fold | apply HA.fold | apply HL.nil | apply HX.n_then | apply HC.seq | apply HC.region | refine HL.pa ?_ | refine HL.ga rfl ?_ | refine HL.na rfl ?_ | refine HL.nu rfl rfl ?_ | apply HC.block | apply HC.skip | apply HC.exit | apply HC.ret | apply HX.e_block | refine HX.e_other rfl ?_ | apply HX.e_then | apply HX.e_again | apply HX.n_block | apply HX.r_then | apply HX.r_block | apply HX.r_again | refine HC.cond_yes rfl ?_ | refine HC.cond_no rfl ?_ | refine HL.one (H1.ldb rfl memA rfl rfl ?_) | refine HC.cond rfl (fun hc => ?_) (fun hc => ?_) | refine HC.cond_b rfl (fun hc => ?_) (fun hc => ?_))
      exact HX.again (j + 1 + 1) (by omega) (by omega) esA (by repeat (first | exact Hs.nil _ | (refine Hs.cons pickA ?_)))
    · refine HP.one_a rfl ?_
      refine H1.pa (v := zv (j : Int)) ?_ (by
          rw [show (j : Int) = ((j + 1 : Nat) : Int) - 1 from by omega]
          first
            | (apply POp.move; rfl)
            | (apply POp.assign; rfl)
            | (apply POp.extract; rfl; rfl)
            | (apply POp.len_slice; rfl)
            | (apply POp.len_string; rfl)
            | (apply POp.lss; rfl; rfl)
            | (apply POp.leq; rfl; rfl)
            | (apply POp.gtr; rfl; rfl)
            | (apply POp.geq; rfl; rfl)
            | (apply POp.eql; rfl; rfl)
            | (apply POp.neq; rfl; rfl)
            | (apply POp.not_d; rfl)
            | (apply POp.not_b; rfl)
            | (apply POp.add; rfl; rfl; omega; omega)
            | (apply POp.sub; rfl; rfl; omega; omega)
            | (apply POp.xor; rfl; rfl; (first | with_reducible exact cst _ | with_reducible exact lit _ | exact rfl); (first | with_reducible exact cst _ | with_reducible exact lit _ | exact rfl); (first | omega | assumption | decide | (refine Nat.lt_of_le_of_lt (Nat.shiftRight_le _ _) ?_; omega) | (refine Nat.lt_of_le_of_lt Nat.and_le_right ?_; omega) | (refine Nat.lt_of_le_of_lt Nat.and_le_left ?_; omega) | (refine Nat.xor_lt_two_pow (n := 63) ?_ ?_ <;> omega)); (first | omega | assumption | decide | (refine Nat.lt_of_le_of_lt (Nat.shiftRight_le _ _) ?_; omega) | (refine Nat.lt_of_le_of_lt Nat.and_le_right ?_; omega) | (refine Nat.lt_of_le_of_lt Nat.and_le_left ?_; omega) | (refine Nat.xor_lt_two_pow (n := 63) ?_ ?_ <;> omega)))
            | (apply POp.xor8; rfl; rfl; (first | with_reducible exact cst _ | with_reducible exact lit _ | exact rfl); (first | with_reducible exact cst _ | with_reducible exact lit _ | exact rfl); (first | omega | assumption); (first | omega | assumption))
            | (apply POp.and; rfl; rfl; (first | with_reducible exact cst _ | with_reducible exact lit _ | exact rfl); (first | with_reducible exact cst _ | with_reducible exact lit _ | exact rfl); (first | omega | assumption | decide | (refine Nat.lt_of_le_of_lt (Nat.shiftRight_le _ _) ?_; omega) | (refine Nat.lt_of_le_of_lt Nat.and_le_right ?_; omega) | (refine Nat.lt_of_le_of_lt Nat.and_le_left ?_; omega) | (refine Nat.xor_lt_two_pow (n := 63) ?_ ?_ <;> omega)); (first | omega | assumption | decide | (refine Nat.lt_of_le_of_lt (Nat.shiftRight_le _ _) ?_; omega) | (refine Nat.lt_of_le_of_lt Nat.and_le_right ?_; omega) | (refine Nat.lt_of_le_of_lt Nat.and_le_left ?_; omega) | (refine Nat.xor_lt_two_pow (n := 63) ?_ ?_ <;> omega)))
            | (apply POp.or; rfl; rfl; (first | with_reducible exact cst _ | with_reducible exact lit _ | exact rfl); (first | with_reducible exact cst _ | with_reducible exact lit _ | exact rfl); (first | omega | assumption | decide | (refine Nat.lt_of_le_of_lt (Nat.shiftRight_le _ _) ?_; omega) | (refine Nat.lt_of_le_of_lt Nat.and_le_right ?_; omega) | (refine Nat.lt_of_le_of_lt Nat.and_le_left ?_; omega) | (refine Nat.xor_lt_two_pow (n := 63) ?_ ?_ <;> omega)); (first | omega | assumption | decide | (refine Nat.lt_of_le_of_lt (Nat.shiftRight_le _ _) ?_; omega) | (refine Nat.lt_of_le_of_lt Nat.and_le_right ?_; omega) | (refine Nat.lt_of_le_of_lt Nat.and_le_left ?_; omega) | (refine Nat.xor_lt_two_pow (n := 63) ?_ ?_ <;> omega)))
            | (apply POp.shr; rfl; rfl; (first | with_reducible exact cst _ | with_reducible exact lit _ | exact rfl); (first | with_reducible exact cst _ | with_reducible exact lit _ | exact rfl); omega)
            | (apply POp.shl; rfl; rfl; (first | with_reducible exact cst _ | with_reducible exact lit _ | exact rfl); (first | with_reducible exact cst _ | with_reducible exact lit _ | exact rfl); omega; (first | omega | assumption | decide | (refine Nat.lt_of_le_of_lt (Nat.shiftRight_le _ _) ?_; omega) | (refine Nat.lt_of_le_of_lt Nat.and_le_right ?_; omega) | (refine Nat.lt_of_le_of_lt Nat.and_le_left ?_; omega) | (refine Nat.xor_lt_two_pow (n := 63) ?_ ?_ <;> omega)))
            | (apply POp.quo; rfl; rfl; omega; omega; omega)
            | (apply POp.rem; rfl; rfl; omega; omega)
            | (apply POp.min_int; rfl; rfl)
            | (apply POp.max_int; rfl; rfl)
            | (apply POp.conv_i64; rfl; omega; omega)
            | (apply POp.index_slice; rfl; rfl; omega; omega; (first | (simp only [Nat.zero_add, Nat.add_zero, Nat.mul_one, Int.toNat_natCast, Int.reduceToNat, Nat.reduceMul, Nat.reduceAdd]; done) | (simp only [Nat.zero_add, Nat.add_zero, Nat.mul_one, Int.toNat_natCast, Int.reduceToNat, Nat.reduceMul, Nat.reduceAdd]; rfl) | rfl))
            | (apply POp.index_array; rfl; rfl; omega; omega; (first | (simp only [Nat.zero_add, Nat.add_zero, Nat.mul_one, Int.toNat_natCast, Int.reduceToNat, Nat.reduceMul, Nat.reduceAdd]; done) | (simp only [Nat.zero_add, Nat.add_zero, Nat.mul_one, Int.toNat_natCast, Int.reduceToNat, Nat.reduceMul, Nat.reduceAdd]; rfl) | rfl))
            | (apply POp.makeFunc; rfl; rfl)
            | (apply POp.index_string; rfl; rfl; (first | with_reducible exact cst _ | with_reducible exact lit _ | exact rfl); omega)
            | (apply POp.sub_lh; rfl; rfl; rfl; omega; omega; omega)
            | (apply POp.sub_h; rfl; rfl; omega; omega)
            | (apply POp.sub_l; rfl; rfl; omega; omega)
            | (apply POp.seql; rfl; rfl)
            | (apply POp.sneq; rfl; rfl)
            | (apply POp.conv_u8; rfl; omega; omega)
            | (apply POp.mul; rfl; rfl; omega; omega)
            | (refine POp.pick_t rfl ?_ rfl; (first | with_reducible rfl | assumption | (simp only [Bool.not_true, Bool.not_false]; done) | (simp only [decide_eq_true_eq, decide_eq_false_iff_not, Bool.not_true, Bool.not_false, not_true_eq_false, not_false_eq_true, reduceCtorEq]; first | done | assumption | omega)))
            | (refine POp.pick_f rfl ?_ rfl; (first | with_reducible rfl | assumption | (simp only [Bool.not_true, Bool.not_false]; done) | (simp only [decide_eq_true_eq, decide_eq_false_iff_not, Bool.not_true, Bool.not_false, not_true_eq_false, not_false_eq_true, reduceCtorEq]; first | done | assumption | omega)))
            | (apply POp.neg; rfl; omega; omega)
            | (apply POp.cat; rfl; rfl; omega)
            | (apply POp.beql; rfl; rfl)
            | (apply POp.bneq; rfl; rfl)
            | (apply POp.field; rfl; rfl)
            | (refine POp.fieldAddr rfl rfl)
            | (apply POp.cut_h; rfl; rfl; omega; omega))
      apply HB.fold
      first | refine HB.ga 18 rfl rfl ?_ | refine HB.na 18 rfl rfl ?_ | refine HB.nu 18 rfl rfl ?_
      refine HB.all (by exact Keep.cons (fun w' hM => c1 _ w' hM (j + 1) hit) (Keep.cons (fun w' hM => c1 _ w' hM j hj) Keep.nil)) [14, 19] (by kernel_rfl) rfl ⟨⟨_, rfl, ?_⟩, ⟨_, rfl, ?_⟩, trivial⟩
      · refine HP.one_a rfl ?_
        refine H1.ldw rfl (fun w' hM => c1 _ w' hM (j + 1) hit) rfl ?_
        apply HB.fold
        refine HB.all (by exact Keep.cons (fun w' hM => c1 _ w' hM (j + 1) hit) (Keep.cons (fun w' hM => c1 _ w' hM j hj) Keep.nil)) [19] (by kernel_rfl) rfl ⟨⟨_, rfl, ?_⟩, trivial⟩
        refine HP.one_a rfl ?_
        refine H1.ldw rfl (fun w' hM => c1 _ w' hM j hj) rfl ?_
        apply HB.fold
        first | refine HB.ga 20 rfl rfl ?_ | refine HB.na 20 rfl rfl ?_ | refine HB.nu 20 rfl rfl ?_
        first | refine HB.ga 21 rfl rfl ?_ | refine HB.na 21 rfl rfl ?_ | refine HB.nu 21 rfl rfl ?_
        refine HB.pa 22 rfl ?_
        refine HB.done (by exact Keep.cons (fun w' hM => c1 _ w' hM (j + 1) hit) (Keep.cons (fun w' hM => c1 _ w' hM j hj) Keep.nil)) (by kernel_rfl) ?_
        repeat' (first | apply HL.fold | apply HA.fold | apply HL.nil | apply HX.n_then | apply HC.seq | apply HC.region | refine HL.pa ?_ | refine HL.ga rfl ?_ | refine HL.na rfl ?_ | refine HL.nu rfl rfl ?_ | apply HC.block | apply HC.skip | apply HC.exit | apply HC.ret | apply HX.e_block | refine HX.e_other rfl ?_ | apply HX.e_then | apply HX.e_again | apply HX.n_block | apply HX.r_then | apply HX.r_block | apply HX.r_again | refine HC.cond_yes rfl ?_ | refine HC.cond_no rfl ?_ | refine HL.one (H1.ldb rfl memA rfl rfl ?_) | refine HC.cond rfl (fun hc => ?_) (fun hc => ?_) | refine HC.cond_b rfl (fun hc => ?_) (fun hc => ?_))
        exact HX.again (j + 1 + 1) (by omega) (by omega) esA (by repeat (first | exact Hs.nil _ | (refine Hs.cons pickA ?_)))
      · refine HP.one_a rfl ?_
        refine H1.ldw rfl (fun w' hM => c1 _ w' hM j hj) rfl ?_
        apply HB.fold
        refine HB.all (by exact Keep.cons (fun w' hM => c1 _ w' hM (j + 1) hit) (Keep.cons (fun w' hM => c1 _ w' hM j hj) Keep.nil)) [14] (by kernel_rfl) rfl ⟨⟨_, rfl, ?_⟩, trivial⟩
        refine HP.one_a rfl ?_
        refine H1.ldw rfl (fun w' hM => c1 _ w' hM (j + 1) hit) rfl ?_
        apply HB.fold
        first | refine HB.ga 20 rfl rfl ?_ | refine HB.na 20 rfl rfl ?_ | refine HB.nu 20 rfl rfl ?_
        first | refine HB.ga 21 rfl rfl ?_ | refine HB.na 21 rfl rfl ?_ | refine HB.nu 21 rfl rfl ?_
        refine HB.pa 22 rfl ?_
        refine HB.done (by exact Keep.cons (fun w' hM => c1 _ w' hM (j + 1) hit) (Keep.cons (fun w' hM => c1 _ w' hM j hj) Keep.nil)) (by kernel_rfl) ?_
        repeat' (first | apply HL.fold | apply HA.fold | apply HL.nil | apply HX.n_then | apply HC.seq | apply HC.region | refine HL.pa ?_ | refine HL.ga rfl ?_ | refine HL.na rfl ?_ | refine HL.nu rfl rfl ?_ | apply HC.block | apply HC.skip | apply HC.exit | apply HC.ret | apply HX.e_block | refine HX.e_other rfl ?_ | apply HX.e_then | apply HX.e_again | apply HX.n_block | apply HX.r_then | apply HX.r_block | apply HX.r_again | refine HC.cond_yes rfl ?_ | refine HC.cond_no rfl ?_ | refine HL.one (H1.ldb rfl memA rfl rfl ?_) | refine HC.cond rfl (fun hc => ?_) (fun hc => ?_) | refine HC.cond_b rfl (fun hc => ?_) (fun hc => ?_))
        exact HX.again (j + 1 + 1) (by omega) (by omega) esA (by repeat (first | exact Hs.nil _ | (refine Hs.cons pickA ?_)))
end Go.Sx

