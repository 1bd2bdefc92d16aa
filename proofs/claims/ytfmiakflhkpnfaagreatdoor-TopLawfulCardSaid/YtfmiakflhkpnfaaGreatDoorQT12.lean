/- TopLawful: the law. -/
import Derived.Test.YtfmiakflhkpnfaaGreatDoorQT11
import Derived.Test.YtfmiakflhkpnfaaGreatDoorRows
import Derived.ProofKit
import Derived.OpenShut
import Derived.LaidMore
import Derived.Lay
import Derived.SevenTiedAt
import Derived.Stop.Joined
import Derived.Deep.Onto
import Derived.Laws.IdiomArrays
import Derived.Carry
import Derived.Test.YtfmiakflhkpnfaaGreatDoorTie
import Derived.Lib.LaidTab
import Derived.Stop.LaidErr
namespace Go.Sx
open Go Go.Proofs Go.RowKit
theorem hwFB {G G2 : Prop} (x : G2) (hwq : Hold G2 → G := by
  intro hQq
  repeat' (first | refine HL.pa ?_ (POp.geqN rfl rfl (by assumption)) | refine HL.pa ?_ (POp.geqY rfl rfl (by assumption)) | refine HL.pa ?_ (POp.bneF4 rfl rfl rfl) | refine HL.pa ?_ (POp.beqT4 rfl rfl rfl) | refine HL.pa ?_ (POp.nilCheck rfl) | apply HL.fold | apply HA.fold | apply HL.nil | apply HX.n_then | apply HC.seq | apply HC.region | refine HL.pa ?_ | refine HL.ga rfl ?_ | refine HL.na rfl ?_ | refine HL.nu rfl rfl ?_ | apply HC.block | apply HC.skip | apply HC.exit | apply HC.ret | apply HX.e_block | refine HX.e_other rfl ?_ | apply HX.e_then | apply HX.e_again | apply HX.n_block | apply HX.r_then | apply HX.r_block | apply HX.r_again | refine HC.cond_yes rfl ?_ | refine HC.cond_no rfl ?_ | refine HL.one (H1.ldb rfl memA rfl rfl ?_) | refine HC.cond rfl (fun hc => ?_) (fun hc => ?_) | refine HC.cond_b rfl (fun hc => ?_) (fun hc => ?_))
  exact hQq.get) : G := hwq ⟨x⟩
theorem hbFB {G G2 : Prop} (x : G2) (hwq : Hold G2 → G := by
  intro hQq
  repeat' (first | refine HL.pa ?_ (POp.geqN rfl rfl (by assumption)) | refine HL.pa ?_ (POp.geqY rfl rfl (by assumption)) | refine HL.pa ?_ (POp.bneF4 rfl rfl rfl) | refine HL.pa ?_ (POp.beqT4 rfl rfl rfl) | refine HL.pa ?_ (POp.nilCheck rfl) | apply HL.fold | apply HA.fold | apply HL.nil | apply HX.n_then | apply HC.seq | apply HC.region | refine HL.pa ?_ | refine HL.ga rfl ?_ | refine HL.na rfl ?_ | refine HL.nu rfl rfl ?_ | apply HC.skip | apply HC.exit | apply HC.ret | apply HX.e_block | refine HX.e_other rfl ?_ | apply HX.e_then | apply HX.e_again | apply HX.n_block | apply HX.r_then | apply HX.r_block | apply HX.r_again | refine HC.cond_yes rfl ?_ | refine HC.cond_no rfl ?_ | refine HL.one (H1.ldb rfl memA rfl rfl ?_) | refine HC.cond rfl (fun hc => ?_) (fun hc => ?_) | refine HC.cond_b rfl (fun hc => ?_) (fun hc => ?_))
  exact hQq.get) : G := hwq ⟨x⟩
theorem tombT_one (o d : Int) (l : List Nd) (D : List ByteArray) (pk : Int) (z : DelZ) : ∀ v ∈ tombV o d l D pk z, v.oneCell' = true := by
 intro v hv
 simp only [tombV, List.mem_cons, List.not_mem_nil, or_false] at hv
 rcases hv with rfl | rfl | rfl | rfl | rfl | rfl <;> rfl
theorem tomb0_one : ∀ v ∈ tomb0, v.oneCell' = true := by
 intro v hv
 simp only [tomb0, List.mem_cons, List.not_mem_nil, or_false] at hv
 rcases hv with rfl | rfl | rfl | rfl | rfl | rfl <;> rfl
def leftT (l : List Nd) (D : List ByteArray) (pk : Int) : List Nd := ndsP (prN l D (goneL l pk) false)
theorem leftT_ok {l : List Nd} {D : List ByteArray} {pk : Int} (h : okS l D = true) : (leftT l D pk).length ≤ 400000 ∧ ∀ i, i < (leftT l D pk).length → (ndAt (leftT l D pk) i).src.length ≤ 1000000 := by
 obtain ⟨h1, h2, -, -⟩ := ok_sizesT h
 unfold leftT
 rw [prN_nds (okS_facts h).2.1]
 refine ⟨Nat.le_trans (List.length_filter_le _ _) h1, fun i hi => ?_⟩
 have hm := (List.mem_filter.1 (mem_nd.2 ⟨i, hi, rfl⟩)).1
 obtain ⟨j, hj, e⟩ := mem_nd.1 hm
 rw [e]; exact h2 j hj
def thB (l : List Nd) (pk : Int) (k : Nat) : Bool := (l.take k).any fun n => decide (n.pack = pk)
theorem thB_succ {l : List Nd} {pk : Int} {k : Nat} (h : k < l.length) : thB l pk (k + 1) = (thB l pk k || decide ((ndAt l k).pack = pk)) := by
 unfold thB
 have e : l[k]? = some (ndAt l k) := by
  unfold ndAt
  rw [List.getD_eq_getElem?_getD, List.getElem?_eq_getElem h]; rfl
 rw [List.take_add_one, e, List.any_append]
 simp
theorem thB_all (l : List Nd) (pk : Int) : thB l pk l.length = l.any fun n => decide (n.pack = pk) := by unfold thB; rw [List.take_length]
def DayI (l : List Nd) (D : List ByteArray) (pk : Int) (th : Bool) (w : World) (x : Int × Bool × Value) : Prop :=
 0 ≤ x.1 ∧ x.1 ≤ 105 ∧ x.1 % 5 = 0 ∧ (x.2.1 = true → th = true ∧ ∃ U, RdN w x.2.2 (leftT l D pk) U) ∧ (x.1 = 105 → x.2.1 = th)
attribute [local irreducible] WC WL WX POp Then Again Fn NX W1 WA WO QL RP RA Yld LoopAt HC HL HX HN H1 HA HO HQ HB HP A.blk A.grow A.rd A.obj A.mp AgainH CutH
attribute [local irreducible] A.mq A.mit A.all sumS rootP bsA
set_option maxHeartbeats 16000000 in
theorem topLawful_fn (v vy : Value) (rows recs : List (List Int)) (pack fr un rel : Int) (h1 : i64W pack) (h2 : i64W fr) (h3 : i64W un) (h4 : i64W rel) (hrow : ∀ y ∈ rows, y.length = 4 ∧ ∀ z ∈ y, i64W z) (hrec : ∀ y ∈ recs, y.length = 6 ∧ ∀ z ∈ y, i64W z) (w : World) (hG : RoundG w) (hX : RdA 4 w v rows) (hY : RdA 6 w vy recs) :
  Fn Tryz.prog 3 #[v, vy, zv pack, zv fr, zv un, zv rel] w fun u w' => u = .bool true ∧ Ext w w' := by
 refine enterH (l := [_, _, _, _, _, _]) rfl Tryz.ntmps3 rfl ?_
 refine hwFB ?_
 refine HL.one (H1.callx (u := .bool true) (vs := []) rfl rfl (fun w' _ => awake_fn w') ?_)
 refine hwFB ?_
 refine HL.one (H1.callr (vs := [v]) rfl rfl (fun w' hM => made24_fn v rows hrow w' (hX.ext hM.ext)) ?_)
 rintro wa u w1 hMa ⟨⟨vl, vg, U, rfl, hN1, hD1⟩, hxa⟩
 have hx1 : Ext w w1 := hMa.ext.trans hxa
 have hok := made_okT rows
 generalize madeL rows (madeN rows) = l at hN1 hok
 generalize madeD rows (madeN rows) = D at hD1 hok
 obtain ⟨hl, hls, hDl, hDs⟩ := ok_sizesT hok
 have hY1 := hY.ext hx1
 refine hwFB ?_
 refine HL.one (H1.call0 (vs := [zv pack, zv 4]) rfl rfl (fun w' _ => tpick_fn pack 4 h1.1 h1.2 (by decide) w') ?_)
 have q1 := pickI21_lt pack (n := 4) (by decide)
 generalize pickI21 pack 4 = P0 at q1 ⊢
 refine hwFB ?_
 refine HL.one (H1.call0 (vs := [zv fr, zv 40]) rfl rfl (fun w' _ => tpick_fn fr 40 h2.1 h2.2 (by decide) w') ?_)
 have q2 := pickI21_lt fr (n := 40) (by decide)
 generalize pickI21 fr 40 = f at q2 ⊢
 refine hwFB ?_
 refine HL.one (H1.call0 (vs := [zv un, zv 60]) rfl rfl (fun w' _ => tpick_fn un 60 h3.1 h3.2 (by decide) w') ?_)
 have q3 := pickI21_lt un (n := 60) (by decide)
 generalize pickI21 un 60 = n at q3 ⊢
 refine hwFB ?_
 refine HL.one (H1.call0 (vs := [zv rel, zv 60]) rfl rfl (fun w' _ => tpick_fn rel 60 h4.1 h4.2 (by decide) w') ?_)
 have q4 := pickI21_lt rel (n := 60) (by decide)
 generalize pickI21 rel 60 = rl at q4 ⊢
 obtain ⟨pk, hpk⟩ : ∃ p, p = 1 + P0 := ⟨_, rfl⟩
 rw [← hpk]
 have b1 : 1 ≤ pk ∧ pk ≤ 10 := by omega
 have b2 : 0 ≤ f ∧ f ≤ 100 := by omega
 have b3 : 0 ≤ n ∧ n ≤ 100 := by omega
 have b4 : 0 ≤ rl ∧ rl ≤ 100 := by omega
 clear hpk q1
 refine hwFB ?_
 refine HL.one (H1.callz1 (α := (Option Addr × Nat) × List Rc) (V := fun z => .slice z.1.1 z.2.length z.1.2) (An := fun z => A.grow 33 15 z.1.1 z.1.2 z.2.length (rcl z.2)) (I := fun z => z.2.length ≤ 30 ∧ ∀ r ∈ z.2, SomeOk r) (vs := [vy]) rfl rfl (fun w' hM => Some_fn vy recs hrec w' (hY1.ext hM.ext)) ?_)
 rintro ⟨⟨ar, cr⟩, L⟩ ⟨hL30, hLok⟩
 dsimp only at hL30 hLok ⊢
 have hvL : ∀ r ∈ L, ValidR r := fun r hr => (hLok r hr).valid
 clear hLok
 refine hbFB ?_
 refine HC.cut (α := Option Addr × Nat) (fun z => [(2, zv pk), (3, zv f), (4, zv n), (5, zv rl), (13, .bool true), (14, vl), (15, vg), (16, .slice z.1 (L.filter keepT).length z.2)])
  (fun z => [A.grow 33 15 z.1 z.2 (L.filter keepT).length (rcl (L.filter keepT))]) (fun _ => True) ?_ ?_
 ·refine hwFB ?_
  refine HC.grow0 33 15 ?_
  refine HC.loop (α := Nat × Option Addr × Nat) (fun z => [(2, zv pk), (3, zv f), (4, zv n), (5, zv rl), (13, .bool true), (14, vl), (15, vg), (16, .slice z.2.1 ((L.take z.1).filter keepT).length z.2.2), (17, .slice ar L.length cr), (18, zv (z.1 : Int))])
   (fun z => [A.grow 33 15 z.2.1 z.2.2 ((L.take z.1).filter keepT).length (rcl ((L.take z.1).filter keepT)), A.grow 33 15 ar cr L.length (rcl L)]) (fun z => z.1 ≤ L.length) (fun z => L.length - z.1) (0, none, 0) (Nat.zero_le _) esA (by repeat (first | exact Hs.nil _ | (refine Hs.cons pickA ?_))) ?_
  rintro ⟨i, ao, co⟩ hi
  dsimp only at hi ⊢
  by_cases hlt : i < L.length
  rotate_left
  ·obtain rfl : i = L.length := by omega
   rw [List.take_length]
   refine hwFB ?_
   exact HX.cut (ao, co) trivial esA (by repeat (first | exact Hs.nil _ | (refine Hs.cons pickA ?_)))
  have hli : (i : Int) < (L.length : Int) := by omega
  have hll := filtT_len (f := keepT) (l := L) (i := i)
  obtain ⟨r, hr⟩ : ∃ r, L[i]? = some r := ⟨_, List.getElem?_eq_getElem hlt⟩
  have hne : L ≠ [] := fun e => by rw [e] at hlt; cases hlt
  refine HC.openg (e := 33) (a := ar) (xs := rcl L) memA (by omega) ?_
  rintro bl rfl
  by_cases k5 : r.kind = 5
  ·have ho : keepT r = false := by unfold keepT; simp [k5]
   refine hwFB ?_
   refine HL.one (H1.ldg (v := zv r.kind) rfl memA (by simpa using rcl_get hr 0 _ rfl) rfl ?_)
   have hfn := filtT_no (f := keepT) hr ho
   rw [← hfn]
   refine hwFB ?_
   exact HX.again (i + 1, ao, co) hlt (by show L.length - (i + 1) < L.length - i; omega) esA (by repeat (first | exact Hs.nil _ | (refine Hs.cons pickA ?_)))
  by_cases k6 : r.kind = 6
  ·have ho : keepT r = false := by unfold keepT; simp [k6]
   refine hwFB ?_
   refine HL.one (H1.ldg (v := zv r.kind) rfl memA (by simpa using rcl_get hr 0 _ rfl) rfl ?_)
   refine hwFB ?_
   refine HL.one (H1.ldg (v := zv r.kind) rfl memA (by simpa using rcl_get hr 0 _ rfl) rfl ?_)
   have hfn := filtT_no (f := keepT) hr ho
   rw [← hfn]
   refine hwFB ?_
   exact HX.again (i + 1, ao, co) hlt (by show L.length - (i + 1) < L.length - i; omega) esA (by repeat (first | exact Hs.nil _ | (refine Hs.cons pickA ?_)))
  by_cases k8 : r.kind = 8
  ·have ho : keepT r = false := by unfold keepT; simp [k8]
   refine hwFB ?_
   refine HL.one (H1.ldg (v := zv r.kind) rfl memA (by simpa using rcl_get hr 0 _ rfl) rfl ?_)
   refine hwFB ?_
   refine HL.one (H1.ldg (v := zv r.kind) rfl memA (by simpa using rcl_get hr 0 _ rfl) rfl ?_)
   refine hwFB ?_
   refine HL.one (H1.ldg (v := zv r.kind) rfl memA (by simpa using rcl_get hr 0 _ rfl) rfl ?_)
   have hfn := filtT_no (f := keepT) hr ho
   rw [← hfn]
   refine hwFB ?_
   exact HX.again (i + 1, ao, co) hlt (by show L.length - (i + 1) < L.length - i; omega) esA (by repeat (first | exact Hs.nil _ | (refine Hs.cons pickA ?_)))
  have ho : keepT r = true := by unfold keepT; simp [k5, k6, k8]
  refine hwFB ?_
  refine HL.one (H1.ldg (v := zv r.kind) rfl memA (by simpa using rcl_get hr 0 _ rfl) rfl ?_)
  refine hwFB ?_
  refine HL.one (H1.ldg (v := zv r.kind) rfl memA (by simpa using rcl_get hr 0 _ rfl) rfl ?_)
  refine hwFB ?_
  refine HL.one (H1.ldg (v := zv r.kind) rfl memA (by simpa using rcl_get hr 0 _ rfl) rfl ?_)
  have hfy := filtT_yes (f := keepT) hr ho
  refine hwFB ?_
  refine HL.one (H1.ldAggw (vs := rcells r) rfl rfl (fun w' hM i v hv => by obtain ⟨b', o', e1, -, hc⟩ := (hM.recs (l := L) memA).at hne; cases e1; have h := hc _ r hr i v hv; rw [Nat.zero_add] at h; exact h) rfl ?_)
  refine hwFB ?_
  refine HL.one (H1.lit (cs := rcells r) rfl rfl rfl rfl rfl rfl (fun bs => ?_))
  refine hwFB ?_
  refine HL.one (H1.appRecT (e := 33) (l := ((L.take i).filter keepT)) (m := [r]) (a := ao) (c := co) rfl rfl rfl (fun a' c' => by first | ((repeat (first | with_reducible exact Rpl.here | with_reducible apply Rpl.there)); done) | (repeat (first | exact Rpl.here | apply Rpl.there))) (fun w hM => by have hb := hM.blk (b := bs) (cs := rcells r) (e := 33) memA; exact RdR.of_blk (l := [r]) (by rw [show rcl [r] = rcells r from List.append_nil _]; exact hb)) (by simp only [List.length_singleton]; omega) (by decide) rfl (fun a1 c1 => ?_))
  rw [← hfy]
  refine hwFB ?_
  exact HX.again (i + 1, a1, c1) hlt (by show L.length - (i + 1) < L.length - i; omega) esA (by repeat (first | exact Hs.nil _ | (refine Hs.cons pickA ?_)))
 rintro ⟨ao, co⟩ -
 dsimp only
 have hfl : (L.filter keepT).length ≤ 30 := Nat.le_trans (List.length_filter_le _ _) hL30
 refine hwFB ?_
 refine HL.build (cs := rcells (topO pk f)) rfl rfl rfl ?_
 refine hwFB ?_
 refine HL.build (cs := rcells (topH pk n)) rfl rfl rfl ?_
 refine hwFB ?_
 refine HL.build (cs := rcells (topRl rl)) rfl rfl rfl ?_
 refine hwFB ?_
 refine HL.one (H1.lit (zs := rcells rcZ) (pv := [(0, recV (topO pk f)), (1, recV (topH pk n)), (2, recV (topRl rl))]) (cs := rcl [topO pk f, topH pk n, topRl rl]) rfl rfl (lit3T _ _ _) rfl rfl rfl (fun bo => ?_))
 refine hwFB ?_
 refine HL.one (H1.appRecT (e := 33) (l := L.filter keepT) (m := [topO pk f, topH pk n, topRl rl]) (a := ao) (c := co) rfl rfl rfl (fun a' c' => by first | ((repeat (first | with_reducible exact Rpl.here | with_reducible apply Rpl.there)); done) | (repeat (first | exact Rpl.here | apply Rpl.there))) (fun w hM => RdR.of_blk (l := [topO pk f, topH pk n, topRl rl]) (hM.blk (b := bo) memA)) (by show _ + 3 ≤ _; omega) (by decide) rfl (fun a1 c1 => ?_))
 have hTv : ∀ r ∈ topL L pk f n rl, ValidR r := topL_valid hvL b1 b2 b3 b4
 have hTl : (topL L pk f n rl).length ≤ 1000000 := by unfold topL; rw [List.length_append]; show _ + 3 ≤ _; omega
 refine hwFB ?_
 refine HL.one (H1.callr (vs := [.slice a1 (topL L pk f n rl).length c1, zv 100000]) rfl rfl (fun w' hM => of_fn a1 c1 (topL L pk f n rl) hTl (fun r hr => RcOk.of_validT (hTv r hr)) 100000 w' (hM.recs (l := topL L pk f n rl) memA)) ?_)
 rintro wb vb w2 hMb ⟨q, hq, rfl, hMq⟩
 obtain ⟨e7, e4, e5⟩ := topL_base b1 b2 b3 b4 hq
 have hB2 : BaseV w2 (bsV q) (bsL q) := hMq.base (.head _)
 have hx2 : Ext w1 w2 := hMb.ext.trans hMq.ext
 have hN2 := hN1.ext hx2
 have hD2 := hD1.ext hx2
 have hG2 := hG.ext (hx1.trans hx2)
 have l7 : (bsL q 7).length ≤ 1000000 := by rw [e7]; show 1 ≤ _; omega
 have l4 : (bsL q 4).length ≤ 1000000 := by rw [e4]; show 1 ≤ _; omega
 have l5 : (bsL q 5).length ≤ 1000000 := by rw [e5]; show 1 ≤ _; omega
 have hxw2 : Ext w w2 := hx1.trans hx2
 clear hMb hMq hN1 hD1 hq hTv hTl hvL hx2 hx1 hY1 hMa hxa
 obtain ⟨al, cl, rfl, -⟩ := id hN2.shape
 refine hwFB ?_
 refine HL.one (H1.alloc (cs := row 8 fun _ => .slice none 0 0) rfl rfl (fun b19 => ?_))
 refine hwFB ?_
 refine HL.one (H1.stAgg (b := b19) (cs := row 8 fun _ => .slice none 0 0) (vs := row 8 fun i => slot (q i)) rfl rfl (row_len 8 _) rowSlot_one rplA rfl ?_)
 refine hwFB ?_
 refine HC.loop (α := Nat) (fun k => [(2, zv pk), (3, zv f), (4, zv n), (5, zv rl), (13, .bool true), (14, .slice al l.length cl), (15, vg), (19, .pointer (some ⟨b19, 0, none⟩)), (20, .bool (thB l pk k)), (21, zv (k : Int))])
  (fun _ => [A.blk b19 (row 8 fun i => slot (q i)) 35]) (fun k => k ≤ l.length) (fun k => l.length - k) 0 (Nat.zero_le _) esA (by repeat (first | exact Hs.nil _ | (refine Hs.cons pickA ?_))) ?_
 intro k hk
 by_cases hlt : k < l.length
 ·have hn : ((k : Nat) : Int) < (l.length : Int) := by omega
  obtain ⟨b0, off0, rfl, hb⟩ := hN2.cell hlt
  have hc2 := hb k hlt 2 (zv (ndAt l k).pack) rfl
  have hsu := thB_succ (pk := pk) hlt
  cases ht : thB l pk k with
  | true =>
   rw [ht, Bool.true_or] at hsu
   refine hwFB ?_
   exact HX.again (k + 1) hlt (by show l.length - (k + 1) < l.length - k; omega) (by rw [hsu]; repeat (first | exact trivial | refine ⟨rfl, ?_⟩)) (by repeat (first | exact Hs.nil _ | (refine Hs.cons pickA ?_)))
  | false =>
   rw [ht, Bool.false_or] at hsu
   refine hwFB ?_
   refine HL.one (H1.ld0 rfl hc2 rfl ?_)
   refine hwFB ?_
   exact HX.again (k + 1) hlt (by show l.length - (k + 1) < l.length - k; omega) (by rw [hsu]; repeat (first | exact trivial | refine ⟨rfl, ?_⟩)) (by repeat (first | exact Hs.nil _ | (refine Hs.cons pickA ?_)))
 obtain rfl : k = l.length := by omega
 have hn : ¬ ((l.length : Nat) : Int) < (l.length : Int) := by omega
 rw [thB_all]
 have hW := fun d => delQ_top (B := bsL q) (D := D) (d := d) hok b1.1 e7 e4 e5
 unfold wantB at hW
 generalize (l.any fun n => decide (n.pack = pk)) = th at hW ⊢
 refine hwFB ?_
 refine HC.ofW fun w5 hM5 => ?_
 have hc5 : ∀ i v, (row 8 fun i => slot (q i))[i]? = some v → w5.cell? ⟨b19, i, none⟩ = some v := fun i v h => (hM5.blk (b := b19) (e := 35) (.head _)).cell h
 refine WC.loop (α := Int × Bool × Value) (fun x => [(2, zv pk), (3, zv f), (4, zv n), (5, zv rl), (13, .bool true), (14, .slice al l.length cl), (15, vg), (19, .pointer (some ⟨b19, 0, none⟩)), (20, .bool th), (22, x.2.2), (23, .bool x.2.1), (24, zv x.1)]) (fun x w' => Ext w5 w' ∧ DayI l D pk th w' x) (fun x => (105 - x.1).toNat) (0, false, .slice none 0 0) esA ⟨Ext.refl _, Int.le_refl 0, (by show (0 : Int) ≤ 105; decide), rfl, fun h => (by cases h), fun h => (by have h' : (0 : Int) = 105 := h; omega)⟩ ?_
 rintro ⟨d, dn, vf⟩ w6 ⟨hx6, hd0, hd1, hd5, hdn, hfin⟩
 dsimp only at hd0 hd1 hd5 hdn hfin ⊢
 have hx26 : Ext w2 w6 := hM5.ext.trans hx6
 have hc6 : ∀ i v, (row 8 fun i => slot (q i))[i]? = some v → w6.cell? ⟨b19, i, none⟩ = some v := fun i v h => cell_ext hx6 (hc5 i v h)
 have hB6 := hB2.ext hx26
 have hN6 := hN2.ext hx26
 have hD6 := hD2.ext hx26
 have hG6 := hG2.ext hx26
 refine WC.ofH ?_
 by_cases hle : d ≤ 100
 rotate_left
 ·obtain rfl : d = 105 := by omega
  obtain rfl := hfin rfl
  refine hwFB ?_
  exact HX.ret1 rfl rfl fun w' hM => ⟨rfl, hxw2.trans (hx26.trans hM.ext)⟩
 have hQ := hW d hd0 (by omega)
 have hbd : -9223372036854775808 ≤ d + 5 ∧ d + 5 ≤ 9223372036854775807 := by omega
 cases th with
 | false =>
  have hq0 : delQ (bsL q) l D 3 d = none := by rw [hQ]; simp
  refine hwFB ?_
  refine HL.one (H1.ldAggw (b := b19) (vs := row 8 fun i => slot (q i)) rfl (row_len 8 _) (fun w' hM i v hv => by rw [Nat.zero_add]; exact cell_ext hM.ext (hc6 i v hv)) rfl ?_)
  refine hwFB ?_
  refine HL.one (H1.callx (u := delNo) (vs := [bsV q, .slice al l.length cl, vg, zv 3, zv d]) rfl rfl (fun w' hM => delete_no hq0 hl hls hDl hDs l7 l4 l5 w' (hG6.ext hM.ext) (hB6.ext hM.ext) (hN6.ext hM.ext) (hD6.ext hM.ext)) ?_)
  unfold delNo
  refine hwFB ?_
  refine HL.one (H1.alloc (cs := tomb0) rfl rfl (fun b27 => ?_))
  refine hwFB ?_
  refine HL.one (H1.stAgg (b := b27) (cs := tomb0) (vs := tomb0) rfl rfl rfl tomb0_one rplA rfl ?_)
  refine hwFB ?_
  refine HX.ofW fun w8 hM8 => WX.again (d + 5, dn, vf) ⟨hx6.trans hM8.ext, (by show (0 : Int) ≤ d + 5; omega), (by show d + 5 ≤ 105; omega), (by show (d + 5) % 5 = 0; omega), fun h => ⟨(hdn h).1, (hdn h).2.imp fun U hU => hU.ext hM8.ext⟩, ?_⟩ (by show (105 - (d + 5)).toNat < (105 - d).toNat; omega) esA
  intro _
  cases dn with
  | false => rfl
  | true => exact absurd (hdn rfl).1 (by decide)
 | true =>
  by_cases hf : f ≤ d
  rotate_left
  ·have hf1 : ¬ d ≥ f := hf
   have hq0 : delQ (bsL q) l D 3 d = none := by rw [hQ]; simp [hf]
   refine hwFB ?_
   refine HL.one (H1.ldAggw (b := b19) (vs := row 8 fun i => slot (q i)) rfl (row_len 8 _) (fun w' hM i v hv => by rw [Nat.zero_add]; exact cell_ext hM.ext (hc6 i v hv)) rfl ?_)
   refine hwFB ?_
   refine HL.one (H1.callx (u := delNo) (vs := [bsV q, .slice al l.length cl, vg, zv 3, zv d]) rfl rfl (fun w' hM => delete_no hq0 hl hls hDl hDs l7 l4 l5 w' (hG6.ext hM.ext) (hB6.ext hM.ext) (hN6.ext hM.ext) (hD6.ext hM.ext)) ?_)
   unfold delNo
   refine hwFB ?_
   refine HL.one (H1.alloc (cs := tomb0) rfl rfl (fun b27 => ?_))
   refine hwFB ?_
   refine HL.one (H1.stAgg (b := b27) (cs := tomb0) (vs := tomb0) rfl rfl rfl tomb0_one rplA rfl ?_)
   refine hwFB ?_
   refine HX.ofW fun w8 hM8 => WX.again (d + 5, dn, vf) ⟨hx6.trans hM8.ext, (by show (0 : Int) ≤ d + 5; omega), (by show d + 5 ≤ 105; omega), (by show (d + 5) % 5 = 0; omega), fun h => ⟨(hdn h).1, (hdn h).2.imp fun U hU => hU.ext hM8.ext⟩, ?_⟩ (by show (105 - (d + 5)).toNat < (105 - d).toNat; omega) esA
   exact fun h => absurd (show d + 5 = 105 from h) (by omega)
  have hf1 : d ≥ f := hf
  by_cases hu : n < d
  ·have hu1 : d > n := hu
   have hq0 : delQ (bsL q) l D 3 d = some pk := by rw [hQ]; simp [hf, hu]
   refine hwFB ?_
   refine HL.one (H1.ldAggw (b := b19) (vs := row 8 fun i => slot (q i)) rfl (row_len 8 _) (fun w' hM i v hv => by rw [Nat.zero_add]; exact cell_ext hM.ext (hc6 i v hv)) rfl ?_)
   refine hwFB ?_
   refine HL.one (H1.callr (vs := [bsV q, .slice al l.length cl, vg, zv 3, zv d]) rfl rfl (fun w' hM => delete_yes hq0 hl hls hDl hDs l7 l4 l5 w' (hG6.ext hM.ext) (hB6.ext hM.ext) (hN6.ext hM.ext) (hD6.ext hM.ext)) ?_)
   rintro wd u w7 hMd ⟨z, hz, rfl, hMz⟩
   have hx67 : Ext w6 w7 := hMd.ext.trans hMz.ext
   have hF : RdN w7 (.slice z.a1 z.left.length z.c1) (leftT l D pk) (adrZ z.left) := by
    have h := hMz.rdN (a := z.a1) (c := z.c1) (.head _) (.tail _ (.tail _ (.head _)))
    rw [hz] at h
    exact h
   unfold delYes
   refine hwFB ?_
   refine HL.one (H1.alloc (cs := tomb0) rfl rfl (fun b27 => ?_))
   refine hwFB ?_
   refine HL.one (H1.stAgg (b := b27) (cs := tomb0) (vs := tombV 3 d l D pk z) rfl rfl rfl (tombT_one _ _ _ _ _ _) rplA rfl ?_)
   cases dn with
   | false =>
    refine hwFB ?_
    exact HX.ofW fun w8 hM8 => WX.again (d + 5, true, .slice z.a1 z.left.length z.c1) ⟨hx6.trans (hx67.trans hM8.ext), (by show (0 : Int) ≤ d + 5; omega), (by show d + 5 ≤ 105; omega), (by show (d + 5) % 5 = 0; omega), fun _ => ⟨rfl, _, hF.ext hM8.ext⟩, fun _ => rfl⟩ (by show (105 - (d + 5)).toNat < (105 - d).toNat; omega) esA
   | true =>
    obtain ⟨U', hU'⟩ := (hdn rfl).2
    have hlf := leftT_ok (pk := pk) hok
    refine hwFB ?_
    refine HL.one (H1.callx (u := .bool true) (vs := [vf, .slice z.a1 z.left.length z.c1]) rfl rfl (fun w' hM => (sameNodes_fn hlf.1 hlf.2 w' (hU'.ext (hx67.trans hM.ext)) (hF.ext hM.ext)).mono fun u w'' h => ⟨h.1.trans (by rw [eqNs_iff.2 rfl]), h.2⟩) ?_)
    refine hwFB ?_
    exact HX.ofW fun w8 hM8 => WX.again (d + 5, true, .slice z.a1 z.left.length z.c1) ⟨hx6.trans (hx67.trans hM8.ext), (by show (0 : Int) ≤ d + 5; omega), (by show d + 5 ≤ 105; omega), (by show (d + 5) % 5 = 0; omega), fun _ => ⟨rfl, _, hF.ext hM8.ext⟩, fun _ => rfl⟩ (by show (105 - (d + 5)).toNat < (105 - d).toNat; omega) esA
  have hu1 : ¬ d > n := hu
  by_cases hr : rl ≤ d
  ·have hr1 : d ≥ rl := hr
   have hq0 : delQ (bsL q) l D 3 d = some pk := by rw [hQ]; simp [hf, hr]
   refine hwFB ?_
   refine HL.one (H1.ldAggw (b := b19) (vs := row 8 fun i => slot (q i)) rfl (row_len 8 _) (fun w' hM i v hv => by rw [Nat.zero_add]; exact cell_ext hM.ext (hc6 i v hv)) rfl ?_)
   refine hwFB ?_
   refine HL.one (H1.callr (vs := [bsV q, .slice al l.length cl, vg, zv 3, zv d]) rfl rfl (fun w' hM => delete_yes hq0 hl hls hDl hDs l7 l4 l5 w' (hG6.ext hM.ext) (hB6.ext hM.ext) (hN6.ext hM.ext) (hD6.ext hM.ext)) ?_)
   rintro wd u w7 hMd ⟨z, hz, rfl, hMz⟩
   have hx67 : Ext w6 w7 := hMd.ext.trans hMz.ext
   have hF : RdN w7 (.slice z.a1 z.left.length z.c1) (leftT l D pk) (adrZ z.left) := by
    have h := hMz.rdN (a := z.a1) (c := z.c1) (.head _) (.tail _ (.tail _ (.head _)))
    rw [hz] at h
    exact h
   unfold delYes
   refine hwFB ?_
   refine HL.one (H1.alloc (cs := tomb0) rfl rfl (fun b27 => ?_))
   refine hwFB ?_
   refine HL.one (H1.stAgg (b := b27) (cs := tomb0) (vs := tombV 3 d l D pk z) rfl rfl rfl (tombT_one _ _ _ _ _ _) rplA rfl ?_)
   cases dn with
   | false =>
    refine hwFB ?_
    exact HX.ofW fun w8 hM8 => WX.again (d + 5, true, .slice z.a1 z.left.length z.c1) ⟨hx6.trans (hx67.trans hM8.ext), (by show (0 : Int) ≤ d + 5; omega), (by show d + 5 ≤ 105; omega), (by show (d + 5) % 5 = 0; omega), fun _ => ⟨rfl, _, hF.ext hM8.ext⟩, fun _ => rfl⟩ (by show (105 - (d + 5)).toNat < (105 - d).toNat; omega) esA
   | true =>
    obtain ⟨U', hU'⟩ := (hdn rfl).2
    have hlf := leftT_ok (pk := pk) hok
    refine hwFB ?_
    refine HL.one (H1.callx (u := .bool true) (vs := [vf, .slice z.a1 z.left.length z.c1]) rfl rfl (fun w' hM => (sameNodes_fn hlf.1 hlf.2 w' (hU'.ext (hx67.trans hM.ext)) (hF.ext hM.ext)).mono fun u w'' h => ⟨h.1.trans (by rw [eqNs_iff.2 rfl]), h.2⟩) ?_)
    refine hwFB ?_
    exact HX.ofW fun w8 hM8 => WX.again (d + 5, true, .slice z.a1 z.left.length z.c1) ⟨hx6.trans (hx67.trans hM8.ext), (by show (0 : Int) ≤ d + 5; omega), (by show d + 5 ≤ 105; omega), (by show (d + 5) % 5 = 0; omega), fun _ => ⟨rfl, _, hF.ext hM8.ext⟩, fun _ => rfl⟩ (by show (105 - (d + 5)).toNat < (105 - d).toNat; omega) esA
  have hr1 : ¬ d ≥ rl := hr
  have hq0 : delQ (bsL q) l D 3 d = none := by rw [hQ]; simp [hf, hu, hr]
  refine hwFB ?_
  refine HL.one (H1.ldAggw (b := b19) (vs := row 8 fun i => slot (q i)) rfl (row_len 8 _) (fun w' hM i v hv => by rw [Nat.zero_add]; exact cell_ext hM.ext (hc6 i v hv)) rfl ?_)
  refine hwFB ?_
  refine HL.one (H1.callx (u := delNo) (vs := [bsV q, .slice al l.length cl, vg, zv 3, zv d]) rfl rfl (fun w' hM => delete_no hq0 hl hls hDl hDs l7 l4 l5 w' (hG6.ext hM.ext) (hB6.ext hM.ext) (hN6.ext hM.ext) (hD6.ext hM.ext)) ?_)
  unfold delNo
  refine hwFB ?_
  refine HL.one (H1.alloc (cs := tomb0) rfl rfl (fun b27 => ?_))
  refine hwFB ?_
  refine HL.one (H1.stAgg (b := b27) (cs := tomb0) (vs := tomb0) rfl rfl rfl tomb0_one rplA rfl ?_)
  refine hwFB ?_
  refine HX.ofW fun w8 hM8 => WX.again (d + 5, dn, vf) ⟨hx6.trans hM8.ext, (by show (0 : Int) ≤ d + 5; omega), (by show d + 5 ≤ 105; omega), (by show (d + 5) % 5 = 0; omega), fun h => ⟨(hdn h).1, (hdn h).2.imp fun U hU => hU.ext hM8.ext⟩, ?_⟩ (by show (105 - (d + 5)).toNat < (105 - d).toNat; omega) esA
  exact fun h => absurd (show d + 5 = 105 from h) (by omega)
end Go.Sx
/- From a function's contract to a row's statement: arguments that are numbers, arrays of numbers, slices of arrays of numbers, records. -/
namespace Go.Sx
open Go Go.ChangeShapes Go.WideShapes Go.ChangeAt Go.RowKit
section
variable {H : Type} {enc : TypeId × Value → H} {P : Program} {w : World} {b : Nat} {sp : Nat → Bool} {hd : Bool}
theorem args_cons {t : TypeId} {ts : List TypeId} {vs : List Value} {ds : List (DataW H)} {ps : List MemPlace} (h : DataW.TrodAll enc P w b sp hd (t :: ts) vs ds ps) :
  ∃ v vs' d ds' p q, vs = v :: vs' ∧ ds = d :: ds' ∧ ps = p ++ q ∧ DataW.Trod enc P w b sp hd t v d p ∧ DataW.TrodAll enc P w b sp hd ts vs' ds' q := by
 cases vs with
 | nil => exact h.elim
 | cons v vs =>
  cases ds with
  | nil => exact h.elim
  | cons d ds =>
   obtain ⟨p, q, h1, h2, h3⟩ := h
   exact ⟨v, vs, d, ds, p, q, rfl, rfl, h3, h1, h2⟩
theorem args_nil {vs : List Value} {ds : List (DataW H)} {ps : List MemPlace} (h : DataW.TrodAll enc P w b sp hd [] vs ds ps) : vs = [] ∧ ds = [] ∧ ps = [] := by
 cases vs with
 | cons v vs => exact h.elim
 | nil => cases ds with
  | cons d ds => exact h.elim
  | nil => exact ⟨rfl, rfl, h⟩
theorem trodAll_ext (hl : laidOutB P = true) {W W' : World} (hx : Below W.heap.size W W') : ∀ {ts : List TypeId} {vs : List Value} {ds : List (DataW H)} {ps : List MemPlace}, (ts.all fun t => P.readableRec t && decide (t < P.types.size)) = true →
  DataW.TrodAll enc P W 0 (fun _ => true) true ts vs ds ps → (∀ p ∈ ps, p.block < W.heap.size) → ∀ sp : Nat → Bool, (∀ p ∈ ps, sp p.block = true) → DataW.TrodAll enc P W' 0 sp true ts vs ds ps
 | [], [], [], _, _, h, _, _, _ => h
 | [], [], _ :: _, _, _, h, _, _, _ => h.elim
 | [], _ :: _, _, _, _, h, _, _, _ => h.elim
 | _ :: _, [], _, _, _, h, _, _, _ => h.elim
 | _ :: _, _ :: _, [], _, _, h, _, _, _ => h.elim
 | t :: ts, v :: vs, d :: ds, ps, ht, h, hlt, sp, hsp => by
  obtain ⟨p, q, h1, h2, rfl⟩ := h
  simp only [List.all_cons, Bool.and_eq_true, decide_eq_true_eq] at ht
  refine ⟨p, q, ?_, trodAll_ext hl hx ht.2 h2 (fun x hx => hlt x (by simp [hx])) sp (fun x hx => hsp x (by simp [hx])), rfl⟩
  exact WideElems.Trod_stays hl ht.1.1 ht.1.2 h1 (fun x hx' => hx.same (hlt x (by simp [hx']))) (fun x hx' => hsp x (by simp [hx']))
end
end Go.Sx
namespace Go.Sx
open Go Go.Proofs Go.ChangeShapes Go.WideShapes Go.ChangeAt Go.RowKit
theorem ints_rowK (f : Nat → Int) (n : Nat) : ints ((List.range n).map f) = row n fun q => zv (f q) := by
 unfold ints row
 rw [List.map_map]; rfl
theorem post_ext {H : Type} {enc : TypeId × Value → H} {P : Program} {f : Func} {s : ChangeSpec} {apart fresh handsOn again : Bool} {W W' : World} {args : Array Value} {v : Value} {ds gs : List (DataW H)} {before pa pv : List MemPlace} (hx : Ext W W')
  (hW : DataW.Whole enc P f.params.toList s.vars apart W args.toList ds gs before)
  (hres : ∀ (b : Nat) (sp : Nat → Bool) (hd : Bool), DataW.TrodAll enc P W' b sp hd f.resultTypes.toList (v.resultList f.resultTypes.size) (s.fn H (ds ++ gs)).results [])
  (hargs : ∀ sp : Nat → Bool, (∀ p ∈ before, sp p.block = true) → DataW.TrodAll enc P W' 0 sp true f.params.toList args.toList (s.fn H (ds ++ gs)).args pa)
  (hvars : ∀ sp : Nat → Bool, (∀ p ∈ before, sp p.block = true) → DataW.TrodVars enc P W' sp s.vars (s.fn H (ds ++ gs)).vars pv)
  (hps : before = pa ++ pv)
  (hok : ∀ (j : Nat) (t : TypeId) (r : Value), f.resultTypes[j]? = some t → (v.resultList f.resultTypes.size)[j]? = some r → Value.okWide P W' .any 0 t r) :
  s.post enc P f apart fresh handsOn again W args v W' := by
 have hlt : ∀ p ∈ before, p.block < W.heap.size := fun p hp => hW.lt p hp
 have hold : ∀ p ∈ before, (fun b => decide (b < W.heap.size)) p.block = true := fun p hp => by simpa using hW.lt p hp
 refine ⟨ds, gs, before, [], pa, pv, hW, hres _ _ _, hargs _ hold, hvars _ hold, (World.keptBut_refl W _).congr hx.os hx.output hx.block, fun _ => ?_⟩
 obtain ⟨_, _, _, _, _, hz, hn⟩ := hW
 refine ⟨hok, _, _, ([] ++ pa) ++ pv, ⟨[] ++ pa, pv, trodAll_append (hargs _ (fun _ _ => rfl)) (hres _ _ _), hvars _ (fun _ _ => rfl), rfl, ?_, ?_⟩, ?_⟩
 ·intro b off hp
  have hp' : MemPlace.cell b off ∈ before := by rw [hps]; simpa using hp
  rw [World.frozen?_of_block (hx.block b (hlt _ hp'))]
  exact hz b off hp'
 ·intro ha
  have := hn ha
  rw [hps] at this
  simpa using this
 ·intro p hp _
  rw [hps]
  simpa using hp
theorem i64_of {x : Int} (h : (Lit.int .i64 x).wf = true) : i64W x := by
 simp only [Lit.wf, Bool.and_eq_true, decide_eq_true_eq] at h
 have e1 : IntKind.i64.min = -9223372036854775808 := rfl
 have e2 : IntKind.i64.max = 9223372036854775807 := rfl
 rw [e1, e2] at h
 exact h
theorem ownK : ownKnob Tryz.prog.godebug = none := by kernel_rfl
section
variable {H : Type} {enc : TypeId × Value → H} {P : Program} {W : World} {r : Reach} {b0 b : Nat} {sp : Nat → Bool} {hd : Bool} {v : Value} {d : DataW H} {p : List MemPlace}
theorem spot_none {W : World} {a : Addr} {v : Value} (h : W.cell? a = some v) : a = ⟨a.block, a.off, none⟩ ∧ a.block < W.heap.size := by
 unfold World.cell? at h
 split at h
 ·rename_i c e f hc
  split at h
  ·cases h
  ·rename_i hs
   refine ⟨?_, (Array.getElem?_eq_some_iff.1 hc).1⟩
   cases a with
   | mk b o s => cases s <;> simp_all
 ·cases h
def cellInt (W : World) (a : Addr) : Int := match W.cell? a with | some (.int _ z) => z | _ => 0

def intCellsB (P : Program) : Nat → TypeId → Bool
 | 0, _ => false
 | n + 1, t => match P.underlying t with
  | some (.int .i64) => Nat.beq (P.cellsOf t) 1
  | some (.array k e) => intCellsB P n e && Nat.beq (P.cellsOf t) (k * P.cellsOf e) && Nat.ble 1 (P.cellsOf e)
  | some (.struct fs) => (fs.toList.all fun f => intCellsB P n f.type) && (List.range (P.cellsOf t)).all fun j => (List.range fs.size).any fun i => match fs[i]? with | some f => Nat.ble f.offset j && Nat.blt j (f.offset + P.cellsOf f.type) | none => false
  | _ => false
theorem intCells : ∀ (n : Nat) (t : TypeId) (cs : List Value) (fuel : Nat) (x : DataW H × List MemPlace), intCellsB P n t = true → DataW.trod enc P W b sp hd fuel t cs = some x → cs.length = P.cellsOf t ∧ ∀ j, j < cs.length → ∃ z, cs[j]? = some (zv z) ∧ i64W z := by
 intro n
 induction n with
 | zero => intro t cs fuel x h; cases h
 | succ n ih =>
  intro t cs fuel x h hf
  simp only [intCellsB] at h
  split at h
  ·rename_i ht
   have h1 : P.cellsOf t = 1 := Nat.eq_of_beq_eq_true h
   obtain ⟨z, e, -, hw⟩ := DataW.trod_int ht hf
   subst e
   refine ⟨by rw [h1]; rfl, fun j hj => ?_⟩
   have : j = 0 := by simpa using hj
   subst this
   exact ⟨z, rfl, i64_of hw⟩
  ·rename_i k e ht
   rw [Bool.and_eq_true, Bool.and_eq_true] at h
   obtain ⟨⟨h1, h2⟩, h3⟩ := h
   have h2' : P.cellsOf t = k * P.cellsOf e := Nat.eq_of_beq_eq_true h2
   have h3' : 1 ≤ P.cellsOf e := Nat.le_of_ble_eq_true h3
   obtain ⟨xs, m, -, -, hl, hxl, hel⟩ := DataW.trod_array ht hf
   refine ⟨hl, fun j hj => ?_⟩
   rw [h2'] at hl
   have hi : j / P.cellsOf e < k := by
    rw [Nat.div_lt_iff_lt_mul h3']; omega
   have h4 := hel (j / P.cellsOf e) hi
   rw [List.getElem?_eq_getElem (by omega)] at h4
   obtain ⟨hlen, hz⟩ := ih e _ _ _ h1 h4
   have hm := Nat.mod_lt j h3'
   obtain ⟨z, hz, hw⟩ := hz (j % P.cellsOf e) (by rw [hlen]; exact hm)
   refine ⟨z, ?_, hw⟩
   rw [List.getElem?_take, if_pos hm, List.getElem?_drop] at hz
   rw [← hz]
   congr 1
   have := Nat.div_add_mod j (P.cellsOf e)
   rw [Nat.mul_comm] at this
   omega
  ·rename_i fs ht
   rw [Bool.and_eq_true, List.all_eq_true, List.all_eq_true] at h
   obtain ⟨h1, h2⟩ := h
   obtain ⟨xs, m, -, -, hl, hxl, hel⟩ := DataW.trod_struct ht hf
   refine ⟨hl, fun j hj => ?_⟩
   have h3 := h2 j (List.mem_range.2 (by omega))
   rw [List.any_eq_true] at h3
   obtain ⟨i, hi, h4⟩ := h3
   have hi' := List.mem_range.1 hi
   cases hfi : fs[i]? with
   | none => rw [hfi] at h4; cases h4
   | some f =>
    rw [hfi] at h4
    simp only [Bool.and_eq_true] at h4
    have h5 : f.offset ≤ j := Nat.le_of_ble_eq_true h4.1
    have h6 : j < f.offset + P.cellsOf f.type := by simpa [Nat.blt_eq] using h4.2
    have h7 := hel i f hfi
    rw [List.getElem?_eq_getElem (by omega)] at h7
    have hmem : f ∈ fs.toList := by
     rw [← Array.getElem?_toList] at hfi
     exact List.mem_of_getElem? hfi
    obtain ⟨hlen, hz⟩ := ih f.type _ _ _ (h1 f hmem) h7
    obtain ⟨z, hz, hw⟩ := hz (j - f.offset) (by rw [hlen]; omega)
    refine ⟨z, ?_, hw⟩
    rw [List.getElem?_take, if_pos (by omega), List.getElem?_drop, show f.offset + (j - f.offset) = j by omega] at hz
    exact hz
  ·cases h
theorem intRow {n : Nat} {t : TypeId} {cs : List Value} {fuel : Nat} {x : DataW H × List MemPlace} (h : intCellsB P n t = true) (hf : DataW.trod enc P W b sp hd fuel t cs = some x) : ∃ zs : List Int, cs = ints zs ∧ zs.length = P.cellsOf t ∧ ∀ z ∈ zs, i64W z := by
 obtain ⟨hl, hz⟩ := intCells n t cs fuel x h hf
 have hch : ∃ g : Nat → Int, ∀ j, j < cs.length → cs[j]? = some (zv (g j)) ∧ i64W (g j) := by
  refine ⟨fun j => if h : j < cs.length then Classical.choose (hz j h) else 0, fun j hj => ?_⟩
  simp only [dif_pos hj]
  exact Classical.choose_spec (hz j hj)
 obtain ⟨g, hg⟩ := hch
 refine ⟨(List.range cs.length).map g, ?_, by simpa using hl, fun z hz => ?_⟩
 ·rw [ints_rowK]
  apply List.ext_getElem?
  intro j
  by_cases hj : j < cs.length
  ·rw [(hg j hj).1, row_get _ hj]
  ·rw [List.getElem?_eq_none (by omega), List.getElem?_eq_none (by rw [row_len]; omega)]
 ·obtain ⟨j, hj, rfl⟩ := List.mem_map.1 hz
  exact (hg j (List.mem_range.1 hj)).2
theorem sl_rows {t e n fuel sz : Nat} {x : DataW H × List MemPlace} (ht : P.underlying t = some (.slice e)) (he : intCellsB P n e = true) (hce : P.cellsOf e = sz) (hsz : 0 < sz) (hf : DataW.trod enc P W b sp hd fuel t [v] = some x) :
  ∃ rows : List (List Int), (∃ (a : Option Addr) (c : Nat), v = .slice a rows.length c ∧ rows.length ≤ c ∧ (rows = [] ∨ ∃ b off, a = some ⟨b, off, none⟩ ∧ b < W.heap.size ∧ ∀ i rw j u, (rows.map ints)[i]? = some rw → rw[j]? = some u → W.cell? ⟨b, off + i * sz + j, none⟩ = some u)) ∧ (∀ r ∈ rows, r.length = sz ∧ ∀ z ∈ r, i64W z) ∧ rows.length ≤ maxLen := by
 rcases DataW.trod_slice ht hf with ⟨h0, -⟩ | ⟨a', n', c, elems, rest, m, -, hcs, -, hb, hlc, hm, hlen, hel, -, -⟩
 ·cases h0
  exact ⟨[], ⟨_, _, rfl, Nat.le_refl _, .inl rfl⟩, by simp, Nat.zero_le _⟩
 ·cases hcs
  have key : ∀ q, q < n' → ∃ zs : List Int, zs.length = sz ∧ (∀ z ∈ zs, i64W z) ∧ ∀ j u, (ints zs)[j]? = some u → W.cell? ((a'.add (q * sz)).add j) = some u := fun q hq => by
   have h1 := hel q hq
   rw [hce, List.getElem?_eq_getElem (by omega)] at h1
   cases hcl : W.cells? b (a'.add (q * sz)) sz with
   | none => rw [hcl] at h1; cases h1
   | some cs =>
    rw [hcl] at h1
    simp only [Option.bind_some] at h1
    obtain ⟨-, h5, h6⟩ := World.cells?_some hcl
    obtain ⟨zs, rfl, hl, hz⟩ := intRow he h1
    refine ⟨zs, by rw [hl, hce], hz, fun j u hu => ?_⟩
    have hj : j < sz := by
     have := (List.getElem?_eq_some_iff.1 hu).1
     rw [ints_len, hl, hce] at this; exact this
    rw [h6 j hj]; exact hu
  by_cases hn0 : n' = 0
  ·subst hn0
   exact ⟨[], ⟨_, _, rfl, Nat.zero_le _, .inl rfl⟩, by simp, Nat.zero_le _⟩
  ·have hch : ∃ Z : Nat → List Int, ∀ q, q < n' → (Z q).length = sz ∧ (∀ z ∈ Z q, i64W z) ∧ ∀ j u, (ints (Z q))[j]? = some u → W.cell? ((a'.add (q * sz)).add j) = some u := by
    refine ⟨fun q => if h : q < n' then Classical.choose (key q h) else [], fun q hq => ?_⟩
    simp only [dif_pos hq]
    exact Classical.choose_spec (key q hq)
   obtain ⟨Z, hZ⟩ := hch
   have h0 := hZ 0 (by omega)
   have hz0 := h0.2.2 0 _ (ints_get (by rw [h0.1]; exact hsz))
   rw [Nat.zero_mul, show (a'.add 0).add 0 = a' by simp [Addr.add]] at hz0
   obtain ⟨ha, hblk⟩ := spot_none hz0
   have hadd : ∀ q j, (a'.add (q * sz)).add j = ⟨a'.block, a'.off + q * sz + j, none⟩ := fun q j => by rw [ha, add_lit, add_lit]
   refine ⟨(List.range n').map Z, ⟨some a', c, by simp, by simpa using hlc, .inr ⟨a'.block, a'.off, congrArg some ha, hblk, fun i rw' j u hi hu => ?_⟩⟩, fun r hr => ?_, by simpa using (by omega : n' ≤ maxLen)⟩
   ·rw [List.getElem?_map, List.getElem?_map] at hi
    have hin : i < n' := by
     refine Classical.byContradiction fun hn => ?_
     rw [List.getElem?_eq_none (by rw [List.length_range]; omega)] at hi
     cases hi
    rw [List.getElem?_range hin] at hi
    simp only [Option.map_some, Option.some.injEq] at hi
    subst hi
    have := (hZ i hin).2.2 j u hu
    rwa [hadd] at this
   ·obtain ⟨q, hq, rfl⟩ := List.mem_map.1 hr
    have := hZ q (List.mem_range.1 hq)
    exact ⟨this.1, this.2.1⟩
end
end Go.Sx
namespace Go.Sx
open Go Go.Proofs Go.ChangeShapes Go.WideShapes Go.ChangeAt Go.RowKit
section
variable {H : Type} {enc : TypeId × Value → H} {W : World} {r : Reach} {b0 b : Nat} {sp : Nat → Bool} {hd : Bool} {v : Value} {d : DataW H} {p : List MemPlace}
theorem open_intK {t : TypeId} {P : Program} (ht : P.underlying t = some (.int .i64)) (hv : Value.okWide P W r b0 t v) (h : DataW.Trod enc P W b sp hd t v d p) : ∃ x : Int, v = zv x ∧ i64W x := by
 obtain ⟨z, rfl⟩ := okWide_int ht hv
 obtain ⟨fuel, hf⟩ := h
 have hf' : DataW.trod enc P W b sp hd fuel t [.int .i64 z] = some (d, p) := hf
 obtain ⟨z', e, -, hw⟩ := DataW.trod_int ht hf'
 cases e
 exact ⟨z, rfl, i64_of hw⟩
set_option maxRecDepth 100000 in
theorem open_rowsK {t e sz : TypeId} (ht : Tryz.prog.underlying t = some (.slice e)) (hi : intCellsB Tryz.prog 3 e = true) (hc : Tryz.prog.cellsOf e = sz) (hsz : 0 < sz) (hv : Value.okWide Tryz.prog W r b0 t v) (h : DataW.Trod enc Tryz.prog W b sp hd t v d p) :
  ∃ rows : List (List Int), RdA sz W v rows ∧ (∀ r ∈ rows, r.length = sz ∧ ∀ z ∈ r, i64W z) ∧ rows.length ≤ maxLen := by
 obtain ⟨fuel, hf⟩ := h
 obtain ⟨a, n, c, rfl⟩ := okWide_slice ht hv
 have hcells : (Value.slice a n c).cells.toList = [Value.slice a n c] := rfl
 rw [hcells] at hf
 exact sl_rows ht hi hc hsz hf
end
end Go.Sx
/- Chapter 24: the laid variables. -/
namespace Go.Sx
open Go Go.Proofs Go.ChangeShapes Go.WideShapes Go.ChangeAt Go.RowKit
def kZ : List Int := kL.map fun x => ((x.toNat : Nat) : Int)
theorem kZ_data : (YtfmiakflhkpnfaaGreatDoor.Rows.laid_evergreen_digest_round : DataW Unit) = Lib.tabData .u32 kZ := by kernel_rfl
def laid1 : List (String × DataW Unit) := [("evergreen/digest.round", YtfmiakflhkpnfaaGreatDoor.Rows.laid_evergreen_digest_round)]
end Go.Sx
/- TopLawful: the laid variables. -/
namespace Go.Sx
open Go Go.Proofs Go.ChangeShapes Go.WideShapes Go.ChangeAt Go.RowKit
def laidT : List (String × DataW Unit) := [("unicode/utf8.acceptRanges", YtfmiakflhkpnfaaGreatDoor.Rows.laid_unicode_utf8_acceptRanges), ("evergreen/digest.round", YtfmiakflhkpnfaaGreatDoor.Rows.laid_evergreen_digest_round), ("unicode.CaseRanges", YtfmiakflhkpnfaaGreatDoor.Rows.laid_unicode_CaseRanges), ("unicode/utf8.first", YtfmiakflhkpnfaaGreatDoor.Rows.laid_unicode_utf8_first)]
theorem laidT_plain {W : World} (h : laidMetH Tryz.prog laidT W) : laidMet Tryz.prog laidT W := by
 rwa [MakeChecks.laidMetH_plain _ _ _ (by kernel_rfl)] at h
theorem round_of_laidT {W : World} (h : laidMetH Tryz.prog laidT W) : RoundG W := by
 have h1 := (laidT_plain h).tail
 have h2 : laidMet Tryz.prog (("evergreen/digest.round", Lib.tabData .u32 kZ) :: [("unicode.CaseRanges", YtfmiakflhkpnfaaGreatDoor.Rows.laid_unicode_CaseRanges), ("unicode/utf8.first", YtfmiakflhkpnfaaGreatDoor.Rows.laid_unicode_utf8_first)]) W := by
  rw [← kZ_data]; exact h1
 have hT := Lib.tabIs_of_head (g := 0) (by kernel_rfl) (by kernel_rfl) Tryz.underlying295 Tryz.underlying126 (by kernel_rfl) (by kernel_rfl) h2
 intro i v hv
 have hlen : kZ.length = 64 := by kernel_rfl
 have hi : i < 64 := by
  have := (List.getElem?_eq_some_iff.1 hv).1
  unfold ws at this
  rw [List.length_map] at this
  exact this
 have hc := hT.cell (g := 0) (by kernel_rfl) i (by rw [hlen]; exact hi)
 rw [hc]
 unfold ws at hv
 rw [List.getElem?_map, List.getElem?_eq_getElem (by exact hi)] at hv
 rw [← hv]
 have hk : i < kL.length := hi
 have : kZ.getD i 0 = ((kL[i].toNat : Nat) : Int) := by unfold kZ; simp [hk]
 rw [this]; rfl
end Go.Sx
