/- Chapter 24: the reference's leaves of what is no state, and its Root: the walk. -/
import Derived.Test.YtehehfcmanccjaaGreatDoorQI12
import Derived.Test.YtehehfcmanccjaaGreatDoorRows
import Derived.ProofKit
import Derived.OpenShut
import Derived.LaidMore
import Derived.Lay
import Derived.SevenTiedAt
import Derived.Stop.Joined
import Derived.Deep.Onto
import Derived.Laws.IdiomArrays
import Derived.Carry
import Derived.Test.YtehehfcmanccjaaGreatDoorTie
import Derived.Lib.LaidTab
import Derived.Stop.LaidErr
namespace Go.Sx
open Go Go.Proofs Go.RowKit
theorem notOk {l : List Nd} {D : List ByteArray} (h : okS l D = false) (hv : validN l = true) (hl : l.length = D.length) : ¬ ∀ i, i < D.length → (getB D i).size = 32 := fun hh => by
 have := okS_of (validN_iff.1 hv) hl (fun d hd => by
  obtain ⟨i, hi, e⟩ := List.getElem_of_mem hd
  have := hh i hi
  unfold getB at this
  rw [List.getD_eq_getElem?_getD, List.getElem?_eq_getElem hi, e] at this
  exact this)
 rw [h] at this; cases this
attribute [local irreducible] WC WL WX POp Then Again Fn NX W1 WA WO QL RP RA Yld LoopAt HC HL HX HN H1 HA HO HQ HB HP A.blk A.grow A.rd A.obj A.mp AgainH CutH
attribute [local irreducible] A.mq A.mit A.all leafB sumS rootP
set_option maxHeartbeats 2000000 in
theorem leavesNo_fn {v g : Value} {l : List Nd} {D : List ByteArray} {U : Nat → Value} (hno : okS l D = false) (hl : l.length ≤ 400000) (hls : ∀ i, i < l.length → (ndAt l i).src.length ≤ 1000000) (hD : D.length ≤ 1000000) (hDs : ∀ d ∈ D, d.size ≤ 1000) (w : World) (hR : RdN w v l U) (hS : Rd w g (strs D)) :
  Fn Tryz.prog 17 #[v, g] w fun u w' => u = .tuple #[.slice none 0 0, .bool false] ∧ Ext w w' := by
 obtain ⟨a, c, rfl, hc, -⟩ := id hR.shape
 obtain ⟨a2, c2, rfl⟩ : ∃ a' c', g = .slice a' D.length c' := by
  obtain ⟨a', c', h1, -⟩ := id hS
  rw [strs_len] at h1
  exact ⟨a', c', h1⟩
 refine enterH (l := [_, _]) rfl Tryz.ntmps17 rfl ?_
 refine hwNB ?_
 refine HL.one (H1.callx (vs := [_]) rfl rfl (fun w' hM => valid24ref_fn hl hls w' (hR.ext hM.ext)) ?_)
 cases hv : validN l with
 | false =>
  refine hwNB ?_
  exact HX.ret2 rfl rfl rfl fun w' hM => ⟨rfl, hM.ext⟩
 | true =>
 by_cases hld0 : l.length = D.length
 rotate_left
 ·have hld : ((l.length : Nat) : Int) ≠ (D.length : Int) := by omega
  refine hwNB ?_
  exact HX.ret2 rfl rfl rfl fun w' hM => ⟨rfl, hM.ext⟩
 have hvp := validN_iff.1 hv
 have hbad := notOk hno hv hld0
 have hld : ¬ ((l.length : Nat) : Int) ≠ (D.length : Int) := by omega
 have hld2 : ((l.length : Nat) : Int) = (D.length : Int) := by omega
 refine hwNB ?_
 refine HC.grow0 9 1 ?_
 refine HC.loop (α := Nat × Option Addr × Nat) (fun q => [(0, .slice a l.length c), (1, .slice a2 D.length c2), (7, .slice q.2.1 q.1 q.2.2), (8, zv (q.1 : Int))]) (fun q => [A.grow 9 1 q.2.1 q.2.2 q.1 (strs (((l.zip D).take q.1).map leafP))]) (fun q => q.1 ≤ l.length ∧ ∀ i, i < q.1 → (getB D i).size = 32) (fun q => l.length - q.1) (0, none, 0) ⟨Nat.zero_le _, fun i hi => absurd hi (Nat.not_lt_zero _)⟩ esA (by repeat (first | exact Hs.nil _ | (refine Hs.cons pickA ?_))) ?_
 rintro ⟨k, az, cz⟩ ⟨hk, hI⟩
 dsimp only at hk hI ⊢
 by_cases hlt : k < l.length
 rotate_left
 ·exact absurd (fun i hi => hI i (by omega)) hbad
 have hn : ((k : Nat) : Int) < (l.length : Int) := by omega
 have hn2 : ((k : Nat) : Int) < (D.length : Int) := by omega
 have hkD : k < D.length := by omega
 obtain ⟨b0, off0, rfl, hb⟩ := hR.cell hlt
 have hcell := hb k hlt
 obtain ⟨b2, off2, rfl⟩ := rd_addr hS hkD
 have hcd := hS.cell (strs_getB hkD)
 have hsd := hDs _ (getB_mem hkD)
 have hsrc := hR.src k hlt
 have hnk := nd_ok hvp hlt
 have hI2 : (getB D k).size = 32 → ∀ i, i < k + 1 → (getB D i).size = 32 := fun h i hi => by
  by_cases e : i = k
  ·rw [e]; exact h
  ·exact hI i (by omega)
 have hst : strs (((l.zip D).take k).map leafP) ++ [.string (leafB (ndAt l k) (getB D k))] = strs (((l.zip D).take (k + 1)).map leafP) := by rw [zip_take hld0 hlt, List.map_append, strs_snoc]; rfl
 generalize getB D k = d at hcd hsd hst hI2
 generalize ndAt l k = nd at hcell hsrc hnk hst
 generalize U k = us at hcell hsrc
 by_cases hd32 : d.size = 32
 rotate_left
 ·have hs0 : ¬ ((d.size : Nat) : Int) = 32 := by omega
  refine hwNB ?_
  refine HL.one (H1.ld0 rfl hcd rfl ?_)
  refine hwNB ?_
  exact HX.ret2 rfl rfl rfl fun w' hM => ⟨rfl, hM.ext⟩
 have hs0 : ((d.size : Nat) : Int) = 32 := by omega
 refine hwNB ?_
 refine HL.one (H1.ld0 rfl hcd rfl ?_)
 refine hwNB ?_
 refine HC.anyC ([(⟨b2, off2 + k, none⟩, .string d)]) rfl ?_
 refine HB.pa 0 rfl ?_
 refine HB.pa 1 rfl ?_
 refine HB.pa 2 rfl ?_
 refine HB.pa 3 rfl ?_
 refine HB.pa 5 rfl ?_
 refine HB.pa 6 rfl ?_
 refine HB.pa 7 rfl ?_
 refine HB.ld 8 rfl rfl memD ?_
 refine HB.all keepA [4] (by kernel_rfl) rfl ⟨⟨_, rfl, ?_⟩, trivial⟩
 refine HP.one ?_
 refine H1.ldAggw (vs := ndC nd us) rfl rfl (fun w' hM j u hu => cell_ext hM.ext (hcell j u hu)) rfl ?_
 apply HB.fold
 refine HB.all keepA [9] (by kernel_rfl) rfl ⟨⟨_, rfl, ?_⟩, trivial⟩
 refine HP.one ?_
 refine H1.callx (vs := [_, _]) rfl rfl (fun w' hM => leaf24_fn nd us d hnk (by omega) w' (hsrc.ext hM.ext)) ?_
 apply HB.fold
 refine HB.all keepA [10] (by kernel_rfl) rfl ⟨⟨_, rfl, ?_⟩, trivial⟩
 refine HP.one ?_
 refine H1.lit (cs := [.string (leafB nd d)]) rfl rfl rfl rfl rfl rfl (fun b10 => ?_)
 apply HB.fold
 refine HB.all keepA [11] (by kernel_rfl) rfl ⟨⟨_, rfl, ?_⟩, trivial⟩
 refine HP.one ?_
 refine H1.app1 (u := .string (leafB nd d)) rfl rfl (fun _ _ => by first | ((repeat (first | with_reducible exact Rpl.here | with_reducible apply Rpl.there)); done) | (repeat (first | exact Rpl.here | apply Rpl.there))) memA rfl rfl (by omega) rfl rfl (fun a' c' => ?_)
 rw [hst]
 apply HB.fold
 refine HB.pa 12 rfl ?_
 refine HB.done keepA (by kernel_rfl) ?_
 refine hwNB ?_
 exact HX.again (k + 1, some ⟨a', 0, none⟩, c') ⟨hlt, hI2 hd32⟩ (by show l.length - (k + 1) < l.length - k; omega) esA (by repeat (first | exact Hs.nil _ | (refine Hs.cons pickA ?_)))
theorem rootR24_fn {v g : Value} {l : List Nd} {D : List ByteArray} {U : Nat → Value} (hl : l.length ≤ 400000) (hls : ∀ i, i < l.length → (ndAt l i).src.length ≤ 1000000) (hD : D.length ≤ 1000000) (hDs : ∀ d ∈ D, d.size ≤ 1000) (w : World) (hR : RdN w v l U) (hS : Rd w g (strs D)) :
  Fn Tryz.prog 25 #[v, g] w fun u w' => u = (if okS l D = true then .tuple #[.string (rootP (l.zip D)), zv 0] else .tuple #[.string ⟨#[]⟩, zv 240]) ∧ Ext w w' := by
 refine enterH (l := [_, _]) rfl Tryz.ntmps25 rfl ?_
 refine hwNB ?_
 cases hok : okS l D with
 | false =>
  refine HL.one (H1.callx (vs := [_, _]) rfl rfl (fun w' hM => leavesNo_fn hok hl hls hD hDs w' (hR.ext hM.ext) (hS.ext hM.ext)) ?_)
  refine hwNB ?_
  exact HX.ret2 rfl rfl rfl fun w' hM => ⟨by rw [if_neg (by decide)], hM.ext⟩
 | true =>
  obtain ⟨L, hL⟩ : ∃ L, L = (l.zip D).map leafP := ⟨_, rfl⟩
  have hLs := leafs_size hok
  have hl4 := (okS_valid hok).len
  have hLl : L.length ≤ 400 := by rw [hL, List.length_map, List.length_zip]; omega
  have hr : rootP (l.zip D) = mroot L := by rw [hL, ← rootS_eq]; with_unfolding_all rfl
  rw [← hL] at hLs
  rw [hr]
  refine HL.one (H1.callz (vs := [_, _]) rfl rfl (fun w' hM => leavesL_fn hok hL w' (hR.ext hM.ext) (hS.ext hM.ext)) ?_)
  rintro ⟨a1, c1⟩ -
  dsimp only
  refine hwNB ?_
  refine HL.one (H1.callx (vs := [_]) rfl rfl (fun w' hM => root02_fn _ L a1 c1 rfl (by omega) (fun s hs => by have := hLs s hs; omega) w' (hM.gr (a := a1) (c := c1) memA)) ?_)
  refine hwNB ?_
  exact HX.ret2 rfl rfl rfl fun w' hM => ⟨by rw [if_pos rfl], hM.ext⟩
end Go.Sx
/- Chapter 24: the reference's SameTombstone, Delete: the walk. -/
namespace Go.Sx
open Go Go.Proofs Go.RowKit
theorem Fn.shaped {P : Program} {f : FuncId} {args : Array Value} {w : World} {n : Nat} {e : TypeId} {xs : List Value} (h : Fn P f args w fun u w' => ∃ z : Option Addr × Nat, True ∧ u = .slice z.1 n z.2 ∧ Mm w [A.grow e 1 z.1 z.2 n xs] w') :
  Fn P f args w fun u w' => ∃ z : Option Addr × Nat, (n = 0 ∨ ∃ b, z.1 = some ⟨b, 0, none⟩) ∧ u = .slice z.1 n z.2 ∧ Mm w [A.grow e 1 z.1 z.2 n xs] w' := h.mono fun u w' hh => by
 obtain ⟨z, -, h2, h3⟩ := hh
 obtain ⟨a, c, e1, e2⟩ := own_shape (h3.own (.head _))
 cases e1
 exact ⟨z, e2, h2, h3⟩
theorem any_takeI {l : List Int} {k : Nat} (h : k < l.length) (p : Int → Bool) : (l.take (k + 1)).any p = ((l.take k).any p || p (getI l k)) := by
 rw [getI_take h, List.any_append]; simp
def gHeld (B : Nat → List Rc) (d : Int) (l : List Nd) (x : Int) : Bool := l.any fun n => decide (n.id = x) && heldN B d n
theorem gHeld_at {B : Nat → List Rc} {d : Int} {l : List Nd} (hv : ValidP l) {j : Nat} (hj : j < l.length) : gHeld B d l (ndAt l j).id = heldN B d (ndAt l j) := any_ix hv hj _
theorem delQ_held {B : Nat → List Rc} {l : List Nd} {D : List ByteArray} {o d : Int} {r : Rc} (h0 : okS l D = true) (h1 : ordF (B 7) o = some r) (h2 : r.start ≤ d) (h3 : 0 ≤ d) (h4 : d ≤ 100000) : delQ B l D o d = if (srtI (goneL l r.pack)).length ≠ 0 ∧ ¬ (srtI (goneL l r.pack)).any (gHeld B d l) = true then some r.pack else none := by
 have e : (ndsP (prN l D (goneL l r.pack) true)).any (heldN B d) = (srtI (goneL l r.pack)).any (gHeld B d l) := gone_any h0 r.pack (heldN B d)
 rw [delQ_in h0 h1 h2 h3 h4, e]
 have hne : goneL l r.pack ≠ [] ↔ (srtI (goneL l r.pack)).length ≠ 0 := by rw [srtI_len, ne_eq, ne_eq, List.length_eq_zero_iff]
 by_cases h : goneL l r.pack ≠ [] ∧ ¬ (srtI (goneL l r.pack)).any (gHeld B d l) = true
 ·rw [if_pos h, if_pos ⟨hne.1 h.1, h.2⟩]
 ·rw [if_neg h, if_neg fun hh => h ⟨hne.2 hh.1, hh.2⟩]
theorem gone_at {l : List Nd} {pk : Int} {i : Nat} (h : i < (srtI (goneL l pk)).length) : ∃ j, j < l.length ∧ getI (srtI (goneL l pk)) i = (ndAt l j).id := by
 have h1 : getI (srtI (goneL l pk)) i ∈ srtI (goneL l pk) := mem_at.2 ⟨i, h, rfl⟩
 exact derL_ids (mem_srtI.1 h1)
attribute [local irreducible] WC WL WX POp Then Again Fn NX W1 WA WO QL RP RA Yld LoopAt HC HL HX HN H1 HA HO HQ HB HP A.blk A.grow A.rd A.obj A.mp AgainH CutH
attribute [local irreducible] A.mq A.mit A.all sumS rootP gHeld
theorem index24at_fn {v : Value} {l : List Nd} {U : Nat → Value} (hv : ValidP l) {j : Nat} (hj : j < l.length) (hl : l.length ≤ 1000000) (w : World) (hR : RdN w v l U) :
  Fn Tryz.prog 63 #[v, zv (ndAt l j).id] w fun u w' => u = zv (j : Int) ∧ Ext w w' := (index24_fn (ndAt l j).id hl w hR).mono fun u w' h => by
 obtain ⟨k, h1, h2, h3⟩ := h
 cases h1 with
 | no h4 h5 => exact absurd rfl (h5 j hj)
 | yes i h4 hi h5 =>
  have := hv.inj hi hj h5
  subst this
  exact ⟨by rw [h2, h4], h3⟩
set_option maxHeartbeats 2000000 in
theorem sameTomb24_fn {vN vD vN2 vD2 : Value} {ns : List Int} {ds : List ByteArray} (o d : Int) (bef aft : ByteArray) (hns : ns.length ≤ 1000000) (hds : ds.length ≤ 1000000) (w : World) (hN : Rd w vN (ints ns)) (hV : Rd w vD (strs ds)) (hN2 : Rd w vN2 (ints ns)) (hV2 : Rd w vD2 (strs ds)) :
  Fn Tryz.prog 30 #[.agg #[zv o, zv d, .string bef, .string aft, vN, vD], .agg #[zv o, zv d, .string bef, .string aft, vN2, vD2]] w fun u w' => u = .bool true ∧ Ext w w' := by
 refine enterH (l := [_, _]) rfl Tryz.ntmps30 rfl ?_
 refine hwNB ?_
 refine HL.one (H1.boxAgg (cs := [zv o, zv d, .string bef, .string aft, vN, vD]) rfl rfl (fun b2 => ?_))
 refine hwNB ?_
 refine HL.one (H1.boxAgg (cs := [zv o, zv d, .string bef, .string aft, vN2, vD2]) rfl rfl (fun b3 => ?_))
 refine hwNB ?_
 refine HL.one (H1.callx (u := .bool true) (vs := [_, _]) rfl rfl (fun w' hM => (SameInts_fn _ _ ns ns w' (hN.ext hM.ext) (hN2.ext hM.ext) (by omega)).mono fun v w'' h => ⟨h.1.trans (by rw [decide_eq_true rfl]), h.2⟩) ?_)
 refine hwNB ?_
 refine HL.one (H1.callx (u := .bool true) (vs := [_, _]) rfl rfl (fun w' hM => (sameStrings_fn _ _ ds ds (by omega) w' (hV.ext hM.ext) (hV2.ext hM.ext)).mono fun v w'' h => ⟨h.1.trans (by rw [decide_eq_true rfl]), h.2⟩) ?_)
 refine hwNB ?_
 exact HX.ret1 rfl rfl fun w' hM => ⟨rfl, hM.ext⟩
set_option maxHeartbeats 8000000 in
theorem deleteR_fn {vb v g : Value} {B : Nat → List Rc} {l : List Nd} {D : List ByteArray} {U : Nat → Value} (o d : Int) (hl : l.length ≤ 400000) (hls : ∀ i, i < l.length → (ndAt l i).src.length ≤ 1000000) (hD : D.length ≤ 1000000) (hDs : ∀ d ∈ D, d.size ≤ 1000) (hB7 : (B 7).length ≤ 1000000) (hB4 : (B 4).length ≤ 800000) (hB5 : (B 5).length ≤ 1000000) (w : World) (hB : BaseV w vb B) (hR : RdN w v l U) (hS : Rd w g (strs D)) :
  Fn Tryz.prog 29 #[vb, v, g, zv o, zv d] w fun u w' => (delQ B l D o d = none ∧ u = delNo ∧ Ext w w') ∨ ∃ pk, delQ B l D o d = some pk ∧ ∃ z : DelZ, ndsZ z.left = ndsP (prN l D (goneL l pk) false) ∧ u = delYes o d l D pk z ∧ Mm w (delH l D pk z) w' := by
 obtain ⟨s, rfl, -⟩ := id hB
 obtain ⟨a, c, rfl, hc, -⟩ := id hR.shape
 refine enterH (l := [_, _, _, _, _]) rfl Tryz.ntmps29 rfl ?_
 refine hwNB ?_
 refine HL.one (H1.boxAgg (cs := row 8 s) rfl rfl (fun b5 => ?_))
 refine hwNB ?_
 refine HL.one (H1.alloc (cs := tomb0) rfl rfl (fun b12 => ?_))
 refine hwNB ?_
 refine HL.one (H1.callx (vs := [_, _]) rfl rfl (fun w' hM => rootR24_fn hl hls hD hDs w' (hR.ext hM.ext) (hS.ext hM.ext)) ?_)
 obtain ⟨e0, ra, hroot, he0⟩ : ∃ (e0 : Int) (ra : ByteArray), (if okS l D = true then Value.tuple #[.string (rootP (l.zip D)), zv 0] else .tuple #[.string ⟨#[]⟩, zv 240]) = .tuple #[.string ra, zv e0] ∧ (okS l D = true ∧ e0 = 0 ∧ ra = rootP (l.zip D) ∨ ¬ okS l D = true ∧ e0 = 240) := by
  by_cases h : okS l D = true
  ·exact ⟨0, _, by rw [if_pos h], .inl ⟨h, rfl, rfl⟩⟩
  ·exact ⟨240, _, by rw [if_neg h], .inr ⟨h, rfl⟩⟩
 rw [hroot]
 clear hroot
 refine hwNB ?_
 refine HL.one (H1.ldAgg (vs := row 8 s) rfl memA rfl (fun i v hv => by rw [Nat.zero_add]; exact hv) rfl ?_)
 refine hwNB ?_
 refine HL.one (H1.callx (vs := [.agg (row 8 s).toArray, _, _]) rfl rfl (fun w' hM => orderR_fn o d hB7 w' (hB.ext hM.ext)) ?_)
 obtain ⟨pv, ob, hord, hob⟩ : ∃ (pv : Int) (ob : Bool), ordV (ordF (B 7) o) d = .tuple #[zv pv, .bool ob] ∧ (ob = true ∧ (∃ r, ordF (B 7) o = some r ∧ r.start ≤ d ∧ pv = r.pack) ∨ ob = false ∧ ¬ ∃ r, ordF (B 7) o = some r ∧ r.start ≤ d) := by
  cases hf : ordF (B 7) o with
  | none => exact ⟨0, false, rfl, .inr ⟨rfl, fun ⟨r, h, _⟩ => by cases h⟩⟩
  | some r =>
   by_cases h : r.start ≤ d
   ·exact ⟨r.pack, true, by show Value.tuple #[zv r.pack, Value.bool (decide (r.start ≤ d))] = _; rw [decide_eq_true h], .inl ⟨rfl, r, rfl, h, rfl⟩⟩
   ·exact ⟨r.pack, false, by show Value.tuple #[zv r.pack, Value.bool (decide (r.start ≤ d))] = _; rw [decide_eq_false h], .inr ⟨rfl, fun ⟨r', h1, h2⟩ => by cases h1; exact h h2⟩⟩
 rw [hord]
 clear hord
 refine hbDE ?_
 refine HL.cut (α := Bool) (fun q => [(1, .slice a l.length c), (2, g), (3, zv o), (4, zv d), (5, .pointer (some ⟨b5, 0, none⟩)), (12, .pointer (some ⟨b12, 0, none⟩)), (14, .string ra), (16, zv pv), (54, .bool q)]) (fun _ => [A.blk b12 tomb0 51, A.blk b5 (row 8 s) 49])
  (fun q => (q = true ∧ delQ B l D o d = none) ∨ (q = false ∧ okS l D = true ∧ ra = rootP (l.zip D) ∧ ∃ r, ordF (B 7) o = some r ∧ r.start ≤ d ∧ pv = r.pack ∧ 0 ≤ d ∧ d ≤ 100000)) ?_ ?_
 ·rcases he0 with ⟨hok, rfl, rfl⟩ | ⟨hok, rfl⟩
  rotate_left
  ·refine hwNB ?_
   exact HX.cut true (.inl ⟨rfl, delQ_no fun h => hok h.1⟩) esA (by repeat (first | exact Hs.nil _ | (refine Hs.cons pickA ?_)))
  rcases hob with ⟨rfl, r, hf, hst, rfl⟩ | ⟨rfl, hno⟩
  rotate_left
  ·refine hwNB ?_
   exact HX.cut true (.inl ⟨rfl, delQ_no fun ⟨_, r, h1, h2, _⟩ => hno ⟨r, h1, h2⟩⟩) esA (by repeat (first | exact Hs.nil _ | (refine Hs.cons pickA ?_)))
  by_cases h2 : d < 0
  ·refine hwNB ?_
   exact HX.cut true (.inl ⟨rfl, delQ_no fun ⟨_, _, _, _, h3, _⟩ => by omega⟩) esA (by repeat (first | exact Hs.nil _ | (refine Hs.cons pickA ?_)))
  by_cases h3 : d > 100000
  ·have h3' : decide (100000 < d) = true := decide_eq_true h3
   refine hwNB ?_
   exact HX.cut true (.inl ⟨rfl, delQ_no fun ⟨_, _, _, _, _, h4⟩ => by omega⟩) (by refine ⟨rfl, rfl, rfl, rfl, rfl, rfl, rfl, rfl, ?_, trivial⟩; show some (Value.bool (decide (100000 < d))) = _; rw [h3']) (by repeat (first | exact Hs.nil _ | (refine Hs.cons pickA ?_)))
  ·have h3' : decide (100000 < d) = false := decide_eq_false h3
   refine hwNB ?_
   exact HX.cut false (.inr ⟨rfl, hok, rfl, r, hf, hst, rfl, by omega, by omega⟩) (by refine ⟨rfl, rfl, rfl, rfl, rfl, rfl, rfl, rfl, ?_, trivial⟩; show some (Value.bool (decide (100000 < d))) = _; rw [h3']) (by repeat (first | exact Hs.nil _ | (refine Hs.cons pickA ?_)))
 clear he0 hob
 rintro q (⟨rfl, hno⟩ | ⟨rfl, hok, rfl, r, hf, hst, rfl, hd0, hd1⟩)
 ·refine hwNB ?_
  refine HL.build (parts := []) (pv := []) (cs := tomb0) rfl rfl rfl ?_
  refine hwNB ?_
  refine HL.one (H1.stAgg (b := b12) (cs := tomb0) (vs := tomb0) rfl rfl rfl (by intro v hv; simp only [tomb0, List.mem_cons, List.not_mem_nil, or_false] at hv; rcases hv with rfl | rfl | rfl | rfl | rfl | rfl <;> rfl) rplA rfl ?_)
  refine hwNB ?_
  exact HX.retG (rs := [.tmp 10, .tmp 11, .cell 12 51, .tmp 13]) (vs := [.slice none 0 0, .slice none 0 0, .agg tomb0.toArray, zv 240]) rfl rfl (fun w' hM => ⟨rfl, rfl, ⟨_, rfl, loadVar_agg (b := b12) hM memA rfl⟩, rfl, trivial⟩) fun w' hM => .inl ⟨hno, rfl, hM.ext⟩
 have hv := okS_valid hok
 have hq := delQ_held hok hf hst hd0 hd1
 have hgo := gone_own hv r.pack
 have hgl : (srtI (goneL l r.pack)).length = (goneL l r.pack).length := srtI_len _
 have hga := fun i h => gone_at (l := l) (pk := r.pack) (i := i) h
 have hgd := derL_len l (fun i => decide ((ndAt l i).pack = r.pack)) l.length
 have hown : ownL l r.pack = selL l (fun i => decide ((ndAt l i).pack = r.pack)) l.length := rfl
 rw [hown] at hgo
 have hfs := okS_facts hok
 have hprt : prN l D (srtI (goneL l r.pack)) true = prN l D (goneL l r.pack) true := prN_congr (fun x => mem_srtI) true
 have hprf : prN l D (srtI (goneL l r.pack)) false = prN l D (goneL l r.pack) false := prN_congr (fun x => mem_srtI) false
 have hlost := lost_len hok (fun i => decide ((ndAt l i).pack = r.pack))
 have hokl : okS (ndsP (prN l D (goneL l r.pack) false)) (digP (prN l D (goneL l r.pack) false)) = true := left_ok hok _
 rw [show derL l (fun i => decide ((ndAt l i).pack = r.pack)) l.length = goneL l r.pack from rfl] at hlost hgd
 obtain ⟨pk, hpk⟩ : ∃ pk, pk = r.pack := ⟨_, rfl⟩
 rw [← hpk] at hq hgo hgl hga hgd hprt hprf hlost hokl ⊢
 clear hpk hf hown hst
 refine hwNB ?_
 refine HC.grow0 3 1 ?_
 refine HC.loop (α := Nat × Option Addr × Nat) (fun q => [(1, .slice a l.length c), (2, g), (3, zv o), (4, zv d), (5, .pointer (some ⟨b5, 0, none⟩)), (12, .pointer (some ⟨b12, 0, none⟩)), (14, .string (rootP (l.zip D))), (16, zv pk), (18, .slice q.2.1 (selL l (fun i => decide ((ndAt l i).pack = pk)) q.1).length q.2.2), (19, zv (q.1 : Int))])
  (fun q => [A.grow 3 1 q.2.1 q.2.2 (selL l (fun i => decide ((ndAt l i).pack = pk)) q.1).length (ints (selL l (fun i => decide ((ndAt l i).pack = pk)) q.1)), A.blk b12 tomb0 51, A.blk b5 (row 8 s) 49]) (fun q => q.1 ≤ l.length) (fun q => l.length - q.1) (0, none, 0) (Nat.zero_le _) esA (by repeat (first | exact Hs.nil _ | (refine Hs.cons pickA ?_))) ?_
 rintro ⟨k, ao, co⟩ hk
 dsimp only at hk ⊢
 by_cases hlt : k < l.length
 ·have hn : ((k : Nat) : Int) < (l.length : Int) := by omega
  have hla := selL_len l (fun i => decide ((ndAt l i).pack = pk)) k
  obtain ⟨b0, off0, rfl, hb⟩ := hR.cell hlt
  have hc0 := hb k hlt 0 (zv (ndAt l k).id) rfl
  have hc2 := hb k hlt 2 (zv (ndAt l k).pack) rfl
  clear hb
  have hya := selL_yes (l := l) (f := fun i => decide ((ndAt l i).pack = pk)) (k := k)
  have hna := selL_no (l := l) (f := fun i => decide ((ndAt l i).pack = pk)) (k := k)
  generalize selL l (fun i => decide ((ndAt l i).pack = pk)) k = C at hla hya hna ⊢
  generalize (ndAt l k).id = x at hc0 hya
  generalize (ndAt l k).pack = p at hc2 hya hna
  refine hwNB ?_
  refine HL.one (H1.ld0 rfl hc2 rfl ?_)
  by_cases hp : p = pk
  ·have ea := hya (decide_eq_true hp)
   have la := congrArg List.length ea
   rw [List.length_append, List.length_singleton] at la
   refine hwNB ?_
   refine HL.one (H1.ld0 rfl hc0 rfl ?_)
   refine hwNB ?_
   refine HL.one (H1.lit (cs := [zv x]) rfl rfl rfl rfl rfl rfl (fun b8 => ?_))
   refine hwNB ?_
   refine HL.one (H1.app1 (u := zv x) rfl rfl (fun _ _ => by first | ((repeat (first | with_reducible exact Rpl.here | with_reducible apply Rpl.there)); done) | (repeat (first | exact Rpl.here | apply Rpl.there))) memA rfl rfl (by omega) rfl rfl (fun a2 c2 => ?_))
   rw [ints_snocL, ← ea, ← la]
   refine hwNB ?_
   exact HX.again (k + 1, some ⟨a2, 0, none⟩, c2) hlt (by show l.length - (k + 1) < l.length - k; omega) esA (by repeat (first | exact Hs.nil _ | (refine Hs.cons pickA ?_)))
  ·have ea := hna (decide_eq_false hp)
   rw [← ea]
   refine hwNB ?_
   exact HX.again (k + 1, ao, co) hlt (by show l.length - (k + 1) < l.length - k; omega) esA (by repeat (first | exact Hs.nil _ | (refine Hs.cons pickA ?_)))
 have hn : ¬ ((k : Nat) : Int) < (l.length : Int) := by omega
 obtain rfl : k = l.length := by omega
 have hla := selL_len l (fun i => decide ((ndAt l i).pack = pk)) l.length
 generalize selL l (fun i => decide ((ndAt l i).pack = pk)) l.length = F at hgo hla ⊢
 refine hwNB ?_
 refine HL.one (H1.callz (α := Option Addr × Nat) (V := fun z => .slice z.1 (srtI (goneL l pk)).length z.2) (Hn := fun z => [A.grow 3 1 z.1 z.2 (srtI (goneL l pk)).length (ints (srtI (goneL l pk)))]) (I := fun z => (srtI (goneL l pk)).length = 0 ∨ ∃ b, z.1 = some ⟨b, 0, none⟩) (vs := [_, _]) rfl rfl (fun w' hM => by
  have h := (derivedR_fn (f := F) hl hls (by omega) w' (hR.ext hM.ext) (hM.gr (a := ao) (c := co) memA)).shaped
  rw [hgo] at h
  exact h) ?_)
 rintro ⟨ag, cg⟩ hag
 dsimp only at hag ⊢
 have hgl4 : (srtI (goneL l pk)).length ≤ 400000 := by omega
 obtain ⟨G, hG⟩ : ∃ G, G = srtI (goneL l pk) := ⟨_, rfl⟩
 rw [← hG] at hq hgl hga hprt hprf hag hgl4 ⊢
 refine hwNB ?_
 refine HC.loop (α := Nat) (fun i => [(1, .slice a l.length c), (2, g), (3, zv o), (4, zv d), (5, .pointer (some ⟨b5, 0, none⟩)), (12, .pointer (some ⟨b12, 0, none⟩)), (14, .string (rootP (l.zip D))), (20, .slice ag G.length cg), (21, zv (i : Int))])
  (fun _ => [A.grow 3 1 ag cg G.length (ints G), A.blk b12 tomb0 51, A.blk b5 (row 8 s) 49]) (fun i => i ≤ G.length ∧ (G.take i).any (gHeld B d l) = false) (fun i => G.length - i) 0 ⟨Nat.zero_le _, rfl⟩ esA (by repeat (first | exact Hs.nil _ | (refine Hs.cons pickA ?_))) ?_
 rintro i ⟨hi, hI⟩
 by_cases hlt : i < G.length
 ·have hn : ((i : Nat) : Int) < (G.length : Int) := by omega
  obtain ⟨bg, rfl⟩ : ∃ b, ag = some ⟨b, 0, none⟩ := hag.resolve_left (by omega)
  obtain ⟨j, hj, hx⟩ := hga i hlt
  obtain ⟨b0, off0, rfl, hb⟩ := hR.cell hj
  have hc2 := hb j hj 2 (zv (ndAt l j).pack) rfl
  have hjn : ((j : Nat) : Int) < (l.length : Int) := by omega
  have hgh := gHeld_at (B := B) (d := d) hv hj
  have hany := any_takeI hlt (gHeld B d l)
  rw [hI, Bool.false_or, hx, hgh] at hany
  have hcg : (ints G)[i]? = some (zv (ndAt l j).id) := by rw [ints_getI hlt, hx]
  have hhn : heldN B d (ndAt l j) = decide (0 < (heldL (B 4) (B 5) (ndAt l j).pack d).length) := rfl
  have hstop : heldN B d (ndAt l j) = true → delQ B l D o d = none := fun h => by
   rw [hq, if_neg]
   rintro ⟨-, h2⟩
   exact h2 (List.any_eq_true.2 ⟨getI G i, mem_at.2 ⟨i, hlt, rfl⟩, by rw [hx, hgh, h]⟩)
  have hgo2 : heldN B d (ndAt l j) = false → (G.take (i + 1)).any (gHeld B d l) = false := fun h => by rw [hany, h]
  rw [hhn] at hstop hgo2
  have hix := fun (w' : World) (hR' : RdN w' (.slice (some ⟨b0, off0, none⟩) l.length c) l U) => index24at_fn hv hj (by omega) w' hR'
  clear hb hgh hany hhn hx
  generalize (ndAt l j).id = x at hcg hix
  generalize (ndAt l j).pack = p at hc2 hstop hgo2
  have hHe := fun (w' : World) (hB' : BaseV w' (.agg (row 8 s).toArray) B) => HeldR_fn p d hB4 hB5 w' hB'
  generalize heldL (B 4) (B 5) p d = hL at hstop hgo2 hHe
  refine hwNB ?_
  refine HC.anyC (cellsA b5 (row 8 s) ++ []) rfl ?_
  refine HB.ldA (vs := row 8 s) 0 rfl rfl rfl (fun i v hv => cellsL (cellsA_mem hv)) ?_
  refine HB.pa 1 rfl ?_
  refine HB.pa 2 rfl ?_
  refine HB.pa 3 rfl ?_
  refine HB.pa 4 rfl ?_
  refine HB.pa 5 rfl ?_
  refine HB.pa 11 rfl ?_
  refine HB.all (by (exact Keep.blkA (b := b5) (vs := row 8 s) (e := 49) memD Keep.nil)) [6] (by kernel_rfl) rfl ⟨⟨_, rfl, ?_⟩, trivial⟩
  refine HP.one ?_
  refine H1.ldg (b := bg) (c := cg) (n := G.length) (vs := ints G) rfl memA hcg rfl ?_
  apply HB.fold
  refine HB.all (by (exact Keep.blkA (b := b5) (vs := row 8 s) (e := 49) memD Keep.nil)) [7] (by kernel_rfl) rfl ⟨⟨_, rfl, ?_⟩, trivial⟩
  refine HP.one ?_
  refine H1.callx (vs := [_, zv x]) rfl rfl (fun w' hM => hix w' (hR.ext hM.ext)) ?_
  apply HB.fold
  refine HB.pa 8 rfl ?_
  refine HB.pa 9 rfl ?_
  refine HB.all (by (exact Keep.blkA (b := b5) (vs := row 8 s) (e := 49) memD Keep.nil)) [10] (by kernel_rfl) rfl ⟨⟨_, rfl, ?_⟩, trivial⟩
  refine HP.one ?_
  refine H1.ld0 rfl hc2 rfl ?_
  apply HB.fold
  refine HB.all (by (exact Keep.blkA (b := b5) (vs := row 8 s) (e := 49) memD Keep.nil)) [12] (by kernel_rfl) rfl ⟨⟨_, rfl, ?_⟩, trivial⟩
  refine HP.one ?_
  refine H1.callz (vs := [.agg (row 8 s).toArray, zv p, zv d]) rfl rfl (fun w' hM => hHe w' (hB.ext hM.ext)) ?_
  rintro ⟨ah, ch⟩ -
  dsimp only
  apply HB.fold
  refine HB.pa 13 rfl ?_
  refine HB.done (by (exact Keep.blkA (b := b5) (vs := row 8 s) (e := 49) memD Keep.nil)) (by kernel_rfl) ?_
  by_cases hh : 0 < hL.length
  ·have hh' : ((hL.length : Nat) : Int) > 0 := by omega
   have hno := hstop (decide_eq_true hh)
   refine hwNB ?_
   refine HL.build (parts := []) (pv := []) (cs := tomb0) rfl rfl rfl ?_
   refine hwNB ?_
   refine HL.one (H1.stAgg (b := b12) (cs := tomb0) (vs := tomb0) rfl rfl rfl (by intro v hv; simp only [tomb0, List.mem_cons, List.not_mem_nil, or_false] at hv; rcases hv with rfl | rfl | rfl | rfl | rfl | rfl <;> rfl) rplA rfl ?_)
   refine hwNB ?_
   exact HX.retG (rs := [.tmp 10, .tmp 11, .cell 12 51, .tmp 13]) (vs := [.slice none 0 0, .slice none 0 0, .agg tomb0.toArray, zv 240]) rfl rfl (fun w' hM => ⟨rfl, rfl, ⟨_, rfl, loadVar_agg (b := b12) hM memA rfl⟩, rfl, trivial⟩) fun w' hM => .inl ⟨hno, rfl, hM.ext⟩
  ·have hh' : ¬ ((hL.length : Nat) : Int) > 0 := by omega
   refine hwNB ?_
   exact HX.again (i + 1) ⟨hlt, hgo2 (decide_eq_false hh)⟩ (by show G.length - (i + 1) < G.length - i; omega) esA (by repeat (first | exact Hs.nil _ | (refine Hs.cons pickA ?_)))
 have hn : ¬ ((i : Nat) : Int) < (G.length : Int) := by omega
 obtain rfl : i = G.length := by omega
 rw [List.take_length] at hI
 rw [hI] at hq
 by_cases hg0 : G.length = 0
 ·have hg0' : ((G.length : Nat) : Int) = 0 := by omega
  have hno : delQ B l D o d = none := by rw [hq, if_neg fun h => h.1 hg0]
  refine hwNB ?_
  refine HL.build (parts := []) (pv := []) (cs := tomb0) rfl rfl rfl ?_
  refine hwNB ?_
  refine HL.one (H1.stAgg (b := b12) (cs := tomb0) (vs := tomb0) rfl rfl rfl (by intro v hv; simp only [tomb0, List.mem_cons, List.not_mem_nil, or_false] at hv; rcases hv with rfl | rfl | rfl | rfl | rfl | rfl <;> rfl) rplA rfl ?_)
  refine hwNB ?_
  exact HX.retG (rs := [.tmp 10, .tmp 11, .cell 12 51, .tmp 13]) (vs := [.slice none 0 0, .slice none 0 0, .agg tomb0.toArray, zv 240]) rfl rfl (fun w' hM => ⟨rfl, rfl, ⟨_, rfl, loadVar_agg (b := b12) hM memA rfl⟩, rfl, trivial⟩) fun w' hM => .inl ⟨hno, rfl, hM.ext⟩
 have hg0' : ¬ ((G.length : Nat) : Int) = 0 := by omega
 have hyes : delQ B l D o d = some pk := by rw [hq, if_pos ⟨hg0, by decide⟩]
 obtain ⟨u1, u2, u3, u4⟩ := ok_sizes hokl
 refine hwNB ?_
 refine HL.one (H1.callz (α := SplZ) (V := fun z => .tuple #[.slice z.a1 z.left.length z.c1, .slice z.a2 z.left.length z.c2, .slice z.a3 (goneL l pk).length z.c3]) (Hn := fun z => [A.grow 31 4 z.a1 z.c1 z.left.length (ndsV z.left), A.grow 9 1 z.a2 z.c2 z.left.length (strs (digP (prN l D (goneL l pk) false))), A.all (rowsA z.left), A.grow 9 1 z.a3 z.c3 (goneL l pk).length (strs (digP (prN l D (goneL l pk) true)))]) (I := fun z => ndsZ z.left = ndsP (prN l D (goneL l pk) false)) (vs := [_, _, _]) rfl rfl (fun w' hM => by
  have h := split24_fn hfs.2.1 hl hls (show G.length ≤ 1000000 by omega) w' (hR.ext hM.ext) (hS.ext hM.ext) (hM.gr (a := ag) (c := cg) memA)
  rw [hprf, hprt, hlost] at h
  exact h) ?_)
 rintro ⟨z, a1, c1, a2, c2, a3, c3⟩ hz
 dsimp only at hz ⊢
 have hzl := congrArg List.length hz
 rw [ndsZ_len, ndsP_len] at hzl
 refine hwNB ?_
 refine HL.one (H1.callx (u := .tuple #[.string (rootP (prN l D (goneL l pk) false)), zv 0]) (vs := [_, _]) rfl rfl (fun w' hM => by
  have h := rootR24_fn (l := ndsZ z) (D := digP (prN l D (goneL l pk) false)) (v := .slice a1 z.length c1) (g := .slice a2 z.length c2) (by rw [hz]; exact u1) (by rw [hz]; exact u2) u3 u4 w' (hM.rdN memA memA) (hM.gr memA)
  rw [hz, if_pos hokl, zip_back] at h
  exact h) ?_)
 refine hwNB ?_
 refine HL.build (cs := [zv o, zv d, .string (rootP (l.zip D)), .string (rootP (prN l D (goneL l pk) false)), .slice ag G.length cg, .slice a3 (goneL l pk).length c3]) rfl rfl rfl ?_
 refine hwNB ?_
 refine HL.one (H1.stAgg (b := b12) (cs := tomb0) (vs := [zv o, zv d, .string (rootP (l.zip D)), .string (rootP (prN l D (goneL l pk) false)), .slice ag G.length cg, .slice a3 (goneL l pk).length c3]) rfl rfl rfl (by intro v hv; simp only [List.mem_cons, List.not_mem_nil, or_false] at hv; rcases hv with rfl | rfl | rfl | rfl | rfl | rfl <;> rfl) rplA rfl ?_)
 refine hwNB ?_
 rw [hgl, hG]
 exact HX.retG (rs := [.tmp 10, .tmp 11, .cell 12 51, .tmp 13]) (vs := [.slice a1 z.length c1, .slice a2 z.length c2, .agg ([zv o, zv d, .string (rootP (l.zip D)), .string (rootP (prN l D (goneL l pk) false)), .slice ag (goneL l pk).length cg, .slice a3 (goneL l pk).length c3] : List Value).toArray, zv 0]) rfl rfl (fun w' hM => ⟨rfl, rfl, ⟨_, rfl, loadVar_agg (b := b12) hM memA rfl⟩, rfl, trivial⟩) fun w' hM => .inr ⟨pk, hyes, (⟨z, a1, c1, a2, c2, ag, cg, a3, c3⟩ : DelZ), hz, rfl, hM.sub (by unfold delH; repeat (first | exact Hs.nil _ | (refine Hs.cons pickA ?_)))⟩
end Go.Sx
/- Chapter 24: the reference's Check; few: the walk. -/
namespace Go.Sx
open Go Go.Proofs Go.RowKit
theorem prN_at {l : List Nd} {D : List ByteArray} (hlD : l.length = D.length) {g : List Int} {b : Bool} {i : Nat} (hi : i < (ndsP (prN l D g b)).length) : ∃ j, j < l.length ∧ ndAt (ndsP (prN l D g b)) i = ndAt l j := by
 have h1 : ndAt (ndsP (prN l D g b)) i ∈ ndsP (prN l D g b) := mem_nd.2 ⟨i, hi, rfl⟩
 rw [prN_nds hlD] at h1
 have h2 := (List.mem_filter.1 h1).1
 obtain ⟨j, hj, e⟩ := mem_nd.1 h2
 refine ⟨j, hj, ?_⟩
 rw [← e, prN_nds hlD]
theorem prN_len {l : List Nd} {D : List ByteArray} (hlD : l.length = D.length) (g : List Int) (b : Bool) : (ndsP (prN l D g b)).length ≤ l.length := by
 rw [prN_nds hlD]; exact List.length_filter_le _ _
theorem chkP_in {bef aft : ByteArray} {ns : List Int} {ds : List ByteArray} {l l2 : List Nd} {D D2 : List ByteArray} (h : okS l D = true ∧ okS l2 D2 = true ∧ ns.length ≠ 0 ∧ bef = rootP (l.zip D) ∧ aft = rootP (l2.zip D2)) :
  chkP bef aft ns ds l D l2 D2 = (decide (derA l ns = ns) && decide (digP (prN l D ns true) = ds) && (eqNs (ndsP (prN l D ns false)) l2 && decide (digP (prN l D ns false) = D2))) := by
 unfold chkP
 rw [h.1, h.2.1, decide_eq_true h.2.2.1, decide_eq_true h.2.2.2.1, decide_eq_true h.2.2.2.2]; rfl
theorem chkP_out {bef aft : ByteArray} {ns : List Int} {ds : List ByteArray} {l l2 : List Nd} {D D2 : List ByteArray} (h : ¬ (okS l D = true ∧ okS l2 D2 = true ∧ ns.length ≠ 0 ∧ bef = rootP (l.zip D) ∧ aft = rootP (l2.zip D2))) : chkP bef aft ns ds l D l2 D2 = false := by
 cases hc : chkP bef aft ns ds l D l2 D2 with
 | false => rfl
 | true =>
  refine absurd ?_ h
  unfold chkP at hc
  simp only [Bool.and_eq_true, decide_eq_true_eq] at hc
  exact ⟨hc.1.1.1.1.1.1.1, hc.1.1.1.1.1.1.2, hc.1.1.1.1.1.2, hc.1.1.1.1.2, hc.1.1.1.2⟩
theorem rootIf (l : List Nd) (D : List ByteArray) : ∃ (e0 : Int) (ra : ByteArray), (if okS l D = true then Value.tuple #[.string (rootP (l.zip D)), zv 0] else .tuple #[.string ⟨#[]⟩, zv 240]) = .tuple #[.string ra, zv e0] ∧ (okS l D = true ∧ e0 = 0 ∧ ra = rootP (l.zip D) ∨ ¬ okS l D = true ∧ e0 = 240) := by
 by_cases h : okS l D = true
 ·exact ⟨0, _, by rw [if_pos h], .inl ⟨h, rfl, rfl⟩⟩
 ·exact ⟨240, _, by rw [if_neg h], .inr ⟨h, rfl⟩⟩
attribute [local irreducible] WC WL WX POp Then Again Fn NX W1 WA WO QL RP RA Yld LoopAt HC HL HX HN H1 HA HO HQ HB HP A.blk A.grow A.rd A.obj A.mp AgainH CutH
attribute [local irreducible] A.mq A.mit A.all sumS rootP chkP
set_option maxHeartbeats 8000000 in
theorem checkR_fn {v g v2 g2 vN vD : Value} {l l2 : List Nd} {D D2 ds : List ByteArray} {U U2 : Nat → Value} {ns : List Int} (o d : Int) (bef aft : ByteArray) (hl : l.length ≤ 400000) (hls : ∀ i, i < l.length → (ndAt l i).src.length ≤ 1000000) (hD : D.length ≤ 1000000) (hDs : ∀ d ∈ D, d.size ≤ 1000)
  (hl2 : l2.length ≤ 400000) (hls2 : ∀ i, i < l2.length → (ndAt l2 i).src.length ≤ 1000000) (hD2 : D2.length ≤ 1000000) (hDs2 : ∀ d ∈ D2, d.size ≤ 1000) (hns : ns.length ≤ 1000000) (w : World) (hR : RdN w v l U) (hS : Rd w g (strs D)) (hR2 : RdN w v2 l2 U2) (hS2 : Rd w g2 (strs D2)) (hN : Rd w vN (ints ns)) (hV : Rd w vD (strs ds)) :
  Fn Tryz.prog 32 #[.agg #[zv o, zv d, .string bef, .string aft, vN, vD], v, g, v2, g2] w fun u w' => u = .bool (chkP bef aft ns ds l D l2 D2) ∧ Ext w w' := by
 obtain ⟨aN, cN, rfl, -⟩ := hN.isInts
 refine enterH (l := [_, _, _, _, _]) rfl Tryz.ntmps32 rfl ?_
 refine hwNB ?_
 refine HL.one (H1.boxAgg (cs := [zv o, zv d, .string bef, .string aft, .slice aN ns.length cN, vD]) rfl rfl (fun b5 => ?_))
 refine hwNB ?_
 refine HL.one (H1.callx (vs := [_, _]) rfl rfl (fun w' hM => rootR24_fn hl hls hD hDs w' (hR.ext hM.ext) (hS.ext hM.ext)) ?_)
 obtain ⟨e0, ra, hroot, he0⟩ := rootIf l D
 rw [hroot]
 clear hroot
 refine hwNB ?_
 refine HL.one (H1.callx (vs := [_, _]) rfl rfl (fun w' hM => rootR24_fn hl2 hls2 hD2 hDs2 w' (hR2.ext hM.ext) (hS2.ext hM.ext)) ?_)
 obtain ⟨e2, rb, hroot, he2⟩ := rootIf l2 D2
 rw [hroot]
 clear hroot
 refine hbDE ?_
 refine HL.cut (α := Bool) (fun q => [(1, v), (2, g), (3, v2), (4, g2), (5, .pointer (some ⟨b5, 0, none⟩)), (56, .bool q)]) (fun _ => [A.blk b5 [zv o, zv d, .string bef, .string aft, .slice aN ns.length cN, vD] 51])
  (fun q => (q = true ∧ chkP bef aft ns ds l D l2 D2 = false) ∨ (q = false ∧ (okS l D = true ∧ okS l2 D2 = true ∧ ns.length ≠ 0 ∧ bef = rootP (l.zip D) ∧ aft = rootP (l2.zip D2)))) ?_ ?_
 ·rcases he0 with ⟨hok, rfl, rfl⟩ | ⟨hok, rfl⟩
  rotate_left
  ·refine hwNB ?_
   exact HX.cut true (.inl ⟨rfl, chkP_out fun h => hok h.1⟩) esA (by repeat (first | exact Hs.nil _ | (refine Hs.cons pickA ?_)))
  rcases he2 with ⟨hok2, rfl, rfl⟩ | ⟨hok2, rfl⟩
  rotate_left
  ·refine hwNB ?_
   exact HX.cut true (.inl ⟨rfl, chkP_out fun h => hok2 h.2.1⟩) esA (by repeat (first | exact Hs.nil _ | (refine Hs.cons pickA ?_)))
  have p1 := fun h => chkP_out (bef := bef) (aft := aft) (ns := ns) (ds := ds) (l := l) (l2 := l2) (D := D) (D2 := D2) h
  have p2 : bef = rootP (l.zip D) → aft = rootP (l2.zip D2) → ns.length ≠ 0 → (okS l D = true ∧ okS l2 D2 = true ∧ ns.length ≠ 0 ∧ bef = rootP (l.zip D) ∧ aft = rootP (l2.zip D2)) := fun h1 h2 h3 => ⟨hok, hok2, h3, h1, h2⟩
  generalize rootP (l.zip D) = ra at p1 p2 ⊢
  generalize rootP (l2.zip D2) = rb at p1 p2 ⊢
  by_cases hb : bef = ra
  rotate_left
  ·have hb' : (decide ¬ bef = ra) = true := by simp [hb]
   refine hwNB ?_
   exact HX.cut true (.inl ⟨rfl, p1 fun h => hb h.2.2.2.1⟩) esA (by repeat (first | exact Hs.nil _ | (refine Hs.cons pickA ?_)))
  have hb' : (decide ¬ bef = ra) = false := by simp [hb]
  by_cases ha : aft = rb
  rotate_left
  ·have ha' : (decide ¬ aft = rb) = true := by simp [ha]
   refine hwNB ?_
   exact HX.cut true (.inl ⟨rfl, p1 fun h => ha h.2.2.2.2⟩) esA (by repeat (first | exact Hs.nil _ | (refine Hs.cons pickA ?_)))
  have ha' : (decide ¬ aft = rb) = false := by simp [ha]
  by_cases h0 : ns.length = 0
  ·have h0' : decide (((ns.length : Nat) : Int) = 0) = true := decide_eq_true (by omega)
   refine hwNB ?_
   exact HX.cut true (.inl ⟨rfl, p1 fun h => h.2.2.1 h0⟩) (by refine ⟨rfl, rfl, rfl, rfl, rfl, ?_, trivial⟩; show some (Value.bool (decide (((ns.length : Nat) : Int) = 0))) = _; rw [h0']) (by repeat (first | exact Hs.nil _ | (refine Hs.cons pickA ?_)))
  ·have h0' : decide (((ns.length : Nat) : Int) = 0) = false := decide_eq_false (by omega)
   refine hwNB ?_
   exact HX.cut false (.inr ⟨rfl, p2 hb ha h0⟩) (by refine ⟨rfl, rfl, rfl, rfl, rfl, ?_, trivial⟩; show some (Value.bool (decide (((ns.length : Nat) : Int) = 0))) = _; rw [h0']) (by repeat (first | exact Hs.nil _ | (refine Hs.cons pickA ?_)))
 clear he0 he2
 rintro q (⟨rfl, hno⟩ | ⟨rfl, hyes⟩)
 ·rw [hno]
  refine hwNB ?_
  exact HX.ret1 rfl rfl fun w' hM => ⟨rfl, hM.ext⟩
 have hfs := okS_facts hyes.1
 have hlD := hfs.2.1
 rw [chkP_in hyes]
 clear hyes
 have pl := prN_len hlD ns false
 have pa := fun i h => prN_at (D := D) hlD (g := ns) (b := false) (i := i) h
 refine hwNB ?_
 refine HC.anyC ([(⟨b5, 4, none⟩, .slice aN ns.length cN)]) rfl ?_
 refine HB.pa 0 rfl ?_
 refine HB.pa 1 rfl ?_
 refine HB.ld 2 rfl rfl memD ?_
 refine HB.pa 4 rfl ?_
 refine HB.ld 5 rfl rfl memD ?_
 refine HB.all (by (exact Keep.blk (b := b5) memD rfl Keep.nil)) [3] (by kernel_rfl) rfl ⟨⟨_, rfl, ?_⟩, trivial⟩
 refine HP.one ?_
 refine H1.callz (vs := [_, _]) rfl rfl (fun w' hM => derivedR_fn hl hls hns w' (hR.ext hM.ext) (hN.ext hM.ext)) ?_
 rintro ⟨az, cz⟩ -
 dsimp only
 apply HB.fold
 refine HB.all (by (exact Keep.blk (b := b5) memD rfl Keep.nil)) [6] (by kernel_rfl) rfl ⟨⟨_, rfl, ?_⟩, trivial⟩
 refine HP.one ?_
 refine H1.callx (vs := [_, _]) rfl rfl (fun w' hM => SameInts_fn _ _ (derA l ns) ns w' (hM.gr (a := az) (c := cz) memA) (hN.ext hM.ext) (by have := derA_len l ns; omega)) ?_
 apply HB.fold
 refine HB.pa 7 rfl ?_
 refine HB.done (by (exact Keep.blk (b := b5) memD rfl Keep.nil)) (by kernel_rfl) ?_
 refine hwNB ?_
 refine HL.one (H1.callz (vs := [_, _, _]) rfl rfl (fun w' hM => split24_fn hlD hl hls hns w' (hR.ext hM.ext) (hS.ext hM.ext) (hN.ext hM.ext)) ?_)
 rintro ⟨z, a1, c1, a2, c2, a3, c3⟩ hz
 dsimp only at hz ⊢
 have hzl := congrArg List.length hz
 rw [ndsZ_len] at hzl
 refine hwNB ?_
 refine HL.one (H1.callx (u := .bool (eqNs (ndsP (prN l D ns false)) l2)) (vs := [_, _]) rfl rfl (fun w' hM => by
  have h := sameNodes_fn (l := ndsZ z) (m := l2) (v := .slice a1 z.length c1) (by rw [hz]; omega) (fun i hi => by
   rw [hz] at hi ⊢
   obtain ⟨j, hj, e⟩ := pa i hi
   rw [e]; exact hls j hj) w' (hM.rdN memA memA) (hR2.ext hM.ext)
  rw [hz] at h
  exact h) ?_)
 refine hwNB ?_
 refine HL.one (H1.callx (vs := [_, _]) rfl rfl (fun w' hM => sameStrings_fn _ _ (digP (prN l D ns false)) D2 (by rw [digP_len, ← ndsP_len]; omega) w' (by
  have h := hM.gr (a := a2) (c := c2) (e := 9) (n := z.length) (xs := strs (digP (prN l D ns false))) memA
  exact h) (hS2.ext hM.ext)) ?_)
 generalize decide (derA l ns = ns) = b1
 generalize eqNs (ndsP (prN l D ns false)) l2 = b2
 cases decide (digP (prN l D ns false) = D2) with
 | false =>
  rw [show (b1 && decide (digP (prN l D ns true) = ds) && (b2 && false)) = false from by cases b1 <;> cases b2 <;> simp]
  cases b1 with
  | false =>
   refine hwNB ?_
   exact HX.ret1 rfl rfl fun w' hM => ⟨rfl, hM.ext⟩
  | true =>
   cases b2 with
   | false =>
    refine hwNB ?_
    exact HX.ret1 rfl rfl fun w' hM => ⟨rfl, hM.ext⟩
   | true =>
    refine hwNB ?_
    exact HX.ret1 rfl rfl fun w' hM => ⟨rfl, hM.ext⟩
 | true =>
  refine hwNB ?_
  refine HL.one (H1.callx (vs := [_, _]) rfl rfl (fun w' hM => sameStrings_fn _ _ (digP (prN l D ns true)) ds (by rw [digP_len, ← ndsP_len]; have := prN_len hlD ns true; omega) w' (hM.gr (a := a3) (c := c3) memA) (hV.ext hM.ext)) ?_)
  generalize decide (digP (prN l D ns true) = ds) = b4
  rw [show (b1 && b4 && (b2 && true)) = (b1 && (b2 && b4)) from by cases b1 <;> cases b2 <;> cases b4 <;> rfl]
  cases b1 with
  | false =>
   refine hwNB ?_
   exact HX.ret1 rfl rfl fun w' hM => ⟨rfl, hM.ext⟩
  | true =>
   cases b2 with
   | false =>
    refine hwNB ?_
    exact HX.ret1 rfl rfl fun w' hM => ⟨rfl, hM.ext⟩
   | true =>
    refine hwNB ?_
    exact HX.ret1 rfl rfl fun w' hM => ⟨rfl, hM.ext⟩
end Go.Sx
/- Chapter 24: few; deletions as the laws make them; no nodes: the walk. -/
namespace Go.Sx
open Go Go.Proofs Go.RowKit
theorem rdN_nil (w : World) : RdN w (.slice none 0 0) [] fun _ => .bool false := ⟨⟨none, 0, rfl, Nat.le_refl _, .inl rfl⟩, fun i hi => by cases hi⟩
theorem rdS_nil (w : World) : Rd w (.slice none 0 0) (strs []) := ⟨none, 0, rfl, Nat.le_refl _, .inl rfl⟩
theorem rdI_nil (w : World) : Rd w (.slice none 0 0) (ints []) := ⟨none, 0, rfl, Nat.le_refl _, .inl rfl⟩
theorem delQ_ok {B : Nat → List Rc} {l : List Nd} {D : List ByteArray} {o d pk : Int} (h : delQ B l D o d = some pk) : okS l D = true := by
 cases hok : okS l D with
 | true => rfl
 | false => rw [delQ_no fun hh => by rw [hok] at hh; cases hh.1] at h; cases h
def cutNd24 (n : Nd) : Nd := ⟨n.id, n.kind, n.pack, n.src.take 9⟩
def cutDg24 (s : ByteArray) : ByteArray := s.extract 0 (min s.size 40)
theorem cutDg24_size (s : ByteArray) : (cutDg24 s).size ≤ 40 := by unfold cutDg24; rw [ByteArray.size_extract]; omega
def fewNd24 (l : List Nd) : List Nd := (l.take 12).map cutNd24
def fewDg24 (l : List ByteArray) : List ByteArray := (l.take 12).map cutDg24
theorem fewNd24_len (l : List Nd) : (fewNd24 l).length ≤ 12 := by unfold fewNd24; rw [List.length_map, List.length_take]; omega
theorem fewDg24_len (l : List ByteArray) : (fewDg24 l).length ≤ 12 := by unfold fewDg24; rw [List.length_map, List.length_take]; omega
theorem fewNd24_src (l : List Nd) (i : Nat) (hi : i < (fewNd24 l).length) : (ndAt (fewNd24 l) i).src.length ≤ 9 := by
 have h := mem_nd.2 ⟨i, hi, rfl⟩
 unfold fewNd24 at h
 obtain ⟨n, -, e⟩ := List.mem_map.1 h
 have e2 : ndAt (fewNd24 l) i = cutNd24 n := e.symm
 rw [e2]
 show (n.src.take 9).length ≤ 9
 rw [List.length_take]; omega
theorem fewDg24_size (l : List ByteArray) : ∀ d ∈ fewDg24 l, d.size ≤ 1000 := fun d hd => by
 unfold fewDg24 at hd
 obtain ⟨s, -, rfl⟩ := List.mem_map.1 hd
 have := cutDg24_size s; omega
theorem fewNd24_step {l : List Nd} {k : Nat} (h : k < l.length) : (l.take (k + 1)).map cutNd24 = (l.take k).map cutNd24 ++ [cutNd24 (ndAt l k)] := by
 rw [ndAt_take h, List.map_append]; rfl
theorem fewDg24_step {l : List ByteArray} {k : Nat} (h : k < l.length) : (l.take (k + 1)).map cutDg24 = (l.take k).map cutDg24 ++ [cutDg24 (getB l k)] := by
 rw [take_getB h, List.map_append]; rfl
theorem fewNd24_end {l : List Nd} {k : Nat} (hk : k ≤ l.length) (h12 : k ≤ 12) (h : ¬ (k < l.length ∧ k < 12)) : fewNd24 l = (l.take k).map cutNd24 := by
 unfold fewNd24
 by_cases e : k = 12
 ·rw [e]
 ·have : k = l.length := by omega
  rw [this, List.take_of_length_le (by omega), List.take_length]
theorem fewDg24_end {l : List ByteArray} {k : Nat} (hk : k ≤ l.length) (h12 : k ≤ 12) (h : ¬ (k < l.length ∧ k < 12)) : fewDg24 l = (l.take k).map cutDg24 := by
 unfold fewDg24
 by_cases e : k = 12
 ·rw [e]
 ·have : k = l.length := by omega
  rw [this, List.take_of_length_le (by omega), List.take_length]
attribute [local irreducible] WC WL WX POp Then Again Fn NX W1 WA WO QL RP RA Yld LoopAt HC HL HX HN H1 HA HO HQ HB HP A.blk A.grow A.rd A.obj A.mp AgainH CutH
attribute [local irreducible] A.mq A.mit A.all sumS rootP delQ
section
variable {vb v g : Value} {B : Nat → List Rc} {l : List Nd} {D : List ByteArray} {U : Nat → Value} {o d : Int}
theorem deleteR_no (hq : delQ B l D o d = none) (hl : l.length ≤ 400000) (hls : ∀ i, i < l.length → (ndAt l i).src.length ≤ 1000000) (hD : D.length ≤ 1000000) (hDs : ∀ d ∈ D, d.size ≤ 1000) (hB7 : (B 7).length ≤ 1000000) (hB4 : (B 4).length ≤ 800000) (hB5 : (B 5).length ≤ 1000000) (w : World) (hB : BaseV w vb B) (hR : RdN w v l U) (hS : Rd w g (strs D)) :
  Fn Tryz.prog 29 #[vb, v, g, zv o, zv d] w fun u w' => u = delNo ∧ Ext w w' := (deleteR_fn o d hl hls hD hDs hB7 hB4 hB5 w hB hR hS).mono fun u w' h => by
 rcases h with ⟨-, h⟩ | ⟨pk, h, -⟩
 ·exact h
 ·rw [hq] at h; cases h
theorem deleteR_yes {pk : Int} (hq : delQ B l D o d = some pk) (hl : l.length ≤ 400000) (hls : ∀ i, i < l.length → (ndAt l i).src.length ≤ 1000000) (hD : D.length ≤ 1000000) (hDs : ∀ d ∈ D, d.size ≤ 1000) (hB7 : (B 7).length ≤ 1000000) (hB4 : (B 4).length ≤ 800000) (hB5 : (B 5).length ≤ 1000000) (w : World) (hB : BaseV w vb B) (hR : RdN w v l U) (hS : Rd w g (strs D)) :
  Fn Tryz.prog 29 #[vb, v, g, zv o, zv d] w fun u w' => ∃ z : DelZ, ndsZ z.left = ndsP (prN l D (goneL l pk) false) ∧ u = delYes o d l D pk z ∧ Mm w (delH l D pk z) w' := (deleteR_fn o d hl hls hD hDs hB7 hB4 hB5 w hB hR hS).mono fun u w' h => by
 rcases h with ⟨h, -⟩ | ⟨pk', h, h2⟩
 ·rw [hq] at h; cases h
 ·rw [hq] at h; cases h; exact h2
end
set_option maxHeartbeats 4000000 in
theorem few24_fn {v g : Value} {l : List Nd} {D : List ByteArray} {U : Nat → Value} (hl : l.length ≤ 9223372036854775807) (hls : ∀ i, i < l.length → (ndAt l i).src.length ≤ 9223372036854775807) (hD : D.length ≤ 9223372036854775807) (hDs : ∀ d ∈ D, d.size ≤ 9223372036854775807) (w : World) (hR : RdN w v l U) (hS : Rd w g (strs D)) :
  Fn Tryz.prog 23 #[v, g] w fun u w' => (∃ v' g' V, u = .tuple #[v', g'] ∧ RdN w' v' (fewNd24 l) V ∧ Rd w' g' (strs (fewDg24 D))) ∧ Ext w w' := by
 obtain ⟨a, c, rfl, hc, -⟩ := id hR.shape
 obtain ⟨a2, c2, rfl⟩ : ∃ a' c', g = .slice a' D.length c' := by
  obtain ⟨a', c', h1, -⟩ := id hS
  rw [strs_len] at h1
  exact ⟨a', c', h1⟩
 refine enterH (l := [_, _]) rfl Tryz.ntmps23 rfl ?_
 refine HC.grow0 31 4 ?_
 refine HC.conv (H2 := A.all (rowsA []) :: [A.grow 31 4 none 0 0 []]) (fun w h => h.allNil) ?_
 refine hbDE ?_
 repeat refine HC.seq ?_
 refine HC.cut (α := List NdZ × Option Addr × Nat) (fun q => [(1, .slice a2 D.length c2), (6, .slice q.2.1 q.1.length q.2.2), (7, .slice none 0 0)]) (fun q => [A.grow 31 4 q.2.1 q.2.2 q.1.length (ndsV q.1), A.all (rowsA q.1)]) (fun q => ndsZ q.1 = fewNd24 l) ?_ ?_
 ·refine HC.block ?_
  refine HC.loop (α := Nat × List NdZ × Option Addr × Nat) (fun q => [(1, .slice a2 D.length c2), (0, .slice a l.length c), (6, .slice q.2.2.1 q.2.1.length q.2.2.2), (7, .slice none 0 0), (8, zv (q.1 : Int))])
   (fun q => [A.grow 31 4 q.2.2.1 q.2.2.2 q.2.1.length (ndsV q.2.1), A.all (rowsA q.2.1)])
   (fun q => q.1 ≤ l.length ∧ q.1 ≤ 12 ∧ ndsZ q.2.1 = (l.take q.1).map cutNd24) (fun q => 12 - q.1) (0, [], none, 0) ⟨Nat.zero_le _, Nat.zero_le _, rfl⟩ esA (by repeat (first | exact Hs.nil _ | (refine Hs.cons pickA ?_))) ?_
  rintro ⟨k, z, an, cn⟩ ⟨hk, h12, hz⟩
  dsimp only at hk h12 hz ⊢
  have hzl := congrArg List.length hz
  rw [ndsZ_len, List.length_map, List.length_take] at hzl
  by_cases hlt : k < l.length ∧ k < 12
  ·obtain ⟨hlt, hk12⟩ := hlt
   have hn : ((k : Nat) : Int) < (l.length : Int) := by omega
   have hn12 : ((k : Nat) : Int) < 12 := by omega
   obtain ⟨b0, off0, rfl, hb⟩ := hR.cell hlt
   have hx := hb k hlt
   have hsx := hR.src k hlt
   have hlx := hls k hlt
   have hUk := rd_one hsx
   have hst := fewNd24_step hlt
   clear hb
   generalize ndAt l k = n at hx hsx hlx hst
   generalize U k = u at hx hsx hUk
   obtain ⟨au, cu, rfl, hcu⟩ := hsx.isInts
   have hmin : min ((n.src.length : Nat) : Int) 9 = ((min n.src.length 9 : Nat) : Int) := by omega
   have hcl : (cutNd24 n).src = n.src.take (min n.src.length 9) := by
    show n.src.take 9 = _
    rcases Nat.le_total n.src.length 9 with h | h
    ·rw [Nat.min_eq_left h, List.take_of_length_le h, List.take_length]
    ·rw [Nat.min_eq_right h]
   have hclen : (cutNd24 n).src.length = min n.src.length 9 := by rw [hcl, List.length_take]; omega
   have hpre : ∀ w', Ext w w' → Rd w' (.slice au (cutNd24 n).src.length cu) (ints (cutNd24 n).src) := fun w' h => by
    rw [hclen, hcl]
    exact (hsx.ext h).ipre (by omega)
   refine hwNB ?_
   refine HL.one (H1.ldAggw (b := b0) (off := off0 + k * 4) (vs := ndC n (.slice au n.src.length cu)) rfl rfl (fun w' hM j u hu => cell_ext hM.ext (hx j u hu)) rfl ?_)
   refine hwNB ?_
   refine HL.one (H1.alloc (cs := ndC ⟨0, 0, 0, []⟩ (.slice none 0 0)) rfl rfl (fun b8 => ?_))
   refine hwNB ?_
   refine HL.one (H1.stAgg (b := b8) (cs := ndC ⟨0, 0, 0, []⟩ (.slice none 0 0)) (vs := ndC n (.slice au n.src.length cu)) rfl rfl rfl (nd_one hUk) rplA rfl ?_)
   refine hwNB ?_
   refine HL.one (H1.lit0 rfl (fun b7 => ?_))
   refine hwNB ?_
   rw [hmin]
   refine HL.pa ?_ (POp.cutHi24 (n := min n.src.length 9) rfl rfl (by omega))
   rw [← hclen]
   refine hwNB ?_
   refine HL.one (H1.appR (vs := ints (cutNd24 n).src) rfl rfl (by rw [ints_len]; rfl) (fun _ _ => by first | ((repeat (first | with_reducible exact Rpl.here | with_reducible apply Rpl.there)); done) | (repeat (first | exact Rpl.here | apply Rpl.there))) (fun w' hM => by rw [ints_len]; exact hpre w' hM.ext) (intsU_one _) (by rw [ints_len]; omega) (by decide) rfl (.inl rfl) (fun az cz _ => ?_))
   rw [ints_len, Nat.zero_add, List.nil_append]
   refine hwNB ?_
   refine HL.one (H1.st (b := b8) (i := 3) rfl rfl (by intro _ h; cases h) (by intro _ h; cases h) rplA (by show 3 < 4; decide) ?_)
   rw [show (ndC n (.slice au n.src.length cu)).set 3 (.slice az (cutNd24 n).src.length cz) = ndC (cutNd24 n) (vZ (cutNd24 n, az, cz)) from rfl]
   generalize cutNd24 n = m at hst
   have hnv : ndsV z ++ ndC m (vZ (m, az, cz)) = ndsV (z ++ [(m, az, cz)]) := (ndsV_snoc z (m, az, cz)).symm
   have hz1 : (z ++ [(m, az, cz)]).length = z.length + 1 := by rw [List.length_append]; rfl
   have hzn : ndsZ (z ++ [(m, az, cz)]) = (l.take (k + 1)).map cutNd24 := by
    rw [hst]
    unfold ndsZ at hz ⊢
    rw [List.map_append, hz]; rfl
   refine hwNB ?_
   refine HL.one (H1.ldAgg (b := b8) (vs := ndC m (vZ (m, az, cz))) rfl memA rfl (fun i v hv => by rw [Nat.zero_add]; exact hv) rfl ?_)
   refine hwNB ?_
   refine HL.one (H1.lit (cs := ndC m (vZ (m, az, cz))) rfl rfl rfl rfl rfl rfl (fun b9 => ?_))
   refine hwNB ?_
   refine HL.one (H1.app (sz := 4) (m := 1) (news := ndC m (vZ (m, az, cz))) rfl (by decide) rfl rfl (fun _ _ => by first | ((repeat (first | with_reducible exact Rpl.here | with_reducible apply Rpl.there)); done) | (repeat (first | exact Rpl.here | apply Rpl.there))) rfl (fun w' hM j u hj => by rw [add_lit, Nat.zero_add]; exact (hM.blk (b := b9) memA).cell hj) (nd_one rfl) (by omega) (by decide) rfl (fun an2 cn2 _ => ?_))
   rw [hnv]
   refine hwNB ?_
   refine HX.conv (H2 := A.all (rowsA (z ++ [(m, az, cz)])) :: [A.grow 31 4 an2 cn2 (z.length + 1) (ndsV (z ++ [(m, az, cz)]))]) (fun w h => by
    rw [rowsA_snoc]
    exact Mm.allAdd (h.sub (Hs.cons (a := A.grow 3 1 az cz m.src.length (ints m.src)) pickA (Hs.cons (a := A.all (rowsA z)) pickA (by repeat (first | exact Hs.nil _ | (refine Hs.cons pickA ?_))))))) ?_
   exact HX.again (k + 1, z ++ [(m, az, cz)], an2, cn2) ⟨hlt, hk12, hzn⟩ (by show 12 - (k + 1) < 12 - k; omega) (by dsimp only; rw [hz1]; repeat (first | exact trivial | refine ⟨rfl, ?_⟩)) (by dsimp only; rw [hz1]; repeat (first | exact Hs.nil _ | (refine Hs.cons pickA ?_)))
  have hfin := fewNd24_end hk h12 hlt
  have hzf : ndsZ z = fewNd24 l := by rw [hfin]; exact hz
  by_cases hkl : k < l.length
  ·have hn : ((k : Nat) : Int) < (l.length : Int) := by omega
   have hn12 : ¬ ((k : Nat) : Int) < 12 := by omega
   refine hwNB ?_
   exact HX.cut (z, an, cn) hzf esA (by repeat (first | exact Hs.nil _ | (refine Hs.cons pickA ?_)))
  ·have hn : ¬ ((k : Nat) : Int) < (l.length : Int) := by omega
   refine hwNB ?_
   exact HX.cut (z, an, cn) hzf esA (by repeat (first | exact Hs.nil _ | (refine Hs.cons pickA ?_)))
 rintro ⟨z, an, cn⟩ hzf
 dsimp only at hzf ⊢
 refine hwNB ?_
 refine HC.grow0 9 1 ?_
 refine HC.loop (α := Nat × Option Addr × Nat) (fun q => [(1, .slice a2 D.length c2), (6, .slice an z.length cn), (7, .slice q.2.1 q.1 q.2.2), (10, zv (q.1 : Int))])
  (fun q => [A.grow 31 4 an cn z.length (ndsV z), A.all (rowsA z), A.grow 9 1 q.2.1 q.2.2 q.1 (strs ((D.take q.1).map cutDg24))])
  (fun q => q.1 ≤ D.length ∧ q.1 ≤ 12) (fun q => 12 - q.1) (0, none, 0) ⟨Nat.zero_le _, Nat.zero_le _⟩ esA (by repeat (first | exact Hs.nil _ | (refine Hs.cons pickA ?_))) ?_
 rintro ⟨k, ad, cd⟩ ⟨hk, h12⟩
 dsimp only at hk h12 ⊢
 have fin : ¬ (k < D.length ∧ k < 12) → ∀ w', Mm w [A.grow 31 4 an cn z.length (ndsV z), A.all (rowsA z), A.grow 9 1 ad cd k (strs ((D.take k).map cutDg24))] w' → (∃ v' g' V, (Value.tuple #[.slice an z.length cn, .slice ad k cd]) = .tuple #[v', g'] ∧ RdN w' v' (fewNd24 l) V ∧ Rd w' g' (strs (fewDg24 D))) ∧ Ext w w' := fun h w' hM => by
  refine ⟨⟨_, _, adrZ z, rfl, ?_, ?_⟩, hM.ext⟩
  ·have h := hM.rdN (a := an) (c := cn) (z := z) (.head _) (.tail _ (.head _))
   rw [hzf] at h
   exact h
  ·rw [fewDg24_end hk h12 h]
   exact hM.gr (.tail _ (.tail _ (.head _)))
 by_cases hlt : k < D.length ∧ k < 12
 ·obtain ⟨hlt, hk12⟩ := hlt
  have hn : ((k : Nat) : Int) < (D.length : Int) := by omega
  have hn12 : ((k : Nat) : Int) < 12 := by omega
  obtain ⟨b2, off2, rfl⟩ := rd_addr hS hlt
  have hcd := hS.cell (strs_getB hlt)
  have hsz := hDs _ (getB_mem hlt)
  have hst := fewDg24_step hlt
  generalize getB D k = s at hcd hst hsz
  have hcut : s.extract 0 (min s.size 40) = cutDg24 s := rfl
  have hmin : min (s.size : Int) 40 = ((min s.size 40 : Nat) : Int) := by omega
  clear fin
  refine hwNB ?_
  refine HC.anyC ([(⟨b2, off2 + k, none⟩, .string s)]) rfl ?_
  refine HB.pa 0 rfl ?_
  refine HB.pa 1 rfl ?_
  refine HB.pa 2 rfl ?_
  refine HB.pa 3 rfl ?_
  refine HB.ld 4 rfl rfl memD ?_
  refine HB.pa 5 rfl ?_
  refine HB.pa 6 rfl ?_
  refine HB.pa 7 rfl ?_
  refine HB.ld 8 rfl rfl memD ?_
  refine HB.pa 9 rfl ?_
  refine HB.pa 10 rfl ?_
  refine HB.pa 11 rfl ?_ (POp.sub_h rfl rfl (by omega) (by omega))
  rw [hmin, Int.toNat_natCast, hcut]
  refine HB.all (by (exact Keep.base hcd Keep.nil)) [12] (by kernel_rfl) rfl ⟨⟨_, rfl, ?_⟩, trivial⟩
  refine HP.one ?_
  refine H1.lit (cs := [.string (cutDg24 s)]) rfl rfl rfl rfl rfl rfl (fun b9 => ?_)
  apply HB.fold
  refine HB.all (by (exact Keep.base hcd Keep.nil)) [13] (by kernel_rfl) rfl ⟨⟨_, rfl, ?_⟩, trivial⟩
  refine HP.one ?_
  refine H1.app1 (u := .string (cutDg24 s)) rfl rfl (fun _ _ => by first | ((repeat (first | with_reducible exact Rpl.here | with_reducible apply Rpl.there)); done) | (repeat (first | exact Rpl.here | apply Rpl.there))) memA rfl rfl (by omega) rfl rfl (fun a' c' => ?_)
  rw [strs_snoc, ← hst]
  apply HB.fold
  refine HB.pa 14 rfl ?_
  refine HB.done (by (exact Keep.base hcd Keep.nil)) (by kernel_rfl) ?_
  refine hwNB ?_
  exact HX.again (k + 1, some ⟨a', 0, none⟩, c') ⟨hlt, hk12⟩ (by show 12 - (k + 1) < 12 - k; omega) esA (by repeat (first | exact Hs.nil _ | (refine Hs.cons pickA ?_)))
 by_cases hkl : k < D.length
 ·have hn : ((k : Nat) : Int) < (D.length : Int) := by omega
  have hn12 : ¬ ((k : Nat) : Int) < 12 := by omega
  refine hwNB ?_
  exact HX.ret2 rfl rfl rfl fun w' hM => fin hlt w' (hM.sub (by repeat (first | exact Hs.nil _ | (refine Hs.cons pickA ?_))))
 ·have hn : ¬ ((k : Nat) : Int) < (D.length : Int) := by omega
  refine hwNB ?_
  exact HX.ret2 rfl rfl rfl fun w' hM => fin hlt w' (hM.sub (by repeat (first | exact Hs.nil _ | (refine Hs.cons pickA ?_))))
end Go.Sx
/- Chapter 24: the law LineageMatchesReference: the walk. -/
namespace Go.Sx
open Go Go.Proofs Go.RowKit
theorem lit22 (a b c d : Int) : litC (fun i => some (i * 2, 2)) (zeroRow (2 * 2) [zv 0, zv 0]) [(0, .agg [zv a, zv b].toArray), (1, .agg [zv c, zv d].toArray)] = some [zv a, zv b, zv c, zv d] := by kernel_rfl
theorem two_at (a b c d : Int) {j : Nat} (h : j < 2) : ∃ o e : Int, ∀ (k : Nat) (v : Value), [zv o, zv e][k]? = some v → [zv a, zv b, zv c, zv d][j * 2 + k]? = some v := by
 match j, h with
 | 0, _ =>
  refine ⟨a, b, fun k v hv => ?_⟩
  match k with
  | 0 => exact hv
  | 1 => exact hv
  | k + 2 => cases hv
 | 1, _ =>
  refine ⟨c, d, fun k v hv => ?_⟩
  match k with
  | 0 => exact hv
  | 1 => exact hv
  | k + 2 => cases hv
attribute [local irreducible] WC WL WX POp Then Again Fn NX W1 WA WO QL RP RA Yld LoopAt HC HL HX HN H1 HA HO HQ HB HP A.blk A.grow A.rd A.obj A.mp AgainH CutH
attribute [local irreducible] A.mq A.mit A.all sumS rootP delQ chkP
set_option maxHeartbeats 8000000 in
theorem lineageMatches_fn (vr vd vx vy vf : Value) (raw : List Nd) (D0 : List ByteArray) (U0 : Nat → Value) (rows rowsY : List (List Int)) (f : List Int) (pack order day : Int) (hp : i64W pack) (ho : i64W order) (hd : i64W day)
  (hraw : raw.length ≤ 9223372036854775807) (hsrc : ∀ i, i < raw.length → (ndAt raw i).src.length ≤ 9223372036854775807) (hD0 : D0.length ≤ 9223372036854775807) (hDs0 : ∀ d ∈ D0, d.size ≤ 9223372036854775807) (hf0 : f.length ≤ 9223372036854775807)
  (hrow : ∀ y ∈ rows, y.length = 4 ∧ ∀ z ∈ y, i64W z) (hrowY : ∀ y ∈ rowsY, y.length = 6 ∧ ∀ z ∈ y, i64W z) (w : World) (hG : RoundG w) (hN0 : RdN w vr raw U0) (hS0 : Rd w vd (strs D0)) (hX : RdA 4 w vx rows) (hY : RdA 6 w vy rowsY) (hF : Rd w vf (ints f)) :
  Fn Tryz.prog 6 #[vr, vd, vx, vy, zv pack, vf, zv order, zv day] w fun u w' => u = .bool true ∧ Ext w w' := by
 obtain ⟨af, cf, rfl, hcf⟩ := hF.isInts
 refine enterH (l := [_, _, _, _, _, _, _, _]) rfl Tryz.ntmps6 rfl ?_
 refine hwNB ?_
 refine HL.one (H1.callx (vs := []) rfl rfl (fun w' hM => sane24_fn w' (hG.ext hM.ext)) ?_)
 refine hwNB ?_
 refine HL.one (H1.callr (vs := [_, _]) rfl rfl (fun w' hM => few24_fn hraw hsrc hD0 hDs0 w' (hN0.ext hM.ext) (hS0.ext hM.ext)) ?_)
 rintro wa u w1 hMa ⟨⟨v1, g1, U1, rfl, hN1, hS1⟩, hxa⟩
 have hx1 : Ext w w1 := hMa.ext.trans hxa
 have hl1 := fewNd24_len raw
 have hs1 := fewNd24_src raw
 have hd1 := fewDg24_len D0
 have hz1 := fewDg24_size D0
 generalize fewNd24 raw = N1 at hN1 hl1 hs1
 generalize fewDg24 D0 = D1 at hS1 hd1 hz1
 have hmin : min ((f.length : Nat) : Int) 10 = ((min f.length 10 : Nat) : Int) := by omega
 have hfp := (hF.ext hx1).ipre (k := min f.length 10) (by omega)
 have hf10 : (f.take (min f.length 10)).length = min f.length 10 := by rw [List.length_take]; omega
 refine hwNB ?_
 rw [hmin]
 refine HL.pa ?_ (POp.cutHi24 (n := min f.length 10) rfl rfl (by omega))
 obtain ⟨fs, hfs⟩ : ∃ fs, fs = f.take (min f.length 10) := ⟨_, rfl⟩
 rw [← hfs] at hf10 hfp
 rw [← hf10] at hfp ⊢
 have hf3 : fs.length ≤ 10 := by omega
 clear hfs hf10
 refine hwNB ?_
 refine HL.one (H1.callr (vs := [vx]) rfl rfl (fun w' hM => made24_fn vx rows hrow w' ((hX.ext hx1).ext hM.ext)) ?_)
 rintro wb u w2 hMb ⟨⟨v2, g2, U2, rfl, hN2, hS2⟩, hxb⟩
 have hx2 : Ext w1 w2 := hMb.ext.trans hxb
 have hx12 : Ext w w2 := hx1.trans hx2
 have hok2 := made_ok rows
 generalize madeL rows (madeN rows) = N2 at hN2 hok2
 generalize madeD rows (madeN rows) = D2 at hS2 hok2
 refine hwNB ?_
 refine HL.one (H1.callr (vs := [vy, zv pack, zv 10]) rfl rfl (fun w' hM => asked24_fn vy rowsY pack 10 hp (by constructor <;> decide) hrowY w' ((hY.ext hx12).ext hM.ext)) ?_)
 rintro wc u w3 hMc ⟨⟨B, hB⟩, hxc⟩
 have hx3 : Ext w2 w3 := hMc.ext.trans hxc
 have hx13 : Ext w w3 := hx12.trans hx3
 have hG3 := hG.ext hx13
 have hb7 : (B 7).length ≤ 1000000 := by rw [hB.ord, List.length_singleton]; decide
 have hb4 := hB.h4
 have hb5 := hB.h5
 have hbase := hB.base
 obtain ⟨s, rfl, hs⟩ := id hbase
 have hone : ∀ v ∈ row 8 s, v.oneCell' = true := fun v hv => by
  obtain ⟨i, hi, rfl⟩ := List.mem_map.1 hv
  obtain ⟨a, c, e, -⟩ := (hs i (List.mem_range.1 hi)).shape
  rw [e]; rfl
 clear hs
 have key : ∀ i : Nat, i < 2 → ∃ (vn gn : Value) (N : List Nd) (E : List ByteArray) (V : Nat → Value), (if i = 1 then v1 else v2) = vn ∧ (if i = 1 then g1 else g2) = gn ∧ RdN w3 vn N V ∧ Rd w3 gn (strs E) ∧ N.length ≤ 400000 ∧ (∀ j, j < N.length → (ndAt N j).src.length ≤ 1000000) ∧ E.length ≤ 1000000 ∧ (∀ x ∈ E, x.size ≤ 1000) := by
  intro i _
  by_cases h : i = 1
  ·rw [if_pos h, if_pos h]
   exact ⟨v1, g1, N1, D1, U1, rfl, rfl, hN1.ext (hx2.trans hx3), hS1.ext (hx2.trans hx3), by omega, fun j hj => by have := hs1 j hj; omega, by omega, hz1⟩
  ·rw [if_neg h, if_neg h]
   obtain ⟨p1, p2, p3, p4⟩ := ok_sizes hok2
   exact ⟨v2, g2, N2, D2, U2, rfl, rfl, hN2.ext hx3, hS2.ext hx3, p1, p2, p3, p4⟩
 have hfp3 := hfp.ext (hx2.trans hx3)
 clear hN1 hS1 hN2 hS2 hok2 hl1 hs1 hd1 hz1 hB hfp hMa hMb hMc hxa hxb hxc
 have q80 := pickI21_lt day (n := 80) (by decide)
 refine hwNB ?_
 refine HL.one (H1.alloc (cs := row 8 fun _ => .slice none 0 0) rfl rfl (fun b20 => ?_))
 refine hwNB ?_
 refine HL.one (H1.stAgg (b := b20) (cs := row 8 fun _ => .slice none 0 0) (vs := row 8 s) rfl rfl rfl hone rplA rfl ?_)
 refine hwNB ?_
 refine HC.loop (α := Nat) (fun i => [(0, v1), (1, g1), (5, .slice af fs.length cf), (6, zv order), (7, zv day), (17, .bool true), (18, v2), (19, g2), (20, .pointer (some ⟨b20, 0, none⟩)), (21, zv (i : Int))]) (fun _ => [A.blk b20 (row 8 s) 49]) (fun i => i ≤ 2) (fun i => 2 - i) 0 (Nat.zero_le _) esA (by repeat (first | exact Hs.nil _ | (refine Hs.cons pickA ?_))) ?_
 intro i hi
 by_cases hlt : i < 2
 rotate_left
 ·have hn : ¬ ((i : Nat) : Int) < 2 := by omega
  refine hwNB ?_
  exact HX.ret1 rfl rfl fun w' hM => ⟨rfl, hx13.trans hM.ext⟩
 have hn : ((i : Nat) : Int) < 2 := by omega
 obtain ⟨vn, gn, N, E, V, e1, e2, hN, hS, p1, p2, p3, p4⟩ := key i hlt
 refine hnNC ?_
 refine HC.cut (α := Unit) (fun _ => [(0, v1), (1, g1), (5, .slice af fs.length cf), (6, zv order), (7, zv day), (17, .bool true), (18, v2), (19, g2), (20, .pointer (some ⟨b20, 0, none⟩)), (21, zv (i : Int)), (22, vn), (23, gn)]) (fun _ => [A.blk b20 (row 8 s) 49]) (fun _ => True) ?_ ?_
 ·by_cases h : i = 1
  ·rw [if_pos h] at e1 e2
   subst e1 e2
   have h1 : ((i : Nat) : Int) = 1 := by omega
   refine hwNB ?_
   exact HX.cut () trivial esA (by repeat (first | exact Hs.nil _ | (refine Hs.cons pickA ?_)))
  ·rw [if_neg h] at e1 e2
   subst e1 e2
   have h1 : ¬ ((i : Nat) : Int) = 1 := by omega
   refine hwNB ?_
   exact HX.cut () trivial esA (by repeat (first | exact Hs.nil _ | (refine Hs.cons pickA ?_)))
 rintro - -
 clear e1 e2 key
 obtain ⟨an, cn, rfl, -⟩ := id hN.shape
 refine hwNB ?_
 refine HL.one (H1.callx (vs := [_, _]) rfl rfl (fun w' hM => linRoot_fn p1 p2 p3 p4 w' (hG3.ext hM.ext) (hN.ext hM.ext) (hS.ext hM.ext)) ?_)
 obtain ⟨e0, ra, hroot, -⟩ := rootIf N E
 rw [hroot]
 refine hwNB ?_
 refine HL.one (H1.callx (vs := [_, _]) rfl rfl (fun w' hM => rootR24_fn p1 p2 p3 p4 w' (hN.ext hM.ext) (hS.ext hM.ext)) ?_)
 rw [hroot]
 clear hroot
 have hra : (decide ¬ ra = ra) = false := by simp
 have hre : (decide ¬ e0 = e0) = false := by simp
 refine hwNB ?_
 refine HL.one (H1.callx (vs := [_]) rfl rfl (fun w' hM => valid24_fn (by omega) p2 w' (hN.ext hM.ext)) ?_)
 refine hwNB ?_
 refine HL.one (H1.callx (vs := [_]) rfl rfl (fun w' hM => valid24ref_fn p1 p2 w' (hN.ext hM.ext)) ?_)
 generalize hvv : validN N = bv
 have hbv : (!(bv == bv)) = false := by cases bv <;> rfl
 refine hwNB ?_
 refine HL.one (H1.callz (vs := [_, _]) rfl rfl (fun w' hM => derivedA_fn p1 p2 (by omega) w' (hN.ext hM.ext) (hfp3.ext hM.ext)) ?_)
 rintro ⟨a1, c1⟩ -
 dsimp only
 refine hwNB ?_
 refine HL.one (H1.callz (vs := [_, _]) rfl rfl (fun w' hM => derivedR_fn p1 p2 (by omega) w' (hN.ext hM.ext) (hfp3.ext hM.ext)) ?_)
 rintro ⟨a2, c2⟩ -
 dsimp only
 refine hwNB ?_
 refine HL.one (H1.callx (u := .bool true) (vs := [_, _]) rfl rfl (fun w' hM => (SameInts_fn _ _ (derA N fs) (derA N fs) w' (hM.gr (a := a1) (c := c1) memA) (hM.gr (a := a2) (c := c2) memA) (by have := derA_len N fs; omega)).mono fun v w'' h => ⟨h.1.trans (by rw [decide_eq_true rfl]), h.2⟩) ?_)
 refine hwNB ?_
 refine HL.build (cs := [zv order, zv day]) rfl rfl rfl ?_
 refine hwNB ?_
 refine HL.one (H1.call0 (vs := [zv day, zv 80]) rfl rfl (fun w' _ => lpick24_fn day 80 hd.1 hd.2 (by decide) w') ?_)
 generalize pickI21 day 80 = p80 at q80
 refine hwNB ?_
 refine HL.build (cs := [zv 5, zv p80]) rfl rfl rfl ?_
 refine hwNB ?_
 refine HL.one (H1.lit (zs := [zv 0, zv 0]) (pv := [(0, .agg [zv order, zv day].toArray), (1, .agg [zv 5, zv p80].toArray)]) (cs := [zv order, zv day, zv 5, zv p80]) rfl rfl (lit22 order day 5 p80) rfl rfl rfl (fun bq => ?_))
 refine hwNB ?_
 refine HC.loop (α := Nat) (fun j => [(0, v1), (1, g1), (5, .slice af fs.length cf), (6, zv order), (7, zv day), (17, .bool true), (18, v2), (19, g2), (20, .pointer (some ⟨b20, 0, none⟩)), (21, zv (i : Int)), (22, .slice an N.length cn), (23, gn), (111, .slice (some ⟨bq, 0, none⟩) 2 2), (112, zv 2), (113, zv (j : Int))]) (fun _ => [A.blk bq [zv order, zv day, zv 5, zv p80] 58, A.blk b20 (row 8 s) 49]) (fun j => j ≤ 2) (fun j => 2 - j) 0 (Nat.zero_le _) esA (by repeat (first | exact Hs.nil _ | (refine Hs.cons pickA ?_))) ?_
 intro j hj
 by_cases hj2 : j < 2
 rotate_left
 ·have hn : ¬ ((j : Nat) : Int) < 2 := by omega
  refine hwNB ?_
  exact HX.again (i + 1) hlt (by show 2 - (i + 1) < 2 - i; omega) esA (by repeat (first | exact Hs.nil _ | (refine Hs.cons pickA ?_)))
 have hnj : ((j : Nat) : Int) < 2 := by omega
 obtain ⟨o, d, hod⟩ := two_at order day 5 p80 hj2
 refine hwNB ?_
 refine HL.one (H1.ldAgg (b := bq) (off := j * 2) (vs := [zv o, zv d]) rfl memA rfl hod rfl ?_)
 refine hwNB ?_
 refine HL.one (H1.alloc (cs := [zv 0, zv 0]) rfl rfl (fun b29 => ?_))
 refine hwNB ?_
 refine HL.one (H1.stAgg (b := b29) (cs := [zv 0, zv 0]) (vs := [zv o, zv d]) rfl rfl rfl (by intro v hv; simp only [List.mem_cons, List.not_mem_nil, or_false] at hv; rcases hv with rfl | rfl <;> rfl) rplA rfl ?_)
 refine hwNB ?_
 refine HL.one (H1.ldAgg (b := b20) (vs := row 8 s) rfl memA rfl (fun i v hv => by rw [Nat.zero_add]; exact hv) rfl ?_)
 refine hwNB ?_
 cases hq : delQ B N E o d with
 | none =>
  refine HL.one (H1.callx (vs := [.agg (row 8 s).toArray, _, _, zv o, zv d]) rfl rfl (fun w' hM => delete_no hq p1 p2 p3 p4 hb7 (by omega) (by omega) w' (hG3.ext hM.ext) (hbase.ext hM.ext) (hN.ext hM.ext) (hS.ext hM.ext)) ?_)
  unfold delNo
  refine hwNB ?_
  refine HL.one (H1.alloc (cs := tomb0) rfl rfl (fun b32 => ?_))
  refine hwNB ?_
  refine HL.one (H1.stAgg (b := b32) (cs := tomb0) (vs := tomb0) rfl rfl rfl (by intro v hv; simp only [tomb0, List.mem_cons, List.not_mem_nil, or_false] at hv; rcases hv with rfl | rfl | rfl | rfl | rfl | rfl <;> rfl) rplA rfl ?_)
  refine hwNB ?_
  refine HL.one (H1.ldAgg (b := b20) (vs := row 8 s) rfl memA rfl (fun i v hv => by rw [Nat.zero_add]; exact hv) rfl ?_)
  refine hwNB ?_
  refine HL.one (H1.callx (vs := [.agg (row 8 s).toArray, _, _, zv o, zv d]) rfl rfl (fun w' hM => deleteR_no hq p1 p2 p3 p4 hb7 (by omega) (by omega) w' (hbase.ext hM.ext) (hN.ext hM.ext) (hS.ext hM.ext)) ?_)
  unfold delNo
  refine hwNB ?_
  refine HL.one (H1.alloc (cs := tomb0) rfl rfl (fun b36 => ?_))
  refine hwNB ?_
  refine HL.one (H1.stAgg (b := b36) (cs := tomb0) (vs := tomb0) rfl rfl rfl (by intro v hv; simp only [tomb0, List.mem_cons, List.not_mem_nil, or_false] at hv; rcases hv with rfl | rfl | rfl | rfl | rfl | rfl <;> rfl) rplA rfl ?_)
  refine hwNB ?_
  refine HL.one (H1.callx (u := .bool true) (vs := [_, _]) rfl rfl (fun w' _ => sameNodes_fn (l := []) (m := []) (by decide) (fun i hi => by cases hi) w' (rdN_nil _) (rdN_nil _)) ?_)
  refine hwNB ?_
  refine HL.one (H1.callx (u := .bool true) (vs := [_, _]) rfl rfl (fun w' _ => SameInts_fn _ _ [] [] w' (rdI_nil _) (rdI_nil _) (by decide)) ?_)
  refine hwNB ?_
  refine HL.one (H1.ldAgg (b := b32) (vs := tomb0) rfl memA rfl (fun i v hv => by rw [Nat.zero_add]; exact hv) rfl ?_)
  refine hwNB ?_
  refine HL.one (H1.ldAgg (b := b36) (vs := tomb0) rfl memA rfl (fun i v hv => by rw [Nat.zero_add]; exact hv) rfl ?_)
  refine hwNB ?_
  refine HL.one (H1.callx (u := .bool true) (vs := [_, _]) rfl rfl (fun w' _ => sameTomb24_fn (ns := []) (ds := []) 0 0 ⟨#[]⟩ ⟨#[]⟩ (by decide) (by decide) w' (rdI_nil _) (rdS_nil _) (rdI_nil _) (rdS_nil _)) ?_)
  refine hwNB ?_
  refine HC.quietS [(some 173, [36], []), (some 174, [22], []), (some 175, [23], []), (some 176, [34], []), (some 177, [35], []), (some 178, [173, 174, 175, 176, 177], [0, 1, 2, 3, 4]), (some 179, [36], []), (some 180, [22], []), (some 181, [23], []), (some 182, [34], []), (some 183, [35], []), (some 184, [179, 180, 181, 182, 183], [6, 7, 8, 9, 10, 5]), (some 185, [178, 184], [5, 11]), (some 186, [185], [12, 11]), (some 187, [36, 186], [13]), (some 188, [22, 186], [13]), (some 189, [23, 186], [13]), (some 190, [22, 186], [13]), (some 191, [23, 186], [13]), (some 192, [187, 188, 189, 190, 191, 186], [14, 15, 16, 17, 18, 13, 13]), (some 193, [36, 186], [13]), (some 194, [22, 186], [13]), (some 195, [23, 186], [13]), (some 196, [22, 186], [13]), (some 197, [23, 186], [13]), (some 198, [193, 194, 195, 196, 197, 186], [20, 21, 22, 23, 24, 19, 13]), (some 199, [192, 198, 186], [19, 25, 13]), (some 200, [186, 199], [13, 26])] (by kernel_rfl) (by kernel_rfl) (by kernel_rfl) ?_
  refine HQ.ldAgg (b := b36) (off := 0) (vs := tomb0) rfl rfl (fun w' hM i v hv => (hM.blk (b := b36) memA).cell (by rwa [Nat.zero_add])) rfl ?_
  iterate 4 refine HQ.pa ?_
  refine HQ.call (v := .bool (chkP (⟨#[]⟩ : ByteArray) (⟨#[]⟩ : ByteArray) [] [] N E [] [])) (vs := [_, _, _, _, _]) rfl rfl (fun w' hM => check_fn (l2 := []) (D2 := []) (ns := []) (ds := []) (U2 := (fun _ => .bool false)) 0 0 (⟨#[]⟩ : ByteArray) (⟨#[]⟩ : ByteArray) p1 p2 p3 p4 (by decide) (fun i hi => by cases hi) (by decide) (fun x hx => by cases hx) (by decide) (by decide) w' (hG3.ext hM.ext) (hN.ext hM.ext) (hS.ext hM.ext) (rdN_nil _) (rdS_nil _) (rdI_nil _) (rdS_nil _)) ?_
  refine HQ.ldAgg (b := b36) (off := 0) (vs := tomb0) rfl rfl (fun w' hM i v hv => (hM.blk (b := b36) memA).cell (by rwa [Nat.zero_add])) rfl ?_
  iterate 4 refine HQ.pa ?_
  refine HQ.call (v := .bool (chkP (⟨#[]⟩ : ByteArray) (⟨#[]⟩ : ByteArray) [] [] N E [] [])) (vs := [_, _, _, _, _]) rfl rfl (fun w' hM => checkR_fn (l2 := []) (D2 := []) (ns := []) (ds := []) (U2 := (fun _ => .bool false)) 0 0 (⟨#[]⟩ : ByteArray) (⟨#[]⟩ : ByteArray) p1 p2 p3 p4 (by decide) (fun i hi => by cases hi) (by decide) (fun x hx => by cases hx) (by decide) w' (hN.ext hM.ext) (hS.ext hM.ext) (rdN_nil _) (rdS_nil _) (rdI_nil _) (rdS_nil _)) ?_
  generalize chkP (⟨#[]⟩ : ByteArray) (⟨#[]⟩ : ByteArray) [] [] N E [] [] = q1
  have hq1 : (!(q1 == q1)) = false := by cases q1 <;> rfl
  iterate 2 refine HQ.pa ?_
  refine HQ.ga rfl ?_
  refine HQ.ldAgg (b := b36) (off := 0) (vs := tomb0) rfl rfl (fun w' hM i v hv => (hM.blk (b := b36) memA).cell (by rwa [Nat.zero_add])) rfl ?_
  refine HQ.ga rfl ?_
  refine HQ.pa ?_
  refine HQ.ga rfl ?_
  refine HQ.pa ?_
  refine HQ.ga rfl ?_
  refine HQ.pa ?_
  refine HQ.ga rfl ?_
  refine HQ.pa ?_
  refine HQ.ga rfl ?_
  refine HQ.call (v := .bool (chkP (⟨#[]⟩ : ByteArray) (⟨#[]⟩ : ByteArray) [] [] N E N E)) (vs := [_, _, _, _, _]) rfl rfl (fun w' hM => check_fn (l2 := N) (D2 := E) (ns := []) (ds := []) 0 0 (⟨#[]⟩ : ByteArray) (⟨#[]⟩ : ByteArray) p1 p2 p3 p4 p1 p2 p3 p4 (by decide) (by decide) w' (hG3.ext hM.ext) (hN.ext hM.ext) (hS.ext hM.ext) (hN.ext hM.ext) (hS.ext hM.ext) (rdI_nil _) (rdS_nil _)) ?_
  refine HQ.ga rfl ?_
  refine HQ.ldAgg (b := b36) (off := 0) (vs := tomb0) rfl rfl (fun w' hM i v hv => (hM.blk (b := b36) memA).cell (by rwa [Nat.zero_add])) rfl ?_
  refine HQ.ga rfl ?_
  refine HQ.pa ?_
  refine HQ.ga rfl ?_
  refine HQ.pa ?_
  refine HQ.ga rfl ?_
  refine HQ.pa ?_
  refine HQ.ga rfl ?_
  refine HQ.pa ?_
  refine HQ.ga rfl ?_
  refine HQ.call (v := .bool (chkP (⟨#[]⟩ : ByteArray) (⟨#[]⟩ : ByteArray) [] [] N E N E)) (vs := [_, _, _, _, _]) rfl rfl (fun w' hM => checkR_fn (l2 := N) (D2 := E) (ns := []) (ds := []) 0 0 (⟨#[]⟩ : ByteArray) (⟨#[]⟩ : ByteArray) p1 p2 p3 p4 p1 p2 p3 p4 (by decide) w' (hN.ext hM.ext) (hS.ext hM.ext) (hN.ext hM.ext) (hS.ext hM.ext) (rdI_nil _) (rdS_nil _)) ?_
  generalize chkP (⟨#[]⟩ : ByteArray) (⟨#[]⟩ : ByteArray) [] [] N E N E = q2
  have hq2 : (!(q2 == q2)) = false := by cases q2 <;> rfl
  refine HQ.ga rfl ?_
  refine HQ.pa ?_
  refine HQ.pa ?_
  refine HQ.nil ?_
  refine hwNB ?_
  exact HX.again (j + 1) hj2 (by show 2 - (j + 1) < 2 - j; omega) esA (by repeat (first | exact Hs.nil _ | (refine Hs.cons pickA ?_)))
 | some pk =>
  have hok := delQ_ok hq
  have hokl : okS (ndsP (prN N E (goneL N pk) false)) (digP (prN N E (goneL N pk) false)) = true := left_ok hok _
  obtain ⟨u1, u2, u3, u4⟩ := ok_sizes hokl
  have hg0 : (goneL N pk).length ≤ N.length := derL_len _ _ _
  have hgl1 : (srtI (goneL N pk)).length ≤ 1000000 := by rw [srtI_len]; omega
  have hdl1 : (digP (prN N E (goneL N pk) true)).length ≤ 1000000 := by rw [digP_len, ← ndsP_len]; have := prN_len (okS_facts hok).2.1 (goneL N pk) true; omega
  refine HL.one (H1.callz (vs := [.agg (row 8 s).toArray, _, _, zv o, zv d]) rfl rfl (fun w' hM => delete_yes hq p1 p2 p3 p4 hb7 (by omega) (by omega) w' (hG3.ext hM.ext) (hbase.ext hM.ext) (hN.ext hM.ext) (hS.ext hM.ext)) ?_)
  rintro z1 hz1
  unfold delH delYes
  refine hwNB ?_
  refine HL.one (H1.alloc (cs := tomb0) rfl rfl (fun b32 => ?_))
  refine hwNB ?_
  refine HL.one (H1.stAgg (b := b32) (cs := tomb0) (vs := tombV o d N E pk z1) rfl rfl rfl (tombV_one _ _ _ _ _ _) rplA rfl ?_)
  refine hwNB ?_
  refine HL.one (H1.ldAgg (b := b20) (vs := row 8 s) rfl memA rfl (fun i v hv => by rw [Nat.zero_add]; exact hv) rfl ?_)
  refine hwNB ?_
  refine HL.one (H1.callz (vs := [.agg (row 8 s).toArray, _, _, zv o, zv d]) rfl rfl (fun w' hM => deleteR_yes hq p1 p2 p3 p4 hb7 (by omega) (by omega) w' (hbase.ext hM.ext) (hN.ext hM.ext) (hS.ext hM.ext)) ?_)
  rintro z2 hz2
  unfold delH delYes
  refine hwNB ?_
  refine HL.one (H1.alloc (cs := tomb0) rfl rfl (fun b36 => ?_))
  refine hwNB ?_
  refine HL.one (H1.stAgg (b := b36) (cs := tomb0) (vs := tombV o d N E pk z2) rfl rfl rfl (tombV_one _ _ _ _ _ _) rplA rfl ?_)
  have hl12 : z1.left.length = z2.left.length := by
   have h1 := congrArg List.length hz1
   have h2 := congrArg List.length hz2
   rw [ndsZ_len] at h1 h2
   omega
  have hne12 : ¬ ((z1.left.length : Nat) : Int) ≠ (z2.left.length : Int) := by omega
  refine hwNB ?_
  refine HL.one (H1.callx (u := .bool true) (vs := [_, _]) rfl rfl (fun w' hM => by
   have h := sameNodes_fn (l := ndsZ z1.left) (m := ndsZ z2.left) (v := .slice z1.a1 z1.left.length z1.c1) (u := .slice z2.a1 z2.left.length z2.c1) (by rw [hz1]; exact u1) (by rw [hz1]; exact u2) w' (hM.rdN memA memA) (hM.rdN memA memA)
   rw [hz1, hz2, eqNs_iff.2 rfl] at h
   exact h) ?_)
  refine hwNB ?_
  refine HL.one (H1.callx (u := .bool true) (vs := [_, _]) rfl rfl (fun w' hM => (SameInts_fn _ _ (srtI (goneL N pk)) (srtI (goneL N pk)) w' (hM.gr (a := z1.ai) (c := z1.ci) memA) (hM.gr (a := z2.ai) (c := z2.ci) memA) hgl1).mono fun v w'' h => ⟨h.1.trans (by rw [decide_eq_true rfl]), h.2⟩) ?_)
  refine hwNB ?_
  refine HL.one (H1.ldAgg (b := b32) (vs := tombV o d N E pk z1) rfl memA rfl (fun i v hv => by rw [Nat.zero_add]; exact hv) rfl ?_)
  refine hwNB ?_
  refine HL.one (H1.ldAgg (b := b36) (vs := tombV o d N E pk z2) rfl memA rfl (fun i v hv => by rw [Nat.zero_add]; exact hv) rfl ?_)
  refine hwNB ?_
  refine HL.one (H1.callx (u := .bool true) (vs := [_, _]) rfl rfl (fun w' hM => sameTomb24_fn (ns := srtI (goneL N pk)) (ds := digP (prN N E (goneL N pk) true)) o d _ _ hgl1 hdl1 w' (hM.gr (a := z1.ai) (c := z1.ci) memA) (hM.gr (a := z1.ad) (c := z1.cd) memA) (hM.gr (a := z2.ai) (c := z2.ci) memA) (hM.gr (a := z2.ad) (c := z2.cd) memA)) ?_)
  refine hwNB ?_
  refine HC.quietS [(some 173, [36], []), (some 174, [22], []), (some 175, [23], []), (some 176, [34], []), (some 177, [35], []), (some 178, [173, 174, 175, 176, 177], [0, 1, 2, 3, 4]), (some 179, [36], []), (some 180, [22], []), (some 181, [23], []), (some 182, [34], []), (some 183, [35], []), (some 184, [179, 180, 181, 182, 183], [6, 7, 8, 9, 10, 5]), (some 185, [178, 184], [5, 11]), (some 186, [185], [12, 11]), (some 187, [36, 186], [13]), (some 188, [22, 186], [13]), (some 189, [23, 186], [13]), (some 190, [22, 186], [13]), (some 191, [23, 186], [13]), (some 192, [187, 188, 189, 190, 191, 186], [14, 15, 16, 17, 18, 13, 13]), (some 193, [36, 186], [13]), (some 194, [22, 186], [13]), (some 195, [23, 186], [13]), (some 196, [22, 186], [13]), (some 197, [23, 186], [13]), (some 198, [193, 194, 195, 196, 197, 186], [20, 21, 22, 23, 24, 19, 13]), (some 199, [192, 198, 186], [19, 25, 13]), (some 200, [186, 199], [13, 26])] (by kernel_rfl) (by kernel_rfl) (by kernel_rfl) ?_
  refine HQ.ldAgg (b := b36) (off := 0) (vs := tombV o d N E pk z2) rfl rfl (fun w' hM i v hv => (hM.blk (b := b36) memA).cell (by rwa [Nat.zero_add])) rfl ?_
  iterate 4 refine HQ.pa ?_
  refine HQ.call (v := .bool (chkP (rootP (N.zip E)) (rootP (prN N E (goneL N pk) false)) (srtI (goneL N pk)) (digP (prN N E (goneL N pk) true)) N E (ndsP (prN N E (goneL N pk) false)) (digP (prN N E (goneL N pk) false)))) (vs := [_, _, _, _, _]) rfl rfl (fun w' hM => check_fn (l2 := (ndsP (prN N E (goneL N pk) false))) (D2 := (digP (prN N E (goneL N pk) false))) (ns := (srtI (goneL N pk))) (ds := (digP (prN N E (goneL N pk) true))) (U2 := (adrZ z2.left)) o d (rootP (N.zip E)) (rootP (prN N E (goneL N pk) false)) p1 p2 p3 p4 u1 u2 u3 u4 hgl1 hdl1 w' (hG3.ext hM.ext) (hN.ext hM.ext) (hS.ext hM.ext) (by have h := hM.rdN (a := z2.a1) (c := z2.c1) (z := z2.left) memA memA; rw [hz2] at h; exact h) (hM.gr (a := z2.a2) (c := z2.c2) memA) (hM.gr (a := z2.ai) (c := z2.ci) memA) (hM.gr (a := z2.ad) (c := z2.cd) memA)) ?_
  refine HQ.ldAgg (b := b36) (off := 0) (vs := tombV o d N E pk z2) rfl rfl (fun w' hM i v hv => (hM.blk (b := b36) memA).cell (by rwa [Nat.zero_add])) rfl ?_
  iterate 4 refine HQ.pa ?_
  refine HQ.call (v := .bool (chkP (rootP (N.zip E)) (rootP (prN N E (goneL N pk) false)) (srtI (goneL N pk)) (digP (prN N E (goneL N pk) true)) N E (ndsP (prN N E (goneL N pk) false)) (digP (prN N E (goneL N pk) false)))) (vs := [_, _, _, _, _]) rfl rfl (fun w' hM => checkR_fn (l2 := (ndsP (prN N E (goneL N pk) false))) (D2 := (digP (prN N E (goneL N pk) false))) (ns := (srtI (goneL N pk))) (ds := (digP (prN N E (goneL N pk) true))) (U2 := (adrZ z2.left)) o d (rootP (N.zip E)) (rootP (prN N E (goneL N pk) false)) p1 p2 p3 p4 u1 u2 u3 u4 hgl1 w' (hN.ext hM.ext) (hS.ext hM.ext) (by have h := hM.rdN (a := z2.a1) (c := z2.c1) (z := z2.left) memA memA; rw [hz2] at h; exact h) (hM.gr (a := z2.a2) (c := z2.c2) memA) (hM.gr (a := z2.ai) (c := z2.ci) memA) (hM.gr (a := z2.ad) (c := z2.cd) memA)) ?_
  generalize chkP (rootP (N.zip E)) (rootP (prN N E (goneL N pk) false)) (srtI (goneL N pk)) (digP (prN N E (goneL N pk) true)) N E (ndsP (prN N E (goneL N pk) false)) (digP (prN N E (goneL N pk) false)) = q1
  have hq1 : (!(q1 == q1)) = false := by cases q1 <;> rfl
  iterate 2 refine HQ.pa ?_
  refine HQ.ga rfl ?_
  refine HQ.ldAgg (b := b36) (off := 0) (vs := tombV o d N E pk z2) rfl rfl (fun w' hM i v hv => (hM.blk (b := b36) memA).cell (by rwa [Nat.zero_add])) rfl ?_
  refine HQ.ga rfl ?_
  refine HQ.pa ?_
  refine HQ.ga rfl ?_
  refine HQ.pa ?_
  refine HQ.ga rfl ?_
  refine HQ.pa ?_
  refine HQ.ga rfl ?_
  refine HQ.pa ?_
  refine HQ.ga rfl ?_
  refine HQ.call (v := .bool (chkP (rootP (N.zip E)) (rootP (prN N E (goneL N pk) false)) (srtI (goneL N pk)) (digP (prN N E (goneL N pk) true)) N E N E)) (vs := [_, _, _, _, _]) rfl rfl (fun w' hM => check_fn (l2 := N) (D2 := E) (ns := (srtI (goneL N pk))) (ds := (digP (prN N E (goneL N pk) true))) o d (rootP (N.zip E)) (rootP (prN N E (goneL N pk) false)) p1 p2 p3 p4 p1 p2 p3 p4 hgl1 hdl1 w' (hG3.ext hM.ext) (hN.ext hM.ext) (hS.ext hM.ext) (hN.ext hM.ext) (hS.ext hM.ext) (hM.gr (a := z2.ai) (c := z2.ci) memA) (hM.gr (a := z2.ad) (c := z2.cd) memA)) ?_
  refine HQ.ga rfl ?_
  refine HQ.ldAgg (b := b36) (off := 0) (vs := tombV o d N E pk z2) rfl rfl (fun w' hM i v hv => (hM.blk (b := b36) memA).cell (by rwa [Nat.zero_add])) rfl ?_
  refine HQ.ga rfl ?_
  refine HQ.pa ?_
  refine HQ.ga rfl ?_
  refine HQ.pa ?_
  refine HQ.ga rfl ?_
  refine HQ.pa ?_
  refine HQ.ga rfl ?_
  refine HQ.pa ?_
  refine HQ.ga rfl ?_
  refine HQ.call (v := .bool (chkP (rootP (N.zip E)) (rootP (prN N E (goneL N pk) false)) (srtI (goneL N pk)) (digP (prN N E (goneL N pk) true)) N E N E)) (vs := [_, _, _, _, _]) rfl rfl (fun w' hM => checkR_fn (l2 := N) (D2 := E) (ns := (srtI (goneL N pk))) (ds := (digP (prN N E (goneL N pk) true))) o d (rootP (N.zip E)) (rootP (prN N E (goneL N pk) false)) p1 p2 p3 p4 p1 p2 p3 p4 hgl1 w' (hN.ext hM.ext) (hS.ext hM.ext) (hN.ext hM.ext) (hS.ext hM.ext) (hM.gr (a := z2.ai) (c := z2.ci) memA) (hM.gr (a := z2.ad) (c := z2.cd) memA)) ?_
  generalize chkP (rootP (N.zip E)) (rootP (prN N E (goneL N pk) false)) (srtI (goneL N pk)) (digP (prN N E (goneL N pk) true)) N E N E = q2
  have hq2 : (!(q2 == q2)) = false := by cases q2 <;> rfl
  refine HQ.ga rfl ?_
  refine HQ.pa ?_
  refine HQ.pa ?_
  refine HQ.nil ?_
  refine hwNB ?_
  exact HX.again (j + 1) hj2 (by show 2 - (j + 1) < 2 - j; omega) esA (by repeat (first | exact Hs.nil _ | (refine Hs.cons pickA ?_)))
end Go.Sx
/- From a function's contract to a row's statement: arguments that are numbers, arrays of numbers, slices of arrays of numbers, records. -/
namespace Go.Sx
open Go Go.ChangeShapes Go.WideShapes Go.ChangeAt Go.RowKit
section
variable {H : Type} {enc : TypeId × Value → H} {P : Program} {w : World} {b : Nat} {sp : Nat → Bool} {hd : Bool}
theorem args_cons {t : TypeId} {ts : List TypeId} {vs : List Value} {ds : List (DataW H)} {ps : List MemPlace} (h : DataW.TrodAll enc P w b sp hd (t :: ts) vs ds ps) :
  ∃ v vs' d ds' p q, vs = v :: vs' ∧ ds = d :: ds' ∧ ps = p ++ q ∧ DataW.Trod enc P w b sp hd t v d p ∧ DataW.TrodAll enc P w b sp hd ts vs' ds' q := by
 cases vs with
 | nil => exact h.elim
 | cons v vs =>
  cases ds with
  | nil => exact h.elim
  | cons d ds =>
   obtain ⟨p, q, h1, h2, h3⟩ := h
   exact ⟨v, vs, d, ds, p, q, rfl, rfl, h3, h1, h2⟩
theorem args_nil {vs : List Value} {ds : List (DataW H)} {ps : List MemPlace} (h : DataW.TrodAll enc P w b sp hd [] vs ds ps) : vs = [] ∧ ds = [] ∧ ps = [] := by
 cases vs with
 | cons v vs => exact h.elim
 | nil => cases ds with
  | cons d ds => exact h.elim
  | nil => exact ⟨rfl, rfl, h⟩
theorem trodAll_ext (hl : laidOutB P = true) {W W' : World} (hx : Below W.heap.size W W') : ∀ {ts : List TypeId} {vs : List Value} {ds : List (DataW H)} {ps : List MemPlace}, (ts.all fun t => P.readableRec t && decide (t < P.types.size)) = true →
  DataW.TrodAll enc P W 0 (fun _ => true) true ts vs ds ps → (∀ p ∈ ps, p.block < W.heap.size) → ∀ sp : Nat → Bool, (∀ p ∈ ps, sp p.block = true) → DataW.TrodAll enc P W' 0 sp true ts vs ds ps
 | [], [], [], _, _, h, _, _, _ => h
 | [], [], _ :: _, _, _, h, _, _, _ => h.elim
 | [], _ :: _, _, _, _, h, _, _, _ => h.elim
 | _ :: _, [], _, _, _, h, _, _, _ => h.elim
 | _ :: _, _ :: _, [], _, _, h, _, _, _ => h.elim
 | t :: ts, v :: vs, d :: ds, ps, ht, h, hlt, sp, hsp => by
  obtain ⟨p, q, h1, h2, rfl⟩ := h
  simp only [List.all_cons, Bool.and_eq_true, decide_eq_true_eq] at ht
  refine ⟨p, q, ?_, trodAll_ext hl hx ht.2 h2 (fun x hx => hlt x (by simp [hx])) sp (fun x hx => hsp x (by simp [hx])), rfl⟩
  exact WideElems.Trod_stays hl ht.1.1 ht.1.2 h1 (fun x hx' => hx.same (hlt x (by simp [hx']))) (fun x hx' => hsp x (by simp [hx']))
end
end Go.Sx
namespace Go.Sx
open Go Go.Proofs Go.ChangeShapes Go.WideShapes Go.ChangeAt Go.RowKit
theorem ints_rowK (f : Nat → Int) (n : Nat) : ints ((List.range n).map f) = row n fun q => zv (f q) := by
 unfold ints row
 rw [List.map_map]; rfl
theorem post_ext {H : Type} {enc : TypeId × Value → H} {P : Program} {f : Func} {s : ChangeSpec} {apart fresh handsOn again : Bool} {W W' : World} {args : Array Value} {v : Value} {ds gs : List (DataW H)} {before pa pv : List MemPlace} (hx : Ext W W')
  (hW : DataW.Whole enc P f.params.toList s.vars apart W args.toList ds gs before)
  (hres : ∀ (b : Nat) (sp : Nat → Bool) (hd : Bool), DataW.TrodAll enc P W' b sp hd f.resultTypes.toList (v.resultList f.resultTypes.size) (s.fn H (ds ++ gs)).results [])
  (hargs : ∀ sp : Nat → Bool, (∀ p ∈ before, sp p.block = true) → DataW.TrodAll enc P W' 0 sp true f.params.toList args.toList (s.fn H (ds ++ gs)).args pa)
  (hvars : ∀ sp : Nat → Bool, (∀ p ∈ before, sp p.block = true) → DataW.TrodVars enc P W' sp s.vars (s.fn H (ds ++ gs)).vars pv)
  (hps : before = pa ++ pv)
  (hok : ∀ (j : Nat) (t : TypeId) (r : Value), f.resultTypes[j]? = some t → (v.resultList f.resultTypes.size)[j]? = some r → Value.okWide P W' .any 0 t r) :
  s.post enc P f apart fresh handsOn again W args v W' := by
 have hlt : ∀ p ∈ before, p.block < W.heap.size := fun p hp => hW.lt p hp
 have hold : ∀ p ∈ before, (fun b => decide (b < W.heap.size)) p.block = true := fun p hp => by simpa using hW.lt p hp
 refine ⟨ds, gs, before, [], pa, pv, hW, hres _ _ _, hargs _ hold, hvars _ hold, (World.keptBut_refl W _).congr hx.os hx.output hx.block, fun _ => ?_⟩
 obtain ⟨_, _, _, _, _, hz, hn⟩ := hW
 refine ⟨hok, _, _, ([] ++ pa) ++ pv, ⟨[] ++ pa, pv, trodAll_append (hargs _ (fun _ _ => rfl)) (hres _ _ _), hvars _ (fun _ _ => rfl), rfl, ?_, ?_⟩, ?_⟩
 ·intro b off hp
  have hp' : MemPlace.cell b off ∈ before := by rw [hps]; simpa using hp
  rw [World.frozen?_of_block (hx.block b (hlt _ hp'))]
  exact hz b off hp'
 ·intro ha
  have := hn ha
  rw [hps] at this
  simpa using this
 ·intro p hp _
  rw [hps]
  simpa using hp
theorem i64_of {x : Int} (h : (Lit.int .i64 x).wf = true) : i64W x := by
 simp only [Lit.wf, Bool.and_eq_true, decide_eq_true_eq] at h
 have e1 : IntKind.i64.min = -9223372036854775808 := rfl
 have e2 : IntKind.i64.max = 9223372036854775807 := rfl
 rw [e1, e2] at h
 exact h
theorem ownK : ownKnob Tryz.prog.godebug = none := by kernel_rfl
section
variable {H : Type} {enc : TypeId × Value → H} {P : Program} {W : World} {r : Reach} {b0 b : Nat} {sp : Nat → Bool} {hd : Bool} {v : Value} {d : DataW H} {p : List MemPlace}
theorem spot_none {W : World} {a : Addr} {v : Value} (h : W.cell? a = some v) : a = ⟨a.block, a.off, none⟩ ∧ a.block < W.heap.size := by
 unfold World.cell? at h
 split at h
 ·rename_i c e f hc
  split at h
  ·cases h
  ·rename_i hs
   refine ⟨?_, (Array.getElem?_eq_some_iff.1 hc).1⟩
   cases a with
   | mk b o s => cases s <;> simp_all
 ·cases h
def cellInt (W : World) (a : Addr) : Int := match W.cell? a with | some (.int _ z) => z | _ => 0
theorem open_sl {t e : Nat} (ht : P.underlying t = some (.slice e)) (he : P.underlying e = some (.int .i64)) (hce : P.cellsOf e = 1) (hv : Value.okWide P W r b0 t v) (h : DataW.Trod enc P W b sp hd t v d p) :
  ∃ l : List Int, Rd W v (ints l) ∧ (∀ x ∈ l, i64W x) ∧ l.length ≤ 9223372036854775807 := by
 obtain ⟨fuel, hf⟩ := h
 obtain ⟨a, n, c, rfl⟩ := okWide_slice ht hv
 have hcells : (Value.slice a n c).cells.toList = [Value.slice a n c] := rfl
 rw [hcells] at hf
 rcases DataW.trod_slice ht hf with ⟨h0, -⟩ | ⟨a', len, cap, elems, rest, m, -, hcs, -, hb, hlc, hm, hlen, hel, -, -⟩
 ·cases h0
  exact ⟨[], ⟨_, _, rfl, Nat.le_refl _, .inl rfl⟩, by simp, by simp⟩
 ·cases hcs
  have hnm : n ≤ 9223372036854775807 := by simp only [maxLen] at hm; omega
  have key : ∀ q, q < n → ∃ z, W.cell? (a'.add q) = some (.int .i64 z) ∧ (Lit.int .i64 z).wf = true := fun q hq => by
   have h1 := hel q hq
   rw [hce, Nat.mul_one, List.getElem?_eq_getElem (by omega)] at h1
   cases hcs : W.cells? b (a'.add q) 1 with
   | none => rw [hcs] at h1; cases h1
   | some cs =>
    rw [hcs] at h1
    simp only [Option.bind_some] at h1
    obtain ⟨z, e1, -, wz⟩ := DataW.trod_int he h1
    have h3 := (World.cells?_some hcs).2.2 0 (by decide)
    refine ⟨z, ?_, wz⟩
    rw [show (a'.add q).add 0 = a'.add q by simp [Addr.add]] at h3
    rw [h3, e1]; rfl
  by_cases hn0 : n = 0
  ·subst hn0
   exact ⟨[], ⟨_, _, rfl, Nat.zero_le _, .inl rfl⟩, by simp, by simp⟩
  ·obtain ⟨z0, hz0, -⟩ := key 0 (by omega)
   rw [show a'.add 0 = a' by simp [Addr.add]] at hz0
   obtain ⟨ha, hblk⟩ := spot_none hz0
   have hadd : ∀ q, a'.add q = ⟨a'.block, a'.off + q, none⟩ := fun q => by rw [ha, add_lit]
   have hk : ∀ q, q < n → W.cell? ⟨a'.block, a'.off + q, none⟩ = some (zv (cellInt W ⟨a'.block, a'.off + q, none⟩)) ∧ i64W (cellInt W ⟨a'.block, a'.off + q, none⟩) := fun q hq => by
    obtain ⟨z, hz, wz⟩ := key q hq
    rw [hadd] at hz
    have : cellInt W ⟨a'.block, a'.off + q, none⟩ = z := by unfold cellInt; rw [hz]
    rw [this]
    exact ⟨hz, i64_of wz⟩
   refine ⟨(List.range n).map fun q => cellInt W ⟨a'.block, a'.off + q, none⟩, ⟨some a', c, by rw [ints_len]; simp, by rw [ints_len]; simpa using hlc, .inr ⟨a'.block, a'.off, congrArg some ha, hblk, fun i u hu => ?_⟩⟩, fun x hx => ?_, by simpa using hnm⟩
   ·rw [ints_rowK] at hu
    have hi : i < n := by
     have := (List.getElem?_eq_some_iff.1 hu).1
     rwa [row_len] at this
    rw [row_get _ hi] at hu
    cases hu
    exact (hk i hi).1
   ·obtain ⟨q, hq, rfl⟩ := List.mem_map.1 hx
    exact (hk q (List.mem_range.1 hq)).2

def intCellsB (P : Program) : Nat → TypeId → Bool
 | 0, _ => false
 | n + 1, t => match P.underlying t with
  | some (.int .i64) => Nat.beq (P.cellsOf t) 1
  | some (.array k e) => intCellsB P n e && Nat.beq (P.cellsOf t) (k * P.cellsOf e) && Nat.ble 1 (P.cellsOf e)
  | some (.struct fs) => (fs.toList.all fun f => intCellsB P n f.type) && (List.range (P.cellsOf t)).all fun j => (List.range fs.size).any fun i => match fs[i]? with | some f => Nat.ble f.offset j && Nat.blt j (f.offset + P.cellsOf f.type) | none => false
  | _ => false
theorem intCells : ∀ (n : Nat) (t : TypeId) (cs : List Value) (fuel : Nat) (x : DataW H × List MemPlace), intCellsB P n t = true → DataW.trod enc P W b sp hd fuel t cs = some x → cs.length = P.cellsOf t ∧ ∀ j, j < cs.length → ∃ z, cs[j]? = some (zv z) ∧ i64W z := by
 intro n
 induction n with
 | zero => intro t cs fuel x h; cases h
 | succ n ih =>
  intro t cs fuel x h hf
  simp only [intCellsB] at h
  split at h
  ·rename_i ht
   have h1 : P.cellsOf t = 1 := Nat.eq_of_beq_eq_true h
   obtain ⟨z, e, -, hw⟩ := DataW.trod_int ht hf
   subst e
   refine ⟨by rw [h1]; rfl, fun j hj => ?_⟩
   have : j = 0 := by simpa using hj
   subst this
   exact ⟨z, rfl, i64_of hw⟩
  ·rename_i k e ht
   rw [Bool.and_eq_true, Bool.and_eq_true] at h
   obtain ⟨⟨h1, h2⟩, h3⟩ := h
   have h2' : P.cellsOf t = k * P.cellsOf e := Nat.eq_of_beq_eq_true h2
   have h3' : 1 ≤ P.cellsOf e := Nat.le_of_ble_eq_true h3
   obtain ⟨xs, m, -, -, hl, hxl, hel⟩ := DataW.trod_array ht hf
   refine ⟨hl, fun j hj => ?_⟩
   rw [h2'] at hl
   have hi : j / P.cellsOf e < k := by
    rw [Nat.div_lt_iff_lt_mul h3']; omega
   have h4 := hel (j / P.cellsOf e) hi
   rw [List.getElem?_eq_getElem (by omega)] at h4
   obtain ⟨hlen, hz⟩ := ih e _ _ _ h1 h4
   have hm := Nat.mod_lt j h3'
   obtain ⟨z, hz, hw⟩ := hz (j % P.cellsOf e) (by rw [hlen]; exact hm)
   refine ⟨z, ?_, hw⟩
   rw [List.getElem?_take, if_pos hm, List.getElem?_drop] at hz
   rw [← hz]
   congr 1
   have := Nat.div_add_mod j (P.cellsOf e)
   rw [Nat.mul_comm] at this
   omega
  ·rename_i fs ht
   rw [Bool.and_eq_true, List.all_eq_true, List.all_eq_true] at h
   obtain ⟨h1, h2⟩ := h
   obtain ⟨xs, m, -, -, hl, hxl, hel⟩ := DataW.trod_struct ht hf
   refine ⟨hl, fun j hj => ?_⟩
   have h3 := h2 j (List.mem_range.2 (by omega))
   rw [List.any_eq_true] at h3
   obtain ⟨i, hi, h4⟩ := h3
   have hi' := List.mem_range.1 hi
   cases hfi : fs[i]? with
   | none => rw [hfi] at h4; cases h4
   | some f =>
    rw [hfi] at h4
    simp only [Bool.and_eq_true] at h4
    have h5 : f.offset ≤ j := Nat.le_of_ble_eq_true h4.1
    have h6 : j < f.offset + P.cellsOf f.type := by simpa [Nat.blt_eq] using h4.2
    have h7 := hel i f hfi
    rw [List.getElem?_eq_getElem (by omega)] at h7
    have hmem : f ∈ fs.toList := by
     rw [← Array.getElem?_toList] at hfi
     exact List.mem_of_getElem? hfi
    obtain ⟨hlen, hz⟩ := ih f.type _ _ _ (h1 f hmem) h7
    obtain ⟨z, hz, hw⟩ := hz (j - f.offset) (by rw [hlen]; omega)
    refine ⟨z, ?_, hw⟩
    rw [List.getElem?_take, if_pos (by omega), List.getElem?_drop, show f.offset + (j - f.offset) = j by omega] at hz
    exact hz
  ·cases h
theorem intRow {n : Nat} {t : TypeId} {cs : List Value} {fuel : Nat} {x : DataW H × List MemPlace} (h : intCellsB P n t = true) (hf : DataW.trod enc P W b sp hd fuel t cs = some x) : ∃ zs : List Int, cs = ints zs ∧ zs.length = P.cellsOf t ∧ ∀ z ∈ zs, i64W z := by
 obtain ⟨hl, hz⟩ := intCells n t cs fuel x h hf
 have hch : ∃ g : Nat → Int, ∀ j, j < cs.length → cs[j]? = some (zv (g j)) ∧ i64W (g j) := by
  refine ⟨fun j => if h : j < cs.length then Classical.choose (hz j h) else 0, fun j hj => ?_⟩
  simp only [dif_pos hj]
  exact Classical.choose_spec (hz j hj)
 obtain ⟨g, hg⟩ := hch
 refine ⟨(List.range cs.length).map g, ?_, by simpa using hl, fun z hz => ?_⟩
 ·rw [ints_rowK]
  apply List.ext_getElem?
  intro j
  by_cases hj : j < cs.length
  ·rw [(hg j hj).1, row_get _ hj]
  ·rw [List.getElem?_eq_none (by omega), List.getElem?_eq_none (by rw [row_len]; omega)]
 ·obtain ⟨j, hj, rfl⟩ := List.mem_map.1 hz
  exact (hg j (List.mem_range.1 hj)).2
theorem sl_rows {t e n fuel sz : Nat} {x : DataW H × List MemPlace} (ht : P.underlying t = some (.slice e)) (he : intCellsB P n e = true) (hce : P.cellsOf e = sz) (hsz : 0 < sz) (hf : DataW.trod enc P W b sp hd fuel t [v] = some x) :
  ∃ rows : List (List Int), (∃ (a : Option Addr) (c : Nat), v = .slice a rows.length c ∧ rows.length ≤ c ∧ (rows = [] ∨ ∃ b off, a = some ⟨b, off, none⟩ ∧ b < W.heap.size ∧ ∀ i rw j u, (rows.map ints)[i]? = some rw → rw[j]? = some u → W.cell? ⟨b, off + i * sz + j, none⟩ = some u)) ∧ (∀ r ∈ rows, r.length = sz ∧ ∀ z ∈ r, i64W z) ∧ rows.length ≤ maxLen := by
 rcases DataW.trod_slice ht hf with ⟨h0, -⟩ | ⟨a', n', c, elems, rest, m, -, hcs, -, hb, hlc, hm, hlen, hel, -, -⟩
 ·cases h0
  exact ⟨[], ⟨_, _, rfl, Nat.le_refl _, .inl rfl⟩, by simp, Nat.zero_le _⟩
 ·cases hcs
  have key : ∀ q, q < n' → ∃ zs : List Int, zs.length = sz ∧ (∀ z ∈ zs, i64W z) ∧ ∀ j u, (ints zs)[j]? = some u → W.cell? ((a'.add (q * sz)).add j) = some u := fun q hq => by
   have h1 := hel q hq
   rw [hce, List.getElem?_eq_getElem (by omega)] at h1
   cases hcl : W.cells? b (a'.add (q * sz)) sz with
   | none => rw [hcl] at h1; cases h1
   | some cs =>
    rw [hcl] at h1
    simp only [Option.bind_some] at h1
    obtain ⟨-, h5, h6⟩ := World.cells?_some hcl
    obtain ⟨zs, rfl, hl, hz⟩ := intRow he h1
    refine ⟨zs, by rw [hl, hce], hz, fun j u hu => ?_⟩
    have hj : j < sz := by
     have := (List.getElem?_eq_some_iff.1 hu).1
     rw [ints_len, hl, hce] at this; exact this
    rw [h6 j hj]; exact hu
  by_cases hn0 : n' = 0
  ·subst hn0
   exact ⟨[], ⟨_, _, rfl, Nat.zero_le _, .inl rfl⟩, by simp, Nat.zero_le _⟩
  ·have hch : ∃ Z : Nat → List Int, ∀ q, q < n' → (Z q).length = sz ∧ (∀ z ∈ Z q, i64W z) ∧ ∀ j u, (ints (Z q))[j]? = some u → W.cell? ((a'.add (q * sz)).add j) = some u := by
    refine ⟨fun q => if h : q < n' then Classical.choose (key q h) else [], fun q hq => ?_⟩
    simp only [dif_pos hq]
    exact Classical.choose_spec (key q hq)
   obtain ⟨Z, hZ⟩ := hch
   have h0 := hZ 0 (by omega)
   have hz0 := h0.2.2 0 _ (ints_get (by rw [h0.1]; exact hsz))
   rw [Nat.zero_mul, show (a'.add 0).add 0 = a' by simp [Addr.add]] at hz0
   obtain ⟨ha, hblk⟩ := spot_none hz0
   have hadd : ∀ q j, (a'.add (q * sz)).add j = ⟨a'.block, a'.off + q * sz + j, none⟩ := fun q j => by rw [ha, add_lit, add_lit]
   refine ⟨(List.range n').map Z, ⟨some a', c, by simp, by simpa using hlc, .inr ⟨a'.block, a'.off, congrArg some ha, hblk, fun i rw' j u hi hu => ?_⟩⟩, fun r hr => ?_, by simpa using (by omega : n' ≤ maxLen)⟩
   ·rw [List.getElem?_map, List.getElem?_map] at hi
    have hin : i < n' := by
     refine Classical.byContradiction fun hn => ?_
     rw [List.getElem?_eq_none (by rw [List.length_range]; omega)] at hi
     cases hi
    rw [List.getElem?_range hin] at hi
    simp only [Option.map_some, Option.some.injEq] at hi
    subst hi
    have := (hZ i hin).2.2 j u hu
    rwa [hadd] at this
   ·obtain ⟨q, hq, rfl⟩ := List.mem_map.1 hr
    have := hZ q (List.mem_range.1 hq)
    exact ⟨this.1, this.2.1⟩
end
end Go.Sx
namespace Go.Sx
open Go Go.Proofs Go.ChangeShapes Go.WideShapes Go.ChangeAt Go.RowKit
section
variable {H : Type} {enc : TypeId × Value → H} {W : World} {r : Reach} {b0 b : Nat} {sp : Nat → Bool} {hd : Bool} {v : Value} {d : DataW H} {p : List MemPlace}
theorem open_intK {t : TypeId} {P : Program} (ht : P.underlying t = some (.int .i64)) (hv : Value.okWide P W r b0 t v) (h : DataW.Trod enc P W b sp hd t v d p) : ∃ x : Int, v = zv x ∧ i64W x := by
 obtain ⟨z, rfl⟩ := okWide_int ht hv
 obtain ⟨fuel, hf⟩ := h
 have hf' : DataW.trod enc P W b sp hd fuel t [.int .i64 z] = some (d, p) := hf
 obtain ⟨z', e, -, hw⟩ := DataW.trod_int ht hf'
 cases e
 exact ⟨z, rfl, i64_of hw⟩
set_option maxRecDepth 100000 in
theorem open_rowsK {t e sz : TypeId} (ht : Tryz.prog.underlying t = some (.slice e)) (hi : intCellsB Tryz.prog 3 e = true) (hc : Tryz.prog.cellsOf e = sz) (hsz : 0 < sz) (hv : Value.okWide Tryz.prog W r b0 t v) (h : DataW.Trod enc Tryz.prog W b sp hd t v d p) :
  ∃ rows : List (List Int), RdA sz W v rows ∧ (∀ r ∈ rows, r.length = sz ∧ ∀ z ∈ r, i64W z) ∧ rows.length ≤ maxLen := by
 obtain ⟨fuel, hf⟩ := h
 obtain ⟨a, n, c, rfl⟩ := okWide_slice ht hv
 have hcells : (Value.slice a n c).cells.toList = [Value.slice a n c] := rfl
 rw [hcells] at hf
 exact sl_rows ht hi hc hsz hf
end
end Go.Sx
/- Chapter 24: the laid variables. -/
namespace Go.Sx
open Go Go.Proofs Go.ChangeShapes Go.WideShapes Go.ChangeAt Go.RowKit
def kZ : List Int := kL.map fun x => ((x.toNat : Nat) : Int)
theorem kZ_data : (YtehehfcmanccjaaGreatDoor.Rows.laid_evergreen_digest_round : DataW Unit) = Lib.tabData .u32 kZ := by kernel_rfl
def laid1 : List (String × DataW Unit) := [("evergreen/digest.round", YtehehfcmanccjaaGreatDoor.Rows.laid_evergreen_digest_round)]
theorem laid1_plain {W : World} (h : laidMetH Tryz.prog laid1 W) : laidMet Tryz.prog laid1 W := by
 rwa [MakeChecks.laidMetH_plain _ _ _ (by kernel_rfl)] at h
theorem round_of_laid1 {W : World} (h : laidMetH Tryz.prog laid1 W) : RoundG W := by
 have h1 := laid1_plain h
 have h2 : laidMet Tryz.prog (("evergreen/digest.round", Lib.tabData .u32 kZ) :: []) W := by
  rw [← kZ_data]; exact h1
 have hT := Lib.tabIs_of_head (g := 0) (by kernel_rfl) (by kernel_rfl) Tryz.underlying222 Tryz.underlying114 (by kernel_rfl) (by kernel_rfl) h2
 intro i v hv
 have hlen : kZ.length = 64 := by kernel_rfl
 have hi : i < 64 := by
  have := (List.getElem?_eq_some_iff.1 hv).1
  unfold ws at this
  rw [List.length_map] at this
  exact this
 have hc := hT.cell (g := 0) (by kernel_rfl) i (by rw [hlen]; exact hi)
 rw [hc]
 unfold ws at hv
 rw [List.getElem?_map, List.getElem?_eq_getElem (by exact hi)] at hv
 rw [← hv]
 have hk : i < kL.length := hi
 have : kZ.getD i 0 = ((kL[i].toNat : Nat) : Int) := by unfold kZ; simp [hk]
 rw [this]; rfl
end Go.Sx
/- From a function's contract to a row's statement: slices of nodes, of strings. -/
namespace Go.Sx
open Go Go.Proofs Go.ChangeShapes Go.WideShapes Go.ChangeAt Go.RowKit
theorem strs_rowN (n : Nat) (f : Nat → ByteArray) : strs ((List.range n).map f) = row n fun q => .string (f q) := by simp [strs, row]
def cellStrN (W : World) (a : Addr) : ByteArray := match W.cell? a with | some (.string z) => z | _ => ByteArray.mk #[]
section
variable {H : Type} {enc : TypeId × Value → H} {P : Program} {W : World} {r : Reach} {b0 b : Nat} {sp : Nat → Bool} {hd : Bool} {v : Value} {d : DataW H} {p : List MemPlace}
theorem sl_trodSN {t e fuel : Nat} {x : DataW H × List MemPlace} (ht : P.underlying t = some (.slice e)) (he : P.underlying e = some .string) (hce : P.cellsOf e = 1) (hf : DataW.trod enc P W b sp hd fuel t [v] = some x) :
  ∃ l : List ByteArray, Rd W v (strs l) ∧ (∀ x ∈ l, x.size ≤ 9223372036854775807) ∧ l.length ≤ 9223372036854775807 := by
 rcases DataW.trod_slice ht hf with ⟨h0, -⟩ | ⟨a', n, c, elems, rest, m, -, hcs, -, hb, hlc, hm, hlen, hel, -, -⟩
 ·cases h0
  exact ⟨[], ⟨_, _, rfl, Nat.le_refl _, .inl rfl⟩, by simp, by simp⟩
 ·cases hcs
  have hnm : n ≤ 9223372036854775807 := by simp only [maxLen] at hm; omega
  have key : ∀ q, q < n → ∃ z : ByteArray, W.cell? (a'.add q) = some (.string z) ∧ z.size ≤ 9223372036854775807 := fun q hq => by
   have h1 := hel q hq
   rw [hce, Nat.mul_one, List.getElem?_eq_getElem (by omega)] at h1
   cases hcs : W.cells? b (a'.add q) 1 with
   | none => rw [hcs] at h1; cases h1
   | some cs =>
    rw [hcs] at h1
    simp only [Option.bind_some] at h1
    obtain ⟨z, e1, -, wz⟩ := DataW.trod_string he h1
    have h3 := (World.cells?_some hcs).2.2 0 (by decide)
    refine ⟨z, ?_, by simp only [maxLen] at wz; omega⟩
    rw [show (a'.add q).add 0 = a'.add q by simp [Addr.add]] at h3
    rw [h3, e1]; rfl
  by_cases hn0 : n = 0
  ·subst hn0
   exact ⟨[], ⟨_, _, rfl, Nat.zero_le _, .inl rfl⟩, by simp, by simp⟩
  ·obtain ⟨z0, hz0, -⟩ := key 0 (by omega)
   rw [show a'.add 0 = a' by simp [Addr.add]] at hz0
   obtain ⟨ha, hblk⟩ := spot_none hz0
   have hadd : ∀ q, a'.add q = ⟨a'.block, a'.off + q, none⟩ := fun q => by rw [ha, add_lit]
   have hk : ∀ q, q < n → W.cell? ⟨a'.block, a'.off + q, none⟩ = some (.string (cellStrN W ⟨a'.block, a'.off + q, none⟩)) ∧ (cellStrN W ⟨a'.block, a'.off + q, none⟩).size ≤ 9223372036854775807 := fun q hq => by
    obtain ⟨z, hz, wz⟩ := key q hq
    rw [hadd] at hz
    have : cellStrN W ⟨a'.block, a'.off + q, none⟩ = z := by unfold cellStrN; rw [hz]
    rw [this]
    exact ⟨hz, wz⟩
   have hsl : (strs ((List.range n).map fun q => cellStrN W ⟨a'.block, a'.off + q, none⟩)).length = n := by simp [strs]
   refine ⟨(List.range n).map fun q => cellStrN W ⟨a'.block, a'.off + q, none⟩, ⟨some a', c, by rw [hsl], by rw [hsl]; exact hlc, .inr ⟨a'.block, a'.off, congrArg some ha, hblk, fun i u hu => ?_⟩⟩, fun x hx => ?_, by simpa using hnm⟩
   ·rw [strs_rowN] at hu
    have hi : i < n := by
     have := (List.getElem?_eq_some_iff.1 hu).1
     rwa [row_len] at this
    rw [row_get _ hi] at hu
    cases hu
    exact (hk i hi).1
   ·obtain ⟨q, hq, rfl⟩ := List.mem_map.1 hx
    exact (hk q (List.mem_range.1 hq)).2
theorem sl_trodIN {t e fuel : Nat} {x : DataW H × List MemPlace} (ht : P.underlying t = some (.slice e)) (he : P.underlying e = some (.int .i64)) (hce : P.cellsOf e = 1) (hf : DataW.trod enc P W b sp hd fuel t [v] = some x) :
  ∃ l : List Int, Rd W v (ints l) ∧ l.length ≤ 9223372036854775807 := by
 rcases DataW.trod_slice ht hf with ⟨h0, -⟩ | ⟨a', n, c, elems, rest, m, -, hcs, -, hb, hlc, hm, hlen, hel, -, -⟩
 ·cases h0
  exact ⟨[], ⟨_, _, rfl, Nat.le_refl _, .inl rfl⟩, by simp⟩
 ·cases hcs
  have hnm : n ≤ 9223372036854775807 := by simp only [maxLen] at hm; omega
  have key : ∀ q, q < n → ∃ z, W.cell? (a'.add q) = some (.int .i64 z) := fun q hq => by
   have h1 := hel q hq
   rw [hce, Nat.mul_one, List.getElem?_eq_getElem (by omega)] at h1
   cases hcs : W.cells? b (a'.add q) 1 with
   | none => rw [hcs] at h1; cases h1
   | some cs =>
    rw [hcs] at h1
    simp only [Option.bind_some] at h1
    obtain ⟨z, e1, -, -⟩ := DataW.trod_int he h1
    have h3 := (World.cells?_some hcs).2.2 0 (by decide)
    refine ⟨z, ?_⟩
    rw [show (a'.add q).add 0 = a'.add q by simp [Addr.add]] at h3
    rw [h3, e1]; rfl
  by_cases hn0 : n = 0
  ·subst hn0
   exact ⟨[], ⟨_, _, rfl, Nat.zero_le _, .inl rfl⟩, by simp⟩
  ·obtain ⟨z0, hz0⟩ := key 0 (by omega)
   rw [show a'.add 0 = a' by simp [Addr.add]] at hz0
   obtain ⟨ha, hblk⟩ := spot_none hz0
   have hadd : ∀ q, a'.add q = ⟨a'.block, a'.off + q, none⟩ := fun q => by rw [ha, add_lit]
   have hk : ∀ q, q < n → W.cell? ⟨a'.block, a'.off + q, none⟩ = some (zv (cellInt W ⟨a'.block, a'.off + q, none⟩)) := fun q hq => by
    obtain ⟨z, hz⟩ := key q hq
    rw [hadd] at hz
    have : cellInt W ⟨a'.block, a'.off + q, none⟩ = z := by unfold cellInt; rw [hz]
    rw [this]
    exact hz
   refine ⟨(List.range n).map fun q => cellInt W ⟨a'.block, a'.off + q, none⟩, ⟨some a', c, by rw [ints_len]; simp, by rw [ints_len]; simpa using hlc, .inr ⟨a'.block, a'.off, congrArg some ha, hblk, fun i u hu => ?_⟩⟩, by simpa using hnm⟩
   rw [ints_rowK] at hu
   have hi : i < n := by
    have := (List.getElem?_eq_some_iff.1 hu).1
    rwa [row_len] at this
   rw [row_get _ hi] at hu
   cases hu
   exact hk i hi
theorem open_strsN {t e : Nat} (ht : P.underlying t = some (.slice e)) (he : P.underlying e = some .string) (hce : P.cellsOf e = 1) (hv : Value.okWide P W r b0 t v) (h : DataW.Trod enc P W b sp hd t v d p) :
  ∃ l : List ByteArray, Rd W v (strs l) ∧ (∀ x ∈ l, x.size ≤ 9223372036854775807) ∧ l.length ≤ 9223372036854775807 := by
 obtain ⟨fuel, hf⟩ := h
 obtain ⟨a, n, c, rfl⟩ := okWide_slice ht hv
 exact sl_trodSN ht he hce hf
end
section
variable {H : Type} {enc : TypeId × Value → H} {W : World} {r : Reach} {b0 b : Nat} {sp : Nat → Bool} {hd : Bool} {v : Value} {d : DataW H} {p : List MemPlace}
set_option maxRecDepth 100000 in
theorem open_nodes (hv : Value.okWide Tryz.prog W r b0 24 v) (h : DataW.Trod enc Tryz.prog W b sp hd 24 v d p) :
  ∃ (l : List Nd) (U : Nat → Value), RdN W v l U ∧ l.length ≤ 9223372036854775807 ∧ ∀ i, i < l.length → (ndAt l i).src.length ≤ 9223372036854775807 ∧ i64W (ndAt l i).id ∧ i64W (ndAt l i).kind ∧ i64W (ndAt l i).pack := by
 obtain ⟨fuel, hf⟩ := h
 obtain ⟨a, n, c, rfl⟩ := okWide_slice Tryz.underlying24 hv
 have hcells : (Value.slice a n c).cells.toList = [Value.slice a n c] := rfl
 rw [hcells] at hf
 have hce : Tryz.prog.cellsOf 31 = 4 := by kernel_rfl
 have hci : Tryz.prog.cellsOf 3 = 1 := by kernel_rfl
 have hcn : Tryz.prog.cellsOf 28 = 1 := by kernel_rfl
 rcases DataW.trod_slice Tryz.underlying24 hf with ⟨h0, -⟩ | ⟨a', len, cap, elems, rest, m, -, hcs', -, hb, hlc, hm, hlen, hel, -, -⟩
 ·cases h0
  exact ⟨[], fun _ => .bool false, ⟨⟨none, 0, rfl, Nat.le_refl _, .inl rfl⟩, (fun i hi => by cases hi)⟩, by simp, (fun i hi => by cases hi)⟩
 ·cases hcs'
  have hnm : n ≤ 9223372036854775807 := by simp only [maxLen] at hm; omega
  have key : ∀ q, q < n → ∃ o : Nd × Value, (∀ (j : Nat) (u : Value), (ndC o.1 o.2)[j]? = some u → W.cell? ((a'.add (q * 4)).add j) = some u) ∧ i64W o.1.id ∧ i64W o.1.kind ∧ i64W o.1.pack ∧ Rd W o.2 (ints o.1.src) ∧ o.1.src.length ≤ 9223372036854775807 := fun q hq => by
   have h1 := hel q hq
   rw [hce, List.getElem?_eq_getElem (by omega)] at h1
   cases hcl : W.cells? b (a'.add (q * 4)) 4 with
   | none => rw [hcl] at h1; cases h1
   | some cs =>
    rw [hcl] at h1
    simp only [Option.bind_some] at h1
    obtain ⟨-, h5, h6⟩ := World.cells?_some hcl
    obtain ⟨xs, k, -, -, -, hxl, hfd⟩ := DataW.trod_struct Tryz.underlying31 h1
    match cs, h5 with
    | [c0, c1, c2, c3], _ =>
     have f0 : DataW.trod enc Tryz.prog W b sp hd k 3 (([c0, c1, c2, c3].drop 0).take (Tryz.prog.cellsOf 3)) = xs[0]? := hfd 0 _ rfl
     have f1 : DataW.trod enc Tryz.prog W b sp hd k 3 (([c0, c1, c2, c3].drop 1).take (Tryz.prog.cellsOf 3)) = xs[1]? := hfd 1 _ rfl
     have f2 : DataW.trod enc Tryz.prog W b sp hd k 3 (([c0, c1, c2, c3].drop 2).take (Tryz.prog.cellsOf 3)) = xs[2]? := hfd 2 _ rfl
     have f3 : DataW.trod enc Tryz.prog W b sp hd k 28 (([c0, c1, c2, c3].drop 3).take (Tryz.prog.cellsOf 28)) = xs[3]? := hfd 3 _ rfl
     have hxl5 : xs.length = 4 := hxl
     rw [hci] at f0 f1 f2
     rw [hcn] at f3
     simp only [List.drop_zero, List.drop_succ_cons, List.take_succ_cons, List.take_zero] at f0 f1 f2 f3
     rw [List.getElem?_eq_getElem (by omega)] at f0 f1 f2 f3
     obtain ⟨z0, e0, -, w0⟩ := DataW.trod_int Tryz.underlying3 f0
     obtain ⟨z1, e1, -, w1⟩ := DataW.trod_int Tryz.underlying3 f1
     obtain ⟨z2, e2, -, w2⟩ := DataW.trod_int Tryz.underlying3 f2
     obtain ⟨l3, hl3, hb3⟩ := sl_trodIN Tryz.underlying28 Tryz.underlying3 hci f3
     cases e0; cases e1; cases e2
     refine ⟨(⟨z0, z1, z2, l3⟩, c3), fun j u hu => ?_, i64_of w0, i64_of w1, i64_of w2, hl3, hb3⟩
     have hj : j < 4 := by
      have := (List.getElem?_eq_some_iff.1 hu).1
      simpa [ndC] using this
     rw [h6 j hj]
     exact hu
  by_cases hn0 : n = 0
  ·subst hn0
   exact ⟨[], fun _ => .bool false, ⟨⟨some a', c, rfl, Nat.zero_le _, .inl rfl⟩, (fun i hi => by cases hi)⟩, by simp, (fun i hi => by cases hi)⟩
  ·have hch : ∃ T : Nat → Nd × Value, ∀ q, q < n → (∀ (j : Nat) (u : Value), (ndC (T q).1 (T q).2)[j]? = some u → W.cell? ((a'.add (q * 4)).add j) = some u) ∧ i64W (T q).1.id ∧ i64W (T q).1.kind ∧ i64W (T q).1.pack ∧ Rd W (T q).2 (ints (T q).1.src) ∧ (T q).1.src.length ≤ 9223372036854775807 := by
    refine ⟨fun q => if h : q < n then Classical.choose (key q h) else (default, .bool false), fun q hq => ?_⟩
    simp only [dif_pos hq]
    exact Classical.choose_spec (key q hq)
   obtain ⟨T, hk⟩ := hch
   have hz0 := (hk 0 (by omega)).1 0 _ rfl
   rw [Nat.zero_mul, show (a'.add 0).add 0 = a' by simp [Addr.add]] at hz0
   obtain ⟨ha, hblk⟩ := spot_none hz0
   have hadd : ∀ q j, (a'.add (q * 4)).add j = ⟨a'.block, a'.off + q * 4 + j, none⟩ := fun q j => by rw [ha, add_lit, add_lit]
   have hl : ((List.range n).map fun q => (T q).1).length = n := by simp
   have hT : ∀ i, i < n → ndAt ((List.range n).map fun q => (T q).1) i = (T i).1 := fun i hi => by
    simp [ndAt, hi]
   refine ⟨(List.range n).map fun q => (T q).1, fun q => (T q).2, ⟨⟨some a', c, by rw [hl], by rw [hl]; exact hlc, .inr ⟨a'.block, a'.off, congrArg some ha, fun i hi j u hu => ?_⟩⟩, fun i hi => ?_⟩, by rw [hl]; exact hnm, fun i hi => ?_⟩
   ·rw [hl] at hi
    rw [hT i hi] at hu
    have := (hk i hi).1 j u hu
    rwa [hadd] at this
   ·rw [hl] at hi
    rw [hT i hi]; exact (hk i hi).2.2.2.2.1
   ·rw [hl] at hi
    rw [hT i hi]; exact ⟨(hk i hi).2.2.2.2.2, (hk i hi).2.1, (hk i hi).2.2.1, (hk i hi).2.2.2.1⟩
end
end Go.Sx
