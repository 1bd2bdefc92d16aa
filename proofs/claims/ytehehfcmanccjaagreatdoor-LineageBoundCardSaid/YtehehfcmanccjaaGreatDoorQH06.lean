/- Chapter 24: the two parts of a state: the walk. -/
import Derived.Test.YtehehfcmanccjaaGreatDoorQH05
import Derived.DeepKeys
import Derived.Lib.FrozenHead
import Derived.Laws.Externs
import Derived.Shelf.SlGeneric
import Derived.Shelf.SlSortCmp.NoneTotal
import Derived.Ground.SlsfProg
import Derived.Test.YtehehfcmanccjaaGreatDoorProg
namespace Go.Sx
open Go Go.Proofs Go.RowKit
theorem hwNV {G G2 : Prop} (x : G2) (hwq : Hold G2 → G := by
    intro hQq
    repeat' (first | refine HL.pa ?_ (POp.nilCheck rfl) | apply HL.fold | apply HA.fold | apply HL.nil | apply HX.n_then | apply HC.seq | apply HC.region | refine HL.pa ?_ | refine HL.ga rfl ?_ | refine HL.na rfl ?_ | refine HL.nu rfl rfl ?_ | apply HC.block | apply HC.skip | apply HC.exit | apply HC.ret | apply HX.e_block | refine HX.e_other rfl ?_ | apply HX.e_then | apply HX.e_again | apply HX.n_block | apply HX.r_then | apply HX.r_block | apply HX.r_again | refine HC.cond_yes rfl ?_ | refine HC.cond_no rfl ?_ | refine HL.one (H1.ldb rfl memA rfl rfl ?_) | refine HC.cond rfl (fun hc => ?_) (fun hc => ?_) | refine HC.cond_b rfl (fun hc => ?_) (fun hc => ?_))
    exact hQq.get) : G := hwq ⟨x⟩
theorem hbNV {G G2 : Prop} (x : G2) (hwq : Hold G2 → G := by
    intro hQq
    repeat' (first | refine HL.pa ?_ (POp.nilCheck rfl) | apply HL.fold | apply HA.fold | apply HL.nil | apply HX.n_then | apply HC.seq | apply HC.region | refine HL.pa ?_ | refine HL.ga rfl ?_ | refine HL.na rfl ?_ | refine HL.nu rfl rfl ?_ | apply HC.skip | apply HC.exit | apply HC.ret | apply HX.e_block | refine HX.e_other rfl ?_ | apply HX.e_then | apply HX.e_again | apply HX.n_block | apply HX.r_then | apply HX.r_block | apply HX.r_again | refine HC.cond_yes rfl ?_ | refine HC.cond_no rfl ?_ | refine HL.one (H1.ldb rfl memA rfl rfl ?_) | refine HC.cond rfl (fun hc => ?_) (fun hc => ?_) | refine HC.cond_b rfl (fun hc => ?_) (fun hc => ?_))
    exact hQq.get) : G := hwq ⟨x⟩
/-- Nodes with the slices of their sources. -/
abbrev NdZ : Type := Nd × Option Addr × Nat
def vZ (x : NdZ) : Value := .slice x.2.1 x.1.src.length x.2.2
def ndsV (z : List NdZ) : List Value := z.flatMap fun x => ndC x.1 (vZ x)
def rowsA (z : List NdZ) : List Atom := z.map fun x => A.grow 3 1 x.2.1 x.2.2 x.1.src.length (ints x.1.src)
theorem rowsA_snoc (z : List NdZ) (x : NdZ) : rowsA (z ++ [x]) = rowsA z ++ [A.grow 3 1 x.2.1 x.2.2 x.1.src.length (ints x.1.src)] := by unfold rowsA; rw [List.map_append]; rfl
theorem ndsV_snoc (z : List NdZ) (x : NdZ) : ndsV (z ++ [x]) = ndsV z ++ ndC x.1 (vZ x) := by unfold ndsV; rw [List.flatMap_append]; simp
theorem ndsV_get : ∀ {z : List NdZ} {i : Nat} {x : NdZ}, z[i]? = some x → ∀ {j : Nat}, j < 4 → (ndsV z)[i * 4 + j]? = (ndC x.1 (vZ x))[j]?
  | [], _, _, h, _, _ => by simp at h
  | y :: z, 0, x, h, j, hj => by
    cases h
    have : ndsV (y :: z) = ndC y.1 (vZ y) ++ ndsV z := rfl
    rw [this, Nat.zero_mul, Nat.zero_add, List.getElem?_append_left hj]
  | y :: z, i + 1, x, h, j, hj => by
    have : ndsV (y :: z) = ndC y.1 (vZ y) ++ ndsV z := rfl
    have hl : (ndC y.1 (vZ y)).length = 4 := rfl
    rw [this, List.getElem?_append_right (by rw [hl]; omega), hl, show (i + 1) * 4 + j - 4 = i * 4 + j by omega]
    exact ndsV_get (by simpa using h) hj
def ndsZ (z : List NdZ) : List Nd := z.map Prod.fst
def adrZ (z : List NdZ) (i : Nat) : Value := vZ (z.getD i default)
theorem ndsZ_len (z : List NdZ) : (ndsZ z).length = z.length := List.length_map ..
/-- Nodes of the call's own can be read. -/
theorem Mm.rdN {w0 w : World} {H : List Atom} {a : Option Addr} {c : Nat} {z : List NdZ} (hM : Mm w0 H w) (h1 : A.grow 31 4 a c z.length (ndsV z) ∈ H) (h2 : A.all (rowsA z) ∈ H) : RdN w (.slice a z.length c) (ndsZ z) (adrZ z) := by
  have hown := hM.own h1
  have hall := hM.all _ h2
  have hat : ∀ i, i < z.length → z[i]? = some (z.getD i default) := fun i hi => by simp [hi]
  have hnd : ∀ i, i < z.length → ndAt (ndsZ z) i = (z.getD i default).1 := fun i hi => by unfold ndAt ndsZ; simp [hi]
  refine ⟨⟨a, c, by rw [ndsZ_len], ?_, ?_⟩, fun i hi => ?_⟩
  · rw [ndsZ_len]
    rcases hown.2 with ⟨-, h0⟩ | ⟨g, cap, cur, hv, -, -, hnc, -⟩
    · omega
    · cases hv; exact hnc
  · rcases Nat.eq_zero_or_pos z.length with h0 | h0
    · exact .inl (by rw [List.length_eq_zero_iff.1 h0]; rfl)
    · rcases own_shape hown with ⟨a', c', e, h⟩
      cases e
      rcases h with h | ⟨b, rfl⟩
      · omega
      · refine .inr ⟨b, 0, rfl, fun i hi j u hu => ?_⟩
        rw [ndsZ_len] at hi
        rw [hnd i hi] at hu
        have hj : j < 4 := (List.getElem?_eq_some_iff.1 hu).1
        rw [Nat.zero_add]
        exact ownsRow_cell hown (by rw [ndsV_get (hat i hi) hj]; exact hu)
  · rw [ndsZ_len] at hi
    rw [hnd i hi]
    unfold adrZ vZ
    have := hall (A.grow 3 1 (z.getD i default).2.1 (z.getD i default).2.2 (z.getD i default).1.src.length (ints (z.getD i default).1.src)) (List.mem_map.2 ⟨_, List.mem_of_getElem? (hat i hi), rfl⟩)
    exact Rd.of_owns this
def prK (l : List Nd) (D : List ByteArray) (g : List Int) (b : Bool) (k : Nat) : List (Nd × ByteArray) := ((l.zip D).take k).filter fun q => decide (q.1.id ∈ g) == b
theorem prK_yes {l : List Nd} {D : List ByteArray} (h : l.length = D.length) {g : List Int} {b : Bool} {k : Nat} (hk : k < l.length) (hq : (decide ((ndAt l k).id ∈ g) == b) = true) : prK l D g b (k + 1) = prK l D g b k ++ [(ndAt l k, getB D k)] := by
  unfold prK
  rw [zip_take h hk, List.filter_append]
  congr 1
  rw [List.filter_cons]
  dsimp only
  rw [if_pos hq]; rfl
theorem prK_no {l : List Nd} {D : List ByteArray} (h : l.length = D.length) {g : List Int} {b : Bool} {k : Nat} (hk : k < l.length) (hq : (decide ((ndAt l k).id ∈ g) == b) = false) : prK l D g b (k + 1) = prK l D g b k := by
  unfold prK
  rw [zip_take h hk, List.filter_append, List.filter_cons]
  dsimp only
  rw [if_neg (by rw [hq]; decide), List.filter_nil, List.append_nil]
theorem prK_all {l : List Nd} {D : List ByteArray} (h : l.length = D.length) (g : List Int) (b : Bool) : prK l D g b l.length = prN l D g b := by
  unfold prK prN
  rw [List.take_of_length_le (by rw [List.length_zip]; omega)]
theorem prK_len (l : List Nd) (D : List ByteArray) (g : List Int) (b : Bool) (k : Nat) : (prK l D g b k).length ≤ k := by
  unfold prK
  refine Nat.le_trans (List.length_filter_le _ _) ?_
  rw [List.length_take]; omega
attribute [local irreducible] WC WL WX POp Then Again Fn NX W1 WA WO QL RP RA Yld LoopAt HC HL HX HN H1 HA HO HQ HB HP A.blk A.grow A.rd A.obj A.mp AgainH CutH
attribute [local irreducible] A.mq A.mit HU HV A.all
set_option maxHeartbeats 2000000 in
theorem part_fn {v g : Value} {l : List Nd} {D : List ByteArray} {U : Nat → Value} {bg : Nat} {m : List Int} (b : Bool) (hlD : l.length = D.length) (hl : l.length ≤ 400000) (hls : ∀ i, i < l.length → (ndAt l i).src.length ≤ 1000000) (w : World) (hR : RdN w v l U) (hS : Rd w g (strs D)) (hm : SetW w bg m) :
    Fn Tryz.prog 53 #[.agg #[v, g], .map (some bg), .bool b] w fun u w' => ∃ z : List NdZ × (Option Addr × Nat) × (Option Addr × Nat), ndsZ z.1 = ndsP (prN l D m b) ∧ u = .agg #[.slice z.2.1.1 z.1.length z.2.1.2, .slice z.2.2.1 z.1.length z.2.2.2] ∧
      Mm w [A.grow 31 4 z.2.1.1 z.2.1.2 z.1.length (ndsV z.1), A.grow 9 1 z.2.2.1 z.2.2.2 z.1.length (strs (digP (prN l D m b))), A.all (rowsA z.1)] w' := by
  obtain ⟨a, c, rfl, hc, -⟩ := id hR.shape
  obtain ⟨a2, c2, rfl, hc2⟩ : ∃ a c, g = .slice a D.length c ∧ D.length ≤ c := by
    obtain ⟨a, c, h1, h2, -⟩ := id hS
    rw [strs_len] at h1 h2
    exact ⟨a, c, h1, h2⟩
  refine enterH (l := [_, _, _]) rfl Tryz.ntmps53 rfl ?_
  refine HC.grow0 31 4 ?_
  refine HC.grow0 9 1 ?_
  refine HC.conv (H2 := A.all (rowsA []) :: [A.grow 9 1 none 0 0 [], A.grow 31 4 none 0 0 []]) (fun w h => h.allNil) ?_
  refine hwNV ?_
  refine HL.one (H1.boxAgg (cs := [.slice a l.length c, .slice a2 D.length c2]) rfl rfl (fun b3 => ?_))
  refine hwNV ?_
  refine HL.one (H1.alloc (cs := [.slice none 0 0, .slice none 0 0]) rfl rfl (fun b6 => ?_))
  refine hwNV ?_
  refine HC.loop (α := Nat × List NdZ × (Option Addr × Nat) × (Option Addr × Nat)) (fun q => [(1, .map (some bg)), (2, .bool b), (3, .pointer (some ⟨b3, 0, none⟩)), (6, .pointer (some ⟨b6, 0, none⟩)), (10, .slice a l.length c), (11, zv (l.length : Int)), (12, zv (q.1 : Int))])
    (fun q => [A.blk b3 [.slice a l.length c, .slice a2 D.length c2] 84, A.blk b6 [.slice q.2.2.1.1 q.2.1.length q.2.2.1.2, .slice q.2.2.2.1 q.2.1.length q.2.2.2.2] 84, A.grow 31 4 q.2.2.1.1 q.2.2.1.2 q.2.1.length (ndsV q.2.1), A.grow 9 1 q.2.2.2.1 q.2.2.2.2 q.2.1.length (strs (digP (prK l D m b q.1))), A.all (rowsA q.2.1)])
    (fun q => q.1 ≤ l.length ∧ ndsZ q.2.1 = ndsP (prK l D m b q.1)) (fun q => l.length - q.1) (0, [], (none, 0), (none, 0)) ⟨Nat.zero_le _, rfl⟩ esA (by repeat (first | exact Hs.nil _ | (refine Hs.cons pickA ?_))) ?_
  rintro ⟨k, z, ⟨an, cn⟩, ad, cd⟩ ⟨hk, hz⟩
  dsimp only at hk hz ⊢
  have hzl := congrArg List.length hz
  rw [ndsZ_len, ndsP_len] at hzl
  have hkl := prK_len l D m b k
  by_cases hlt : k < l.length
  rotate_left
  · have hn : ¬ ((k : Nat) : Int) < (l.length : Int) := by omega
    obtain rfl : k = l.length := by omega
    rw [prK_all hlD] at hz ⊢
    refine hwNV ?_
    refine HL.one (H1.ldAgg (b := b6) (vs := [.slice an z.length cn, .slice ad z.length cd]) rfl memA rfl (fun i v h => by rwa [Nat.zero_add]) rfl ?_)
    refine hwNV ?_
    refine HL.one (H1.stAgg (b := b6) (cs := [.slice an z.length cn, .slice ad z.length cd]) (vs := [.slice an z.length cn, .slice ad z.length cd]) rfl rfl rfl (by intro v hv; simp only [List.mem_cons, List.not_mem_nil, or_false] at hv; rcases hv with rfl | rfl <;> rfl) rplA rfl ?_)
    refine hwNV ?_
    exact HX.retc1 (b := b6) (cs := [.slice an z.length cn, .slice ad z.length cd]) rfl rfl memA rfl fun w' hM => ⟨(z, (an, cn), ad, cd), hz, rfl, hM.sub (by repeat (first | exact Hs.nil _ | (refine Hs.cons pickA ?_)))⟩
  have hn : ((k : Nat) : Int) < (l.length : Int) := by omega
  obtain ⟨b0, off0, rfl, hb⟩ := hR.cell hlt
  have hx := hb k hlt
  have hsx := hR.src k hlt
  have hlx := hls k hlt
  obtain ⟨bd, offd, rfl⟩ := rd_addr hS (j := k) (by omega)
  have hdc := hS.cell (strs_getB (l := D) (i := k) (by omega))
  have hyes := prK_yes hlD (g := m) (b := b) hlt
  have hno := prK_no hlD (g := m) (b := b) hlt
  have hUk := rd_one hsx
  generalize ndAt l k = n at hx hsx hlx hyes hno
  generalize getB D k = d at hdc hyes
  generalize U k = u at hx hsx hUk
  refine hwNV ?_
  refine HL.one (H1.ldAggw (b := b0) (off := off0 + k * 4) (vs := ndC n u) rfl rfl (fun w' hM j u hu => cell_ext hM.ext (hx j u hu)) rfl ?_)
  refine hwNV ?_
  refine HL.one (H1.alloc (cs := ndC ⟨0, 0, 0, []⟩ (.slice none 0 0)) rfl rfl (fun b8 => ?_))
  refine hwNV ?_
  refine HL.one (H1.stAgg (b := b8) (cs := ndC ⟨0, 0, 0, []⟩ (.slice none 0 0)) (vs := ndC n u) rfl rfl rfl (nd_one hUk) rplA rfl ?_)
  refine hwNV ?_
  refine HL.one (H1.callx (vs := [_, _]) rfl rfl (fun w' hM => setHas_fn n.id w' (hm.ext hM.ext)) ?_)
  cases hq : (decide (n.id ∈ m) == b) with
  | false =>
    have hpk := hno hq
    rw [← hpk] at hz ⊢
    refine hwNV ?_
    exact HX.again (k + 1, z, (an, cn), ad, cd) ⟨hlt, hz⟩ (by show l.length - (k + 1) < l.length - k; omega) esA (by repeat (first | exact Hs.nil _ | (refine Hs.cons pickA ?_)))
  | true =>
    have hpk := hyes hq
    have hdg : strs (digP (prK l D m b k)) ++ [.string d] = strs (digP (prK l D m b (k + 1))) := by rw [hpk, strs_snoc]; unfold digP; rw [List.map_append]; rfl
    refine hwNV ?_
    refine HL.one (H1.callz (vs := [u]) rfl rfl (fun w' hM => clone_fn u n.src hlx w' (hsx.ext hM.ext)) ?_)
    rintro ⟨az, cz⟩ -
    dsimp only
    refine hwNV ?_
    refine HL.one (H1.st (b := b8) (i := 3) rfl rfl (by intro _ h; cases h) (by intro _ h; cases h) rplA (by show 3 < 4; decide) ?_)
    rw [show (ndC n u).set 3 (.slice az n.src.length cz) = ndC n (vZ (n, az, cz)) from rfl]
    refine hbNV ?_
    have hnv : ndsV z ++ ndC n (vZ (n, az, cz)) = ndsV (z ++ [(n, az, cz)]) := (ndsV_snoc z (n, az, cz)).symm
    have hzn : ndsZ (z ++ [(n, az, cz)]) = ndsP (prK l D m b (k + 1)) := by
      rw [hpk]
      unfold ndsZ ndsP at hz ⊢
      rw [List.map_append, List.map_append, hz]; rfl
    have hz1 : (z ++ [(n, az, cz)]).length = z.length + 1 := by rw [List.length_append]; rfl
    refine HC.anyU ([(15, ⟨b6, 0, none⟩, .slice an z.length cn), (17, ⟨b6, 1, none⟩, .slice ad z.length cd), (17, ⟨b3, 1, none⟩, .slice (some ⟨bd, offd, none⟩) D.length c2), (17, ⟨bd, offd + k, none⟩, .string d)]) rfl ?_
    refine HU.pa 0 rfl ?_
    refine HU.ld 1 rfl rfl memD ?_
    refine HU.pa 5 rfl ?_
    refine HU.ld 6 rfl rfl memD ?_
    refine HU.pa 7 rfl ?_
    refine HU.ld 8 rfl rfl memD ?_
    refine HU.pa 9 rfl ?_
    refine HU.pa 10 rfl ?_
    refine HU.ld 11 rfl rfl memD ?_
    refine HU.all (by (first | refine KeepU.blk (by (repeat (first | exact List.Mem.head _ | apply List.Mem.tail)); done) rfl ?_ | refine KeepU.grow (by (repeat (first | exact List.Mem.head _ | apply List.Mem.tail)); done) (by assumption) ?_ | refine KeepU.base (by assumption) ?_); (first | refine KeepU.blk (by (repeat (first | exact List.Mem.head _ | apply List.Mem.tail)); done) rfl ?_ | refine KeepU.grow (by (repeat (first | exact List.Mem.head _ | apply List.Mem.tail)); done) (by assumption) ?_ | refine KeepU.base (by assumption) ?_); (first | refine KeepU.blk (by (repeat (first | exact List.Mem.head _ | apply List.Mem.tail)); done) rfl ?_ | refine KeepU.grow (by (repeat (first | exact List.Mem.head _ | apply List.Mem.tail)); done) (by assumption) ?_ | refine KeepU.base (by assumption) ?_); (first | refine KeepU.blk (by (repeat (first | exact List.Mem.head _ | apply List.Mem.tail)); done) rfl ?_ | refine KeepU.grow (by (repeat (first | exact List.Mem.head _ | apply List.Mem.tail)); done) (by assumption) ?_ | refine KeepU.base (by assumption) ?_); exact KeepU.nil) [2, 12] (by kernel_rfl) rfl ⟨⟨_, rfl, ?_⟩, ⟨_, rfl, ?_⟩, trivial⟩
    · refine HV.one ?_
      refine H1.ldAgg (b := b8) (vs := ndC n (vZ (n, az, cz))) rfl memA rfl (fun i v hv => by rw [Nat.zero_add]; exact hv) rfl ?_
      apply HU.fold
      refine HU.all (by (first | refine KeepU.blk (by (repeat (first | exact List.Mem.head _ | apply List.Mem.tail)); done) rfl ?_ | refine KeepU.grow (by (repeat (first | exact List.Mem.head _ | apply List.Mem.tail)); done) (by assumption) ?_ | refine KeepU.base (by assumption) ?_); (first | refine KeepU.blk (by (repeat (first | exact List.Mem.head _ | apply List.Mem.tail)); done) rfl ?_ | refine KeepU.grow (by (repeat (first | exact List.Mem.head _ | apply List.Mem.tail)); done) (by assumption) ?_ | refine KeepU.base (by assumption) ?_); (first | refine KeepU.blk (by (repeat (first | exact List.Mem.head _ | apply List.Mem.tail)); done) rfl ?_ | refine KeepU.grow (by (repeat (first | exact List.Mem.head _ | apply List.Mem.tail)); done) (by assumption) ?_ | refine KeepU.base (by assumption) ?_); (first | refine KeepU.blk (by (repeat (first | exact List.Mem.head _ | apply List.Mem.tail)); done) rfl ?_ | refine KeepU.grow (by (repeat (first | exact List.Mem.head _ | apply List.Mem.tail)); done) (by assumption) ?_ | refine KeepU.base (by assumption) ?_); exact KeepU.nil) [3, 12] (by kernel_rfl) rfl ⟨⟨_, rfl, ?_⟩, ⟨_, rfl, ?_⟩, trivial⟩
      · refine HV.one ?_
        refine H1.lit (cs := ndC n (vZ (n, az, cz))) rfl rfl rfl rfl rfl rfl (fun b9 => ?_)
        apply HU.fold
        refine HU.all (by (first | refine KeepU.blk (by (repeat (first | exact List.Mem.head _ | apply List.Mem.tail)); done) rfl ?_ | refine KeepU.grow (by (repeat (first | exact List.Mem.head _ | apply List.Mem.tail)); done) (by assumption) ?_ | refine KeepU.base (by assumption) ?_); (first | refine KeepU.blk (by (repeat (first | exact List.Mem.head _ | apply List.Mem.tail)); done) rfl ?_ | refine KeepU.grow (by (repeat (first | exact List.Mem.head _ | apply List.Mem.tail)); done) (by assumption) ?_ | refine KeepU.base (by assumption) ?_); (first | refine KeepU.blk (by (repeat (first | exact List.Mem.head _ | apply List.Mem.tail)); done) rfl ?_ | refine KeepU.grow (by (repeat (first | exact List.Mem.head _ | apply List.Mem.tail)); done) (by assumption) ?_ | refine KeepU.base (by assumption) ?_); (first | refine KeepU.blk (by (repeat (first | exact List.Mem.head _ | apply List.Mem.tail)); done) rfl ?_ | refine KeepU.grow (by (repeat (first | exact List.Mem.head _ | apply List.Mem.tail)); done) (by assumption) ?_ | refine KeepU.base (by assumption) ?_); exact KeepU.nil) [4, 12] (by kernel_rfl) rfl ⟨⟨_, rfl, ?_⟩, ⟨_, rfl, ?_⟩, trivial⟩
        · refine HV.one ?_
          refine H1.app (sz := 4) (m := 1) (news := ndC n (vZ (n, az, cz))) rfl (by decide) rfl rfl (fun _ _ => by first | ((repeat (first | with_reducible exact Rpl.here | with_reducible apply Rpl.there)); done) | (repeat (first | exact Rpl.here | apply Rpl.there))) rfl (fun w' hM j u hj => by rw [add_lit, Nat.zero_add]; exact (hM.blk (b := b9) memA).cell hj) (nd_one rfl) (by omega) (by decide) rfl (fun an2 cn2 _ => ?_)
          rw [hnv]
          apply HU.fold
          refine HU.pa 14 rfl ?_
          refine HU.all (by (first | refine KeepU.blk (by (repeat (first | exact List.Mem.head _ | apply List.Mem.tail)); done) rfl ?_ | refine KeepU.grow (by (repeat (first | exact List.Mem.head _ | apply List.Mem.tail)); done) (by assumption) ?_ | refine KeepU.base (by assumption) ?_); (first | refine KeepU.blk (by (repeat (first | exact List.Mem.head _ | apply List.Mem.tail)); done) rfl ?_ | refine KeepU.grow (by (repeat (first | exact List.Mem.head _ | apply List.Mem.tail)); done) (by assumption) ?_ | refine KeepU.base (by assumption) ?_); (first | refine KeepU.blk (by (repeat (first | exact List.Mem.head _ | apply List.Mem.tail)); done) rfl ?_ | refine KeepU.grow (by (repeat (first | exact List.Mem.head _ | apply List.Mem.tail)); done) (by assumption) ?_ | refine KeepU.base (by assumption) ?_); (first | refine KeepU.blk (by (repeat (first | exact List.Mem.head _ | apply List.Mem.tail)); done) rfl ?_ | refine KeepU.grow (by (repeat (first | exact List.Mem.head _ | apply List.Mem.tail)); done) (by assumption) ?_ | refine KeepU.base (by assumption) ?_); exact KeepU.nil) [12] (by kernel_rfl) rfl ⟨⟨_, rfl, ?_⟩, trivial⟩
          refine HV.one ?_
          refine H1.lit (cs := [.string d]) rfl rfl rfl rfl rfl rfl (fun b10 => ?_)
          apply HU.fold
          refine HU.all (by (first | refine KeepU.blk (by (repeat (first | exact List.Mem.head _ | apply List.Mem.tail)); done) rfl ?_ | refine KeepU.grow (by (repeat (first | exact List.Mem.head _ | apply List.Mem.tail)); done) (by assumption) ?_ | refine KeepU.base (by assumption) ?_); (first | refine KeepU.blk (by (repeat (first | exact List.Mem.head _ | apply List.Mem.tail)); done) rfl ?_ | refine KeepU.grow (by (repeat (first | exact List.Mem.head _ | apply List.Mem.tail)); done) (by assumption) ?_ | refine KeepU.base (by assumption) ?_); (first | refine KeepU.blk (by (repeat (first | exact List.Mem.head _ | apply List.Mem.tail)); done) rfl ?_ | refine KeepU.grow (by (repeat (first | exact List.Mem.head _ | apply List.Mem.tail)); done) (by assumption) ?_ | refine KeepU.base (by assumption) ?_); (first | refine KeepU.blk (by (repeat (first | exact List.Mem.head _ | apply List.Mem.tail)); done) rfl ?_ | refine KeepU.grow (by (repeat (first | exact List.Mem.head _ | apply List.Mem.tail)); done) (by assumption) ?_ | refine KeepU.base (by assumption) ?_); exact KeepU.nil) [13] (by kernel_rfl) rfl ⟨⟨_, rfl, ?_⟩, trivial⟩
          refine HV.one ?_
          refine H1.app1 (u := .string d) rfl rfl (fun _ _ => by first | ((repeat (first | with_reducible exact Rpl.here | with_reducible apply Rpl.there)); done) | (repeat (first | exact Rpl.here | apply Rpl.there))) memA rfl rfl (by omega) rfl rfl (fun ad2 cd2 => ?_)
          rw [hdg]
          apply HU.fold
          refine HU.all (by (first | refine KeepU.blk (by (repeat (first | exact List.Mem.head _ | apply List.Mem.tail)); done) rfl ?_ | refine KeepU.grow (by (repeat (first | exact List.Mem.head _ | apply List.Mem.tail)); done) (by assumption) ?_ | refine KeepU.base (by assumption) ?_); (first | refine KeepU.blk (by (repeat (first | exact List.Mem.head _ | apply List.Mem.tail)); done) rfl ?_ | refine KeepU.grow (by (repeat (first | exact List.Mem.head _ | apply List.Mem.tail)); done) (by assumption) ?_ | refine KeepU.base (by assumption) ?_); (first | refine KeepU.blk (by (repeat (first | exact List.Mem.head _ | apply List.Mem.tail)); done) rfl ?_ | refine KeepU.grow (by (repeat (first | exact List.Mem.head _ | apply List.Mem.tail)); done) (by assumption) ?_ | refine KeepU.base (by assumption) ?_); (first | refine KeepU.blk (by (repeat (first | exact List.Mem.head _ | apply List.Mem.tail)); done) rfl ?_ | refine KeepU.grow (by (repeat (first | exact List.Mem.head _ | apply List.Mem.tail)); done) (by assumption) ?_ | refine KeepU.base (by assumption) ?_); exact KeepU.nil) [15] (by kernel_rfl) rfl ⟨⟨_, rfl, ?_⟩, trivial⟩
          refine HV.one ?_
          refine H1.st (b := b6) (i := 0) rfl rfl (by intro _ h; cases h) (by intro _ h; cases h) rplA (by show 0 < 2; decide) ?_
          apply HU.fold
          refine HU.pa 16 rfl ?_
          refine HU.all (by refine KeepU.skip (by kernel_rfl) ?_; (first | refine KeepU.blk (by (repeat (first | exact List.Mem.head _ | apply List.Mem.tail)); done) rfl ?_ | refine KeepU.grow (by (repeat (first | exact List.Mem.head _ | apply List.Mem.tail)); done) (by assumption) ?_ | refine KeepU.base (by assumption) ?_); (first | refine KeepU.blk (by (repeat (first | exact List.Mem.head _ | apply List.Mem.tail)); done) rfl ?_ | refine KeepU.grow (by (repeat (first | exact List.Mem.head _ | apply List.Mem.tail)); done) (by assumption) ?_ | refine KeepU.base (by assumption) ?_); (first | refine KeepU.blk (by (repeat (first | exact List.Mem.head _ | apply List.Mem.tail)); done) rfl ?_ | refine KeepU.grow (by (repeat (first | exact List.Mem.head _ | apply List.Mem.tail)); done) (by assumption) ?_ | refine KeepU.base (by assumption) ?_); exact KeepU.nil) [17] (by kernel_rfl) rfl ⟨⟨_, rfl, ?_⟩, trivial⟩
          refine HV.one ?_
          refine H1.st (b := b6) (i := 1) rfl rfl (by intro _ h; cases h) (by intro _ h; cases h) rplA (by show 1 < 2; decide) ?_
          apply HU.fold
          refine HU.done (by refine KeepU.skip (by kernel_rfl) ?_; refine KeepU.skip (by kernel_rfl) ?_; refine KeepU.skip (by kernel_rfl) ?_; refine KeepU.skip (by kernel_rfl) ?_; exact KeepU.nil) (by kernel_rfl) ?_
          refine HX.conv (H2 := A.all (rowsA (z ++ [(n, az, cz)])) :: [A.blk b3 [.slice (some ⟨b0, off0, none⟩) l.length c, .slice (some ⟨bd, offd, none⟩) D.length c2] 84, A.blk b6 [.slice an2 (z.length + 1) cn2, .slice (some ⟨ad2, 0, none⟩) (z.length + 1) cd2] 84, A.grow 31 4 an2 cn2 (z.length + 1) (ndsV (z ++ [(n, az, cz)])), A.grow 9 1 (some ⟨ad2, 0, none⟩) cd2 (z.length + 1) (strs (digP (prK l D m b (k + 1))))]) (fun w h => by
            rw [rowsA_snoc]
            exact Mm.allAdd (h.sub (Hs.cons (a := A.grow 3 1 az cz n.src.length (ints n.src)) pickA (Hs.cons (a := A.all (rowsA z)) pickA (by repeat (first | exact Hs.nil _ | (refine Hs.cons pickA ?_))))))) ?_
          refine hwNV ?_
          exact HX.again (k + 1, z ++ [(n, az, cz)], (an2, cn2), some ⟨ad2, 0, none⟩, cd2) ⟨hlt, hzn⟩ (by show l.length - (k + 1) < l.length - k; omega) esA (by dsimp only; rw [hz1]; repeat (first | exact Hs.nil _ | (refine Hs.cons pickA ?_)))
        · refine HV.one ?_
          refine H1.lit (cs := [.string d]) rfl rfl rfl rfl rfl rfl (fun b10 => ?_)
          apply HU.fold
          refine HU.all (by (first | refine KeepU.blk (by (repeat (first | exact List.Mem.head _ | apply List.Mem.tail)); done) rfl ?_ | refine KeepU.grow (by (repeat (first | exact List.Mem.head _ | apply List.Mem.tail)); done) (by assumption) ?_ | refine KeepU.base (by assumption) ?_); (first | refine KeepU.blk (by (repeat (first | exact List.Mem.head _ | apply List.Mem.tail)); done) rfl ?_ | refine KeepU.grow (by (repeat (first | exact List.Mem.head _ | apply List.Mem.tail)); done) (by assumption) ?_ | refine KeepU.base (by assumption) ?_); (first | refine KeepU.blk (by (repeat (first | exact List.Mem.head _ | apply List.Mem.tail)); done) rfl ?_ | refine KeepU.grow (by (repeat (first | exact List.Mem.head _ | apply List.Mem.tail)); done) (by assumption) ?_ | refine KeepU.base (by assumption) ?_); (first | refine KeepU.blk (by (repeat (first | exact List.Mem.head _ | apply List.Mem.tail)); done) rfl ?_ | refine KeepU.grow (by (repeat (first | exact List.Mem.head _ | apply List.Mem.tail)); done) (by assumption) ?_ | refine KeepU.base (by assumption) ?_); exact KeepU.nil) [4] (by kernel_rfl) rfl ⟨⟨_, rfl, ?_⟩, trivial⟩
          refine HV.one ?_
          refine H1.app (sz := 4) (m := 1) (news := ndC n (vZ (n, az, cz))) rfl (by decide) rfl rfl (fun _ _ => by first | ((repeat (first | with_reducible exact Rpl.here | with_reducible apply Rpl.there)); done) | (repeat (first | exact Rpl.here | apply Rpl.there))) rfl (fun w' hM j u hj => by rw [add_lit, Nat.zero_add]; exact (hM.blk (b := b9) memA).cell hj) (nd_one rfl) (by omega) (by decide) rfl (fun an2 cn2 _ => ?_)
          rw [hnv]
          apply HU.fold
          refine HU.pa 14 rfl ?_
          refine HU.all (by (first | refine KeepU.blk (by (repeat (first | exact List.Mem.head _ | apply List.Mem.tail)); done) rfl ?_ | refine KeepU.grow (by (repeat (first | exact List.Mem.head _ | apply List.Mem.tail)); done) (by assumption) ?_ | refine KeepU.base (by assumption) ?_); (first | refine KeepU.blk (by (repeat (first | exact List.Mem.head _ | apply List.Mem.tail)); done) rfl ?_ | refine KeepU.grow (by (repeat (first | exact List.Mem.head _ | apply List.Mem.tail)); done) (by assumption) ?_ | refine KeepU.base (by assumption) ?_); (first | refine KeepU.blk (by (repeat (first | exact List.Mem.head _ | apply List.Mem.tail)); done) rfl ?_ | refine KeepU.grow (by (repeat (first | exact List.Mem.head _ | apply List.Mem.tail)); done) (by assumption) ?_ | refine KeepU.base (by assumption) ?_); (first | refine KeepU.blk (by (repeat (first | exact List.Mem.head _ | apply List.Mem.tail)); done) rfl ?_ | refine KeepU.grow (by (repeat (first | exact List.Mem.head _ | apply List.Mem.tail)); done) (by assumption) ?_ | refine KeepU.base (by assumption) ?_); exact KeepU.nil) [13] (by kernel_rfl) rfl ⟨⟨_, rfl, ?_⟩, trivial⟩
          refine HV.one ?_
          refine H1.app1 (u := .string d) rfl rfl (fun _ _ => by first | ((repeat (first | with_reducible exact Rpl.here | with_reducible apply Rpl.there)); done) | (repeat (first | exact Rpl.here | apply Rpl.there))) memA rfl rfl (by omega) rfl rfl (fun ad2 cd2 => ?_)
          rw [hdg]
          apply HU.fold
          refine HU.all (by (first | refine KeepU.blk (by (repeat (first | exact List.Mem.head _ | apply List.Mem.tail)); done) rfl ?_ | refine KeepU.grow (by (repeat (first | exact List.Mem.head _ | apply List.Mem.tail)); done) (by assumption) ?_ | refine KeepU.base (by assumption) ?_); (first | refine KeepU.blk (by (repeat (first | exact List.Mem.head _ | apply List.Mem.tail)); done) rfl ?_ | refine KeepU.grow (by (repeat (first | exact List.Mem.head _ | apply List.Mem.tail)); done) (by assumption) ?_ | refine KeepU.base (by assumption) ?_); (first | refine KeepU.blk (by (repeat (first | exact List.Mem.head _ | apply List.Mem.tail)); done) rfl ?_ | refine KeepU.grow (by (repeat (first | exact List.Mem.head _ | apply List.Mem.tail)); done) (by assumption) ?_ | refine KeepU.base (by assumption) ?_); (first | refine KeepU.blk (by (repeat (first | exact List.Mem.head _ | apply List.Mem.tail)); done) rfl ?_ | refine KeepU.grow (by (repeat (first | exact List.Mem.head _ | apply List.Mem.tail)); done) (by assumption) ?_ | refine KeepU.base (by assumption) ?_); exact KeepU.nil) [15] (by kernel_rfl) rfl ⟨⟨_, rfl, ?_⟩, trivial⟩
          refine HV.one ?_
          refine H1.st (b := b6) (i := 0) rfl rfl (by intro _ h; cases h) (by intro _ h; cases h) rplA (by show 0 < 2; decide) ?_
          apply HU.fold
          refine HU.pa 16 rfl ?_
          refine HU.all (by refine KeepU.skip (by kernel_rfl) ?_; (first | refine KeepU.blk (by (repeat (first | exact List.Mem.head _ | apply List.Mem.tail)); done) rfl ?_ | refine KeepU.grow (by (repeat (first | exact List.Mem.head _ | apply List.Mem.tail)); done) (by assumption) ?_ | refine KeepU.base (by assumption) ?_); (first | refine KeepU.blk (by (repeat (first | exact List.Mem.head _ | apply List.Mem.tail)); done) rfl ?_ | refine KeepU.grow (by (repeat (first | exact List.Mem.head _ | apply List.Mem.tail)); done) (by assumption) ?_ | refine KeepU.base (by assumption) ?_); (first | refine KeepU.blk (by (repeat (first | exact List.Mem.head _ | apply List.Mem.tail)); done) rfl ?_ | refine KeepU.grow (by (repeat (first | exact List.Mem.head _ | apply List.Mem.tail)); done) (by assumption) ?_ | refine KeepU.base (by assumption) ?_); exact KeepU.nil) [17] (by kernel_rfl) rfl ⟨⟨_, rfl, ?_⟩, trivial⟩
          refine HV.one ?_
          refine H1.st (b := b6) (i := 1) rfl rfl (by intro _ h; cases h) (by intro _ h; cases h) rplA (by show 1 < 2; decide) ?_
          apply HU.fold
          refine HU.done (by refine KeepU.skip (by kernel_rfl) ?_; refine KeepU.skip (by kernel_rfl) ?_; refine KeepU.skip (by kernel_rfl) ?_; refine KeepU.skip (by kernel_rfl) ?_; exact KeepU.nil) (by kernel_rfl) ?_
          refine HX.conv (H2 := A.all (rowsA (z ++ [(n, az, cz)])) :: [A.blk b3 [.slice (some ⟨b0, off0, none⟩) l.length c, .slice (some ⟨bd, offd, none⟩) D.length c2] 84, A.blk b6 [.slice an2 (z.length + 1) cn2, .slice (some ⟨ad2, 0, none⟩) (z.length + 1) cd2] 84, A.grow 31 4 an2 cn2 (z.length + 1) (ndsV (z ++ [(n, az, cz)])), A.grow 9 1 (some ⟨ad2, 0, none⟩) cd2 (z.length + 1) (strs (digP (prK l D m b (k + 1))))]) (fun w h => by
            rw [rowsA_snoc]
            exact Mm.allAdd (h.sub (Hs.cons (a := A.grow 3 1 az cz n.src.length (ints n.src)) pickA (Hs.cons (a := A.all (rowsA z)) pickA (by repeat (first | exact Hs.nil _ | (refine Hs.cons pickA ?_))))))) ?_
          refine hwNV ?_
          exact HX.again (k + 1, z ++ [(n, az, cz)], (an2, cn2), some ⟨ad2, 0, none⟩, cd2) ⟨hlt, hzn⟩ (by show l.length - (k + 1) < l.length - k; omega) esA (by dsimp only; rw [hz1]; repeat (first | exact Hs.nil _ | (refine Hs.cons pickA ?_)))
      · refine HV.one ?_
        refine H1.lit (cs := [.string d]) rfl rfl rfl rfl rfl rfl (fun b10 => ?_)
        apply HU.fold
        refine HU.all (by (first | refine KeepU.blk (by (repeat (first | exact List.Mem.head _ | apply List.Mem.tail)); done) rfl ?_ | refine KeepU.grow (by (repeat (first | exact List.Mem.head _ | apply List.Mem.tail)); done) (by assumption) ?_ | refine KeepU.base (by assumption) ?_); (first | refine KeepU.blk (by (repeat (first | exact List.Mem.head _ | apply List.Mem.tail)); done) rfl ?_ | refine KeepU.grow (by (repeat (first | exact List.Mem.head _ | apply List.Mem.tail)); done) (by assumption) ?_ | refine KeepU.base (by assumption) ?_); (first | refine KeepU.blk (by (repeat (first | exact List.Mem.head _ | apply List.Mem.tail)); done) rfl ?_ | refine KeepU.grow (by (repeat (first | exact List.Mem.head _ | apply List.Mem.tail)); done) (by assumption) ?_ | refine KeepU.base (by assumption) ?_); (first | refine KeepU.blk (by (repeat (first | exact List.Mem.head _ | apply List.Mem.tail)); done) rfl ?_ | refine KeepU.grow (by (repeat (first | exact List.Mem.head _ | apply List.Mem.tail)); done) (by assumption) ?_ | refine KeepU.base (by assumption) ?_); exact KeepU.nil) [3] (by kernel_rfl) rfl ⟨⟨_, rfl, ?_⟩, trivial⟩
        refine HV.one ?_
        refine H1.lit (cs := ndC n (vZ (n, az, cz))) rfl rfl rfl rfl rfl rfl (fun b9 => ?_)
        apply HU.fold
        refine HU.all (by (first | refine KeepU.blk (by (repeat (first | exact List.Mem.head _ | apply List.Mem.tail)); done) rfl ?_ | refine KeepU.grow (by (repeat (first | exact List.Mem.head _ | apply List.Mem.tail)); done) (by assumption) ?_ | refine KeepU.base (by assumption) ?_); (first | refine KeepU.blk (by (repeat (first | exact List.Mem.head _ | apply List.Mem.tail)); done) rfl ?_ | refine KeepU.grow (by (repeat (first | exact List.Mem.head _ | apply List.Mem.tail)); done) (by assumption) ?_ | refine KeepU.base (by assumption) ?_); (first | refine KeepU.blk (by (repeat (first | exact List.Mem.head _ | apply List.Mem.tail)); done) rfl ?_ | refine KeepU.grow (by (repeat (first | exact List.Mem.head _ | apply List.Mem.tail)); done) (by assumption) ?_ | refine KeepU.base (by assumption) ?_); (first | refine KeepU.blk (by (repeat (first | exact List.Mem.head _ | apply List.Mem.tail)); done) rfl ?_ | refine KeepU.grow (by (repeat (first | exact List.Mem.head _ | apply List.Mem.tail)); done) (by assumption) ?_ | refine KeepU.base (by assumption) ?_); exact KeepU.nil) [4] (by kernel_rfl) rfl ⟨⟨_, rfl, ?_⟩, trivial⟩
        refine HV.one ?_
        refine H1.app (sz := 4) (m := 1) (news := ndC n (vZ (n, az, cz))) rfl (by decide) rfl rfl (fun _ _ => by first | ((repeat (first | with_reducible exact Rpl.here | with_reducible apply Rpl.there)); done) | (repeat (first | exact Rpl.here | apply Rpl.there))) rfl (fun w' hM j u hj => by rw [add_lit, Nat.zero_add]; exact (hM.blk (b := b9) memA).cell hj) (nd_one rfl) (by omega) (by decide) rfl (fun an2 cn2 _ => ?_)
        rw [hnv]
        apply HU.fold
        refine HU.pa 14 rfl ?_
        refine HU.all (by (first | refine KeepU.blk (by (repeat (first | exact List.Mem.head _ | apply List.Mem.tail)); done) rfl ?_ | refine KeepU.grow (by (repeat (first | exact List.Mem.head _ | apply List.Mem.tail)); done) (by assumption) ?_ | refine KeepU.base (by assumption) ?_); (first | refine KeepU.blk (by (repeat (first | exact List.Mem.head _ | apply List.Mem.tail)); done) rfl ?_ | refine KeepU.grow (by (repeat (first | exact List.Mem.head _ | apply List.Mem.tail)); done) (by assumption) ?_ | refine KeepU.base (by assumption) ?_); (first | refine KeepU.blk (by (repeat (first | exact List.Mem.head _ | apply List.Mem.tail)); done) rfl ?_ | refine KeepU.grow (by (repeat (first | exact List.Mem.head _ | apply List.Mem.tail)); done) (by assumption) ?_ | refine KeepU.base (by assumption) ?_); (first | refine KeepU.blk (by (repeat (first | exact List.Mem.head _ | apply List.Mem.tail)); done) rfl ?_ | refine KeepU.grow (by (repeat (first | exact List.Mem.head _ | apply List.Mem.tail)); done) (by assumption) ?_ | refine KeepU.base (by assumption) ?_); exact KeepU.nil) [13] (by kernel_rfl) rfl ⟨⟨_, rfl, ?_⟩, trivial⟩
        refine HV.one ?_
        refine H1.app1 (u := .string d) rfl rfl (fun _ _ => by first | ((repeat (first | with_reducible exact Rpl.here | with_reducible apply Rpl.there)); done) | (repeat (first | exact Rpl.here | apply Rpl.there))) memA rfl rfl (by omega) rfl rfl (fun ad2 cd2 => ?_)
        rw [hdg]
        apply HU.fold
        refine HU.all (by (first | refine KeepU.blk (by (repeat (first | exact List.Mem.head _ | apply List.Mem.tail)); done) rfl ?_ | refine KeepU.grow (by (repeat (first | exact List.Mem.head _ | apply List.Mem.tail)); done) (by assumption) ?_ | refine KeepU.base (by assumption) ?_); (first | refine KeepU.blk (by (repeat (first | exact List.Mem.head _ | apply List.Mem.tail)); done) rfl ?_ | refine KeepU.grow (by (repeat (first | exact List.Mem.head _ | apply List.Mem.tail)); done) (by assumption) ?_ | refine KeepU.base (by assumption) ?_); (first | refine KeepU.blk (by (repeat (first | exact List.Mem.head _ | apply List.Mem.tail)); done) rfl ?_ | refine KeepU.grow (by (repeat (first | exact List.Mem.head _ | apply List.Mem.tail)); done) (by assumption) ?_ | refine KeepU.base (by assumption) ?_); (first | refine KeepU.blk (by (repeat (first | exact List.Mem.head _ | apply List.Mem.tail)); done) rfl ?_ | refine KeepU.grow (by (repeat (first | exact List.Mem.head _ | apply List.Mem.tail)); done) (by assumption) ?_ | refine KeepU.base (by assumption) ?_); exact KeepU.nil) [15] (by kernel_rfl) rfl ⟨⟨_, rfl, ?_⟩, trivial⟩
        refine HV.one ?_
        refine H1.st (b := b6) (i := 0) rfl rfl (by intro _ h; cases h) (by intro _ h; cases h) rplA (by show 0 < 2; decide) ?_
        apply HU.fold
        refine HU.pa 16 rfl ?_
        refine HU.all (by refine KeepU.skip (by kernel_rfl) ?_; (first | refine KeepU.blk (by (repeat (first | exact List.Mem.head _ | apply List.Mem.tail)); done) rfl ?_ | refine KeepU.grow (by (repeat (first | exact List.Mem.head _ | apply List.Mem.tail)); done) (by assumption) ?_ | refine KeepU.base (by assumption) ?_); (first | refine KeepU.blk (by (repeat (first | exact List.Mem.head _ | apply List.Mem.tail)); done) rfl ?_ | refine KeepU.grow (by (repeat (first | exact List.Mem.head _ | apply List.Mem.tail)); done) (by assumption) ?_ | refine KeepU.base (by assumption) ?_); (first | refine KeepU.blk (by (repeat (first | exact List.Mem.head _ | apply List.Mem.tail)); done) rfl ?_ | refine KeepU.grow (by (repeat (first | exact List.Mem.head _ | apply List.Mem.tail)); done) (by assumption) ?_ | refine KeepU.base (by assumption) ?_); exact KeepU.nil) [17] (by kernel_rfl) rfl ⟨⟨_, rfl, ?_⟩, trivial⟩
        refine HV.one ?_
        refine H1.st (b := b6) (i := 1) rfl rfl (by intro _ h; cases h) (by intro _ h; cases h) rplA (by show 1 < 2; decide) ?_
        apply HU.fold
        refine HU.done (by refine KeepU.skip (by kernel_rfl) ?_; refine KeepU.skip (by kernel_rfl) ?_; refine KeepU.skip (by kernel_rfl) ?_; refine KeepU.skip (by kernel_rfl) ?_; exact KeepU.nil) (by kernel_rfl) ?_
        refine HX.conv (H2 := A.all (rowsA (z ++ [(n, az, cz)])) :: [A.blk b3 [.slice (some ⟨b0, off0, none⟩) l.length c, .slice (some ⟨bd, offd, none⟩) D.length c2] 84, A.blk b6 [.slice an2 (z.length + 1) cn2, .slice (some ⟨ad2, 0, none⟩) (z.length + 1) cd2] 84, A.grow 31 4 an2 cn2 (z.length + 1) (ndsV (z ++ [(n, az, cz)])), A.grow 9 1 (some ⟨ad2, 0, none⟩) cd2 (z.length + 1) (strs (digP (prK l D m b (k + 1))))]) (fun w h => by
          rw [rowsA_snoc]
          exact Mm.allAdd (h.sub (Hs.cons (a := A.grow 3 1 az cz n.src.length (ints n.src)) pickA (Hs.cons (a := A.all (rowsA z)) pickA (by repeat (first | exact Hs.nil _ | (refine Hs.cons pickA ?_))))))) ?_
        refine hwNV ?_
        exact HX.again (k + 1, z ++ [(n, az, cz)], (an2, cn2), some ⟨ad2, 0, none⟩, cd2) ⟨hlt, hzn⟩ (by show l.length - (k + 1) < l.length - k; omega) esA (by dsimp only; rw [hz1]; repeat (first | exact Hs.nil _ | (refine Hs.cons pickA ?_)))
    · refine HV.one ?_
      refine H1.lit (cs := [.string d]) rfl rfl rfl rfl rfl rfl (fun b10 => ?_)
      apply HU.fold
      refine HU.all (by (first | refine KeepU.blk (by (repeat (first | exact List.Mem.head _ | apply List.Mem.tail)); done) rfl ?_ | refine KeepU.grow (by (repeat (first | exact List.Mem.head _ | apply List.Mem.tail)); done) (by assumption) ?_ | refine KeepU.base (by assumption) ?_); (first | refine KeepU.blk (by (repeat (first | exact List.Mem.head _ | apply List.Mem.tail)); done) rfl ?_ | refine KeepU.grow (by (repeat (first | exact List.Mem.head _ | apply List.Mem.tail)); done) (by assumption) ?_ | refine KeepU.base (by assumption) ?_); (first | refine KeepU.blk (by (repeat (first | exact List.Mem.head _ | apply List.Mem.tail)); done) rfl ?_ | refine KeepU.grow (by (repeat (first | exact List.Mem.head _ | apply List.Mem.tail)); done) (by assumption) ?_ | refine KeepU.base (by assumption) ?_); (first | refine KeepU.blk (by (repeat (first | exact List.Mem.head _ | apply List.Mem.tail)); done) rfl ?_ | refine KeepU.grow (by (repeat (first | exact List.Mem.head _ | apply List.Mem.tail)); done) (by assumption) ?_ | refine KeepU.base (by assumption) ?_); exact KeepU.nil) [2] (by kernel_rfl) rfl ⟨⟨_, rfl, ?_⟩, trivial⟩
      refine HV.one ?_
      refine H1.ldAgg (b := b8) (vs := ndC n (vZ (n, az, cz))) rfl memA rfl (fun i v hv => by rw [Nat.zero_add]; exact hv) rfl ?_
      apply HU.fold
      refine HU.all (by (first | refine KeepU.blk (by (repeat (first | exact List.Mem.head _ | apply List.Mem.tail)); done) rfl ?_ | refine KeepU.grow (by (repeat (first | exact List.Mem.head _ | apply List.Mem.tail)); done) (by assumption) ?_ | refine KeepU.base (by assumption) ?_); (first | refine KeepU.blk (by (repeat (first | exact List.Mem.head _ | apply List.Mem.tail)); done) rfl ?_ | refine KeepU.grow (by (repeat (first | exact List.Mem.head _ | apply List.Mem.tail)); done) (by assumption) ?_ | refine KeepU.base (by assumption) ?_); (first | refine KeepU.blk (by (repeat (first | exact List.Mem.head _ | apply List.Mem.tail)); done) rfl ?_ | refine KeepU.grow (by (repeat (first | exact List.Mem.head _ | apply List.Mem.tail)); done) (by assumption) ?_ | refine KeepU.base (by assumption) ?_); (first | refine KeepU.blk (by (repeat (first | exact List.Mem.head _ | apply List.Mem.tail)); done) rfl ?_ | refine KeepU.grow (by (repeat (first | exact List.Mem.head _ | apply List.Mem.tail)); done) (by assumption) ?_ | refine KeepU.base (by assumption) ?_); exact KeepU.nil) [3] (by kernel_rfl) rfl ⟨⟨_, rfl, ?_⟩, trivial⟩
      refine HV.one ?_
      refine H1.lit (cs := ndC n (vZ (n, az, cz))) rfl rfl rfl rfl rfl rfl (fun b9 => ?_)
      apply HU.fold
      refine HU.all (by (first | refine KeepU.blk (by (repeat (first | exact List.Mem.head _ | apply List.Mem.tail)); done) rfl ?_ | refine KeepU.grow (by (repeat (first | exact List.Mem.head _ | apply List.Mem.tail)); done) (by assumption) ?_ | refine KeepU.base (by assumption) ?_); (first | refine KeepU.blk (by (repeat (first | exact List.Mem.head _ | apply List.Mem.tail)); done) rfl ?_ | refine KeepU.grow (by (repeat (first | exact List.Mem.head _ | apply List.Mem.tail)); done) (by assumption) ?_ | refine KeepU.base (by assumption) ?_); (first | refine KeepU.blk (by (repeat (first | exact List.Mem.head _ | apply List.Mem.tail)); done) rfl ?_ | refine KeepU.grow (by (repeat (first | exact List.Mem.head _ | apply List.Mem.tail)); done) (by assumption) ?_ | refine KeepU.base (by assumption) ?_); (first | refine KeepU.blk (by (repeat (first | exact List.Mem.head _ | apply List.Mem.tail)); done) rfl ?_ | refine KeepU.grow (by (repeat (first | exact List.Mem.head _ | apply List.Mem.tail)); done) (by assumption) ?_ | refine KeepU.base (by assumption) ?_); exact KeepU.nil) [4] (by kernel_rfl) rfl ⟨⟨_, rfl, ?_⟩, trivial⟩
      refine HV.one ?_
      refine H1.app (sz := 4) (m := 1) (news := ndC n (vZ (n, az, cz))) rfl (by decide) rfl rfl (fun _ _ => by first | ((repeat (first | with_reducible exact Rpl.here | with_reducible apply Rpl.there)); done) | (repeat (first | exact Rpl.here | apply Rpl.there))) rfl (fun w' hM j u hj => by rw [add_lit, Nat.zero_add]; exact (hM.blk (b := b9) memA).cell hj) (nd_one rfl) (by omega) (by decide) rfl (fun an2 cn2 _ => ?_)
      rw [hnv]
      apply HU.fold
      refine HU.pa 14 rfl ?_
      refine HU.all (by (first | refine KeepU.blk (by (repeat (first | exact List.Mem.head _ | apply List.Mem.tail)); done) rfl ?_ | refine KeepU.grow (by (repeat (first | exact List.Mem.head _ | apply List.Mem.tail)); done) (by assumption) ?_ | refine KeepU.base (by assumption) ?_); (first | refine KeepU.blk (by (repeat (first | exact List.Mem.head _ | apply List.Mem.tail)); done) rfl ?_ | refine KeepU.grow (by (repeat (first | exact List.Mem.head _ | apply List.Mem.tail)); done) (by assumption) ?_ | refine KeepU.base (by assumption) ?_); (first | refine KeepU.blk (by (repeat (first | exact List.Mem.head _ | apply List.Mem.tail)); done) rfl ?_ | refine KeepU.grow (by (repeat (first | exact List.Mem.head _ | apply List.Mem.tail)); done) (by assumption) ?_ | refine KeepU.base (by assumption) ?_); (first | refine KeepU.blk (by (repeat (first | exact List.Mem.head _ | apply List.Mem.tail)); done) rfl ?_ | refine KeepU.grow (by (repeat (first | exact List.Mem.head _ | apply List.Mem.tail)); done) (by assumption) ?_ | refine KeepU.base (by assumption) ?_); exact KeepU.nil) [13] (by kernel_rfl) rfl ⟨⟨_, rfl, ?_⟩, trivial⟩
      refine HV.one ?_
      refine H1.app1 (u := .string d) rfl rfl (fun _ _ => by first | ((repeat (first | with_reducible exact Rpl.here | with_reducible apply Rpl.there)); done) | (repeat (first | exact Rpl.here | apply Rpl.there))) memA rfl rfl (by omega) rfl rfl (fun ad2 cd2 => ?_)
      rw [hdg]
      apply HU.fold
      refine HU.all (by (first | refine KeepU.blk (by (repeat (first | exact List.Mem.head _ | apply List.Mem.tail)); done) rfl ?_ | refine KeepU.grow (by (repeat (first | exact List.Mem.head _ | apply List.Mem.tail)); done) (by assumption) ?_ | refine KeepU.base (by assumption) ?_); (first | refine KeepU.blk (by (repeat (first | exact List.Mem.head _ | apply List.Mem.tail)); done) rfl ?_ | refine KeepU.grow (by (repeat (first | exact List.Mem.head _ | apply List.Mem.tail)); done) (by assumption) ?_ | refine KeepU.base (by assumption) ?_); (first | refine KeepU.blk (by (repeat (first | exact List.Mem.head _ | apply List.Mem.tail)); done) rfl ?_ | refine KeepU.grow (by (repeat (first | exact List.Mem.head _ | apply List.Mem.tail)); done) (by assumption) ?_ | refine KeepU.base (by assumption) ?_); (first | refine KeepU.blk (by (repeat (first | exact List.Mem.head _ | apply List.Mem.tail)); done) rfl ?_ | refine KeepU.grow (by (repeat (first | exact List.Mem.head _ | apply List.Mem.tail)); done) (by assumption) ?_ | refine KeepU.base (by assumption) ?_); exact KeepU.nil) [15] (by kernel_rfl) rfl ⟨⟨_, rfl, ?_⟩, trivial⟩
      refine HV.one ?_
      refine H1.st (b := b6) (i := 0) rfl rfl (by intro _ h; cases h) (by intro _ h; cases h) rplA (by show 0 < 2; decide) ?_
      apply HU.fold
      refine HU.pa 16 rfl ?_
      refine HU.all (by refine KeepU.skip (by kernel_rfl) ?_; (first | refine KeepU.blk (by (repeat (first | exact List.Mem.head _ | apply List.Mem.tail)); done) rfl ?_ | refine KeepU.grow (by (repeat (first | exact List.Mem.head _ | apply List.Mem.tail)); done) (by assumption) ?_ | refine KeepU.base (by assumption) ?_); (first | refine KeepU.blk (by (repeat (first | exact List.Mem.head _ | apply List.Mem.tail)); done) rfl ?_ | refine KeepU.grow (by (repeat (first | exact List.Mem.head _ | apply List.Mem.tail)); done) (by assumption) ?_ | refine KeepU.base (by assumption) ?_); (first | refine KeepU.blk (by (repeat (first | exact List.Mem.head _ | apply List.Mem.tail)); done) rfl ?_ | refine KeepU.grow (by (repeat (first | exact List.Mem.head _ | apply List.Mem.tail)); done) (by assumption) ?_ | refine KeepU.base (by assumption) ?_); exact KeepU.nil) [17] (by kernel_rfl) rfl ⟨⟨_, rfl, ?_⟩, trivial⟩
      refine HV.one ?_
      refine H1.st (b := b6) (i := 1) rfl rfl (by intro _ h; cases h) (by intro _ h; cases h) rplA (by show 1 < 2; decide) ?_
      apply HU.fold
      refine HU.done (by refine KeepU.skip (by kernel_rfl) ?_; refine KeepU.skip (by kernel_rfl) ?_; refine KeepU.skip (by kernel_rfl) ?_; refine KeepU.skip (by kernel_rfl) ?_; exact KeepU.nil) (by kernel_rfl) ?_
      refine HX.conv (H2 := A.all (rowsA (z ++ [(n, az, cz)])) :: [A.blk b3 [.slice (some ⟨b0, off0, none⟩) l.length c, .slice (some ⟨bd, offd, none⟩) D.length c2] 84, A.blk b6 [.slice an2 (z.length + 1) cn2, .slice (some ⟨ad2, 0, none⟩) (z.length + 1) cd2] 84, A.grow 31 4 an2 cn2 (z.length + 1) (ndsV (z ++ [(n, az, cz)])), A.grow 9 1 (some ⟨ad2, 0, none⟩) cd2 (z.length + 1) (strs (digP (prK l D m b (k + 1))))]) (fun w h => by
        rw [rowsA_snoc]
        exact Mm.allAdd (h.sub (Hs.cons (a := A.grow 3 1 az cz n.src.length (ints n.src)) pickA (Hs.cons (a := A.all (rowsA z)) pickA (by repeat (first | exact Hs.nil _ | (refine Hs.cons pickA ?_))))))) ?_
      refine hwNV ?_
      exact HX.again (k + 1, z ++ [(n, az, cz)], (an2, cn2), some ⟨ad2, 0, none⟩, cd2) ⟨hlt, hzn⟩ (by show l.length - (k + 1) < l.length - k; omega) esA (by dsimp only; rw [hz1]; repeat (first | exact Hs.nil _ | (refine Hs.cons pickA ?_)))
end Go.Sx
/- Plain, chapter 21: which record prevails; what is in effect. -/
namespace Go.Sx
open Go
/-- One record counts rather than another one. -/
def Prev (a b : Rc) : Prop := (ValidR a ∧ ValidR b ∧ keyR a = keyR b) ∧ (b.version < a.version ∨ a.version = b.version ∧ Op.bytesLess (encR b) (encR a) = true)
/-- A record that counts, by what is known on a day. -/
def Now (day : Int) (r : Rc) : Prop := ValidR r ∧ r.day ≤ day
structure Top (l : List Rc) (day : Int) (r : Rc) : Prop where
  mem : r ∈ l
  now : Now day r
  top : ∀ s ∈ l, s.day ≤ day → ¬ Prev s r
/-- What a map of keys holds behind some records. -/
structure EffM (l : List Rc) (day : Int) (m : List (List UInt8 × Rc)) : Prop where
  nd : (m.map Prod.fst).Nodup
  top : ∀ p ∈ m, p.1 = keyR p.2 ∧ Top l day p.2
  all : ∀ r ∈ l, Now day r → ∃ p ∈ m, p.1 = keyR r
/-- The number that is a record's key. -/
def numR (r : Rc) : Int := r.get (keyF r.kind)
def asK (L : List Rc) : Prop := L.Pairwise fun a b => numR a < numR b
/-- What is in effect by what is known on a day, of a kind: ascending. -/
structure IsOf (l : List Rc) (day : Int) (k : Int) (L : List Rc) : Prop where
  asc : asK L
  mem : ∀ r, r ∈ L ↔ (Top l day r ∧ r.gone = false) ∧ r.kind = k
end Go.Sx
/- Chapter 20: records as they lie in the memory; equality of records. -/
namespace Go.Sx
open Go Go.Proofs
def rcells (r : Rc) : List Value := [zv r.kind, zv r.id, zv r.version, zv r.day, .bool r.gone, zv r.start, zv r.stop, zv r.pack, zv r.person, zv r.role, zv r.purpose, zv r.clause, .bool r.adm, zv r.party, .string r.text]
abbrev recV (r : Rc) : Value := .agg (rcells r).toArray
def i64W (x : Int) : Prop := -9223372036854775808 ≤ x ∧ x ≤ 9223372036854775807
/-- A record whose numbers are numbers of the machine. -/
structure RcOk (r : Rc) : Prop where
  kind : i64W r.kind
  id : i64W r.id
  version : i64W r.version
  day : i64W r.day
  start : i64W r.start
  stop : i64W r.stop
  pack : i64W r.pack
  person : i64W r.person
  role : i64W r.role
  purpose : i64W r.purpose
  clause : i64W r.clause
  party : i64W r.party
  text : r.text.size ≤ maxLen
def rlits (r : Rc) : List Lit := [.int .i64 r.kind, .int .i64 r.id, .int .i64 r.version, .int .i64 r.day, .bool r.gone, .int .i64 r.start, .int .i64 r.stop, .int .i64 r.pack, .int .i64 r.person, .int .i64 r.role, .int .i64 r.purpose, .int .i64 r.clause, .bool r.adm, .int .i64 r.party, .string r.text.data.toList]
end Go.Sx
/- Chapter 20: the shapes of records. -/
namespace Go.Sx
open Go Go.Proofs Go.RowKit
/-- A literal, as a slice that may grow. -/
theorem Mm.blkGrow {w0 w : World} {b n sz : Nat} {cs : List Value} {e : TypeId} {H : List Atom} (h : Mm w0 (A.blk b cs e :: H) w) (hl : cs.length = n * sz) (hn : n ≤ 1000000) : Mm w0 (A.grow e sz (some ⟨b, 0, none⟩) n n cs :: H) w := by
  refine ⟨h.ext, fun x hx => ?_, h.nd, h.rng⟩
  rcases List.mem_cons.1 hx with rfl | hx
  · refine ⟨hl, .inr ⟨b, n, cs.toArray, rfl, Nat.zero_le _, h.blk (List.Mem.head _), Nat.le_refl _, by simp only [maxLen]; omega, by simpa using hl, ?_⟩⟩
    rw [← hl, List.take_of_length_le (by simp)]
  · exact h.all x (List.mem_cons_of_mem _ hx)
abbrev fnV (f : Nat) : Value := .func (.func f) #[] #[]
/-- The function that finds a field, and where it is. -/
def fid : Nat → Nat
  | 0 => 189
  | 1 => 181
  | 2 => 182
  | 3 => 184
  | 4 => 177
  | 5 => 178
  | 6 => 185
  | 7 => 179
  | 9 => 186
  | _ => 0
def fpos : Nat → Nat
  | 0 => 1
  | 1 => 5
  | 2 => 6
  | 3 => 7
  | 4 => 8
  | 5 => 9
  | 6 => 10
  | 7 => 11
  | 8 => 12
  | 9 => 13
  | _ => 0
def fcells (p : Nat × Int × Int) : List Value := if p.1 = 8 then [.nilFunc, zv 0, zv 0] else [fnV (fid p.1), zv p.2.1, zv p.2.2]
def fcl (l : List (Nat × Int × Int)) : List Value := l.flatMap fcells
theorem fcells_len (p : Nat × Int × Int) : (fcells p).length = 3 := by unfold fcells; split <;> rfl
def baseF : List (Nat × Int × Int) := [(0, 1, 1000000), (1, 0, 100000), (2, 0, 100000)]
attribute [local irreducible] WC WL WX POp Then Again Fn NX W1 WA WO QL RP RA Yld LoopAt HC HL HX HN H1 HA HO HQ HB HP A.blk A.grow A.rd A.obj A.mp AgainH CutH
end Go.Sx
/- Chapter 20: spanned, shapeOf. -/
namespace Go.Sx
open Go Go.Proofs Go.RowKit
def rid (k : Int) : Nat := if k = 2 then 187 else if k = 6 ∨ k = 8 then 188 else 199
def shapeC (z : Option Addr × Nat) (k : Int) : List Value := [.slice z.1 (specF k).length z.2, fnV (fid (keyF k)), zv 1, zv 1000000, fnV (rid k)]
attribute [local irreducible] WC WL WX POp Then Again Fn NX W1 WA WO QL RP RA Yld LoopAt HC HL HX HN H1 HA HO HQ HB HP A.blk A.grow A.rd A.obj A.mp AgainH CutH
end Go.Sx
/- Chapter 20: Valid. -/
namespace Go.Sx
open Go Go.Proofs Go.RowKit
section
variable {P : Program} {N : Nat} {ds : List Deferred} {E : Env} {t t' ty : TypeId} {x y : Operand}
end
def Rc.clr (r : Rc) : Nat → Rc
  | 0 => { r with id := 0 }
  | 1 => { r with start := 0 }
  | 2 => { r with stop := 0 }
  | 3 => { r with pack := 0 }
  | 4 => { r with person := 0 }
  | 5 => { r with role := 0 }
  | 6 => { r with purpose := 0 }
  | 7 => { r with clause := 0 }
  | 8 => { r with adm := false }
  | 9 => { r with party := 0 }
  | _ => r
theorem ten {i : Nat} (h : i < 10) : i = 0 ∨ i = 1 ∨ i = 2 ∨ i = 3 ∨ i = 4 ∨ i = 5 ∨ i = 6 ∨ i = 7 ∨ i = 8 ∨ i = 9 := by omega
theorem get_clr (r : Rc) {i j : Nat} (hi : i < 10) (hj : j < 10) : (r.clr i).get j = if i = j then 0 else r.get j := by
  rcases ten hi with rfl | rfl | rfl | rfl | rfl | rfl | rfl | rfl | rfl | rfl <;> rcases ten hj with rfl | rfl | rfl | rfl | rfl | rfl | rfl | rfl | rfl | rfl <;> rfl
structure SameHead (r s : Rc) : Prop where
  kind : r.kind = s.kind
  version : r.version = s.version
  day : r.day = s.day
  gone : r.gone = s.gone
  text : r.text = s.text
theorem SameHead.clr {r s : Rc} (h : SameHead r s) (i : Nat) : SameHead (r.clr i) s := by
  obtain ⟨h1, h2, h3, h4, h5⟩ := h
  by_cases hi : i < 10
  · rcases ten hi with rfl | rfl | rfl | rfl | rfl | rfl | rfl | rfl | rfl | rfl <;> exact ⟨h1, h2, h3, h4, h5⟩
  · have e : r.clr i = r := by
      match i, hi with
      | n + 10, _ => rfl
      | 0, h => omega
      | 1, h => omega
      | 2, h => omega
      | 3, h => omega
      | 4, h => omega
      | 5, h => omega
      | 6, h => omega
      | 7, h => omega
      | 8, h => omega
      | 9, h => omega
    rw [e]; exact ⟨h1, h2, h3, h4, h5⟩
theorem RcOk.clr {r : Rc} (h : RcOk r) {i : Nat} (hi : i < 10) : RcOk (r.clr i) := by
  obtain ⟨h1, h2, h3, h4, h5, h6, h7, h8, h9, h10, h11, h12, h13⟩ := h
  have z : i64W 0 := by unfold i64W; omega
  rcases ten hi with rfl | rfl | rfl | rfl | rfl | rfl | rfl | rfl | rfl | rfl <;> constructor <;> assumption
/-- A record without some of its fields. -/
def zr (r : Rc) (l : List (Nat × Int × Int)) : Rc := l.foldl (fun r p => r.clr p.1) r
/-- Its kind, its version, its day, whether it is gone, its text. -/
def headR (r : Rc) : Rc := ⟨r.kind, 0, r.version, r.day, r.gone, 0, 0, 0, 0, 0, 0, 0, false, 0, r.text⟩
noncomputable def validB (r : Rc) : Bool := @decide (ValidR r) (Classical.propDecidable _)
theorem rcells_one (r : Rc) : ∀ v ∈ rcells r, v.oneCell' = true := by
  unfold rcells
  intro v hv
  simp only [List.mem_cons, List.not_mem_nil, or_false] at hv
  rcases hv with rfl | rfl | rfl | rfl | rfl | rfl | rfl | rfl | rfl | rfl | rfl | rfl | rfl | rfl | rfl <;> rfl
def rcZ : Rc := ⟨0, 0, 0, 0, false, 0, 0, 0, 0, 0, 0, 0, false, 0, ByteArray.mk #[]⟩
end Go.Sx
/- Chapter 20: Valid is ValidR. -/
namespace Go.Sx
open Go Go.Proofs Go.RowKit
theorem call1 {P : Program} {f : FuncId} {v u : Value} {w : World} (h : Fn P f #[v] w fun x w' => x = u ∧ Ext w w') : Fn P f ([v] ++ ([] : List Value)).toArray w fun x w' => x = u ∧ Ext w w' := h
attribute [local irreducible] WC WL WX POp Then Again Fn NX W1 WA WO QL RP RA Yld LoopAt HC HL HX HN H1 HA HO HQ HB HP A.blk A.grow A.rd A.obj A.mp AgainH CutH
attribute [local irreducible] specF zr
end Go.Sx
/- Chapters 1 and 20: the encoding of a string; flag; strings compared. -/
namespace Go.Sx
open Go Go.Proofs Go.RowKit
attribute [local irreducible] WC WL WX POp Then Again Fn NX W1 WA WO QL RP RA Yld LoopAt HC HL HX HN H1 HA HO HQ HB HP A.blk A.grow A.rd A.obj A.mp AgainH CutH
end Go.Sx
/- Chapter 20: strings.Builder inside of the writer; put. -/
namespace Go.Sx
open Go Go.Proofs Go.RowKit
section
variable {P : Program} {r : Option Nat} {N : Nat} {ds : List Deferred} {Q : Post} {E : Env} {w0 : World} {H : List Atom} {next : Act → World → Prop} {g : Option (Nat × Bool)}
variable {d : Nat} {t t' ty e : TypeId} {pos : String} {af : Array Edge} {x y : Operand}
end
def putL (l : List Int) : List UInt8 := (l.map fun n => putN n.toNat).flatten
abbrev bldH (b : Nat) (p : Option Addr) (a : Option Addr) (c : Nat) (ys : List UInt8) (H : List Atom) : List Atom := A.blk b [.pointer p, .slice a ys.length c] 205 :: A.grow 5 1 a c ys.length (ub ys) :: H
attribute [local irreducible] WC WL WX POp Then Again Fn NX W1 WA WO QL RP RA Yld LoopAt HC HL HX HN H1 HA HO HQ HB HP A.blk A.grow A.rd A.obj A.mp AgainH CutH
end Go.Sx
/- Chapter 20: Key, Encode. -/
namespace Go.Sx
open Go Go.Proofs Go.RowKit
noncomputable def keyS (r : Rc) : ByteArray := if validB r = true then ⟨(keyR r).toArray⟩ else ⟨#[]⟩
noncomputable def encS (r : Rc) : ByteArray := if validB r = true then ⟨(encR r).toArray⟩ else ⟨#[]⟩
attribute [local irreducible] WC WL WX POp Then Again Fn NX W1 WA WO QL RP RA Yld LoopAt HC HL HX HN H1 HA HO HQ HB HP A.blk A.grow A.rd A.obj A.mp AgainH CutH
attribute [local irreducible] specF keyF
end Go.Sx
/- Chapter 20: Encode. -/
namespace Go.Sx
open Go Go.Proofs Go.RowKit
def headL (r : Rc) : List Int := [r.kind, r.version, r.day, b01 r.gone]
def fldL (r : Rc) (l : List (Nat × Int × Int)) : List Int := l.map fun p => r.get p.1
attribute [local irreducible] WC WL WX POp Then Again Fn NX W1 WA WO QL RP RA Yld LoopAt HC HL HX HN H1 HA HO HQ HB HP A.blk A.grow A.rd A.obj A.mp AgainH CutH
attribute [local irreducible] specF keyF
end Go.Sx
/- Chapter 20: Prevails. -/
namespace Go.Sx
open Go Go.Proofs Go.RowKit
noncomputable def prevB (a b : Rc) : Bool := @decide (Prev a b) (Classical.propDecidable _)
attribute [local irreducible] WC WL WX POp Then Again Fn NX W1 WA WO QL RP RA Yld LoopAt HC HL HX HN H1 HA HO HQ HB HP A.blk A.grow A.rd A.obj A.mp AgainH CutH
end Go.Sx
/- Chapter 21: what is in effect: a map by keys; maps.DeleteFunc. -/
namespace Go.Sx
open Go Go.Proofs Go.RowKit
/-- Records by their keys, as a map holds them. -/
def liftM (m : List (List UInt8 × Rc)) : List (ByteArray × Value) := m.map fun p => ((⟨p.1.toArray⟩ : ByteArray), recV p.2)
section
variable {P : Program} {r : Option Nat} {N : Nat} {ds : List Deferred} {Q : Post} {E : Env} {w0 : World} {H : List Atom} {next : Act → World → Prop} {g : Option (Nat × Bool)}
variable {t ty k e : TypeId} {pos : String} {af : Array Edge} {x y : Operand}
end
attribute [local irreducible] WC WL WX POp Then Again Fn NX W1 WA WO QL RP RA Yld LoopAt HC HL HX HN H1 HA HO HQ HB HP A.blk A.grow A.rd A.obj A.mp AgainH CutH
attribute [local irreducible] A.ms A.mx A.mit
end Go.Sx
/- Chapter 21: effect: what is in effect, by keys. -/
namespace Go.Sx
open Go Go.Proofs Go.RowKit
/-- A slice that reads as records. -/
def RdR (w : World) (v : Value) (l : List Rc) : Prop :=
  ∃ (a : Option Addr) (c : Nat), v = .slice a l.length c ∧ l.length ≤ c ∧ (l = [] ∨ ∃ b off, a = some ⟨b, off, none⟩ ∧ b < w.heap.size ∧ ∀ j r, l[j]? = some r → ∀ i u, (rcells r)[i]? = some u → w.cell? ⟨b, off + j * 15 + i, none⟩ = some u)
theorem RdR.ext {w w' : World} {v : Value} {l : List Rc} (h : RdR w v l) (k : Ext w w') : RdR w' v l := by
  obtain ⟨a, c, h1, h2, h3⟩ := h
  refine ⟨a, c, h1, h2, ?_⟩
  rcases h3 with h3 | ⟨b, off, h3, h5, h6⟩
  · exact .inl h3
  · exact .inr ⟨b, off, h3, Nat.lt_of_lt_of_le h5 k.size, fun j r hj i u hu => cell_ext k (h6 j r hj i u hu)⟩
theorem RdR.shape {w : World} {v : Value} {l : List Rc} (h : RdR w v l) : ∃ a c, v = .slice a l.length c ∧ l.length ≤ c := by
  obtain ⟨a, c, h1, h2, -⟩ := h
  exact ⟨a, c, h1, h2⟩
theorem RdR.at {w : World} {a : Option Addr} {n c : Nat} {l : List Rc} (h : RdR w (.slice a n c) l) (hne : l ≠ []) :
    ∃ b off, a = some ⟨b, off, none⟩ ∧ b < w.heap.size ∧ ∀ j r, l[j]? = some r → ∀ i u, (rcells r)[i]? = some u → w.cell? ⟨b, off + j * 15 + i, none⟩ = some u := by
  obtain ⟨a', c', h1, h2, h3⟩ := h
  cases h1
  rcases h3 with h3 | h3
  · exact absurd h3 hne
  · exact h3
def rcl (l : List Rc) : List Value := l.flatMap rcells
theorem rcells_len (r : Rc) : (rcells r).length = 15 := rfl
theorem rcl_get {l : List Rc} : ∀ {j : Nat} {p : Rc}, l[j]? = some p → ∀ (i : Nat) (v : Value), (rcells p)[i]? = some v → (rcl l)[j * 15 + i]? = some v := by
  induction l with
  | nil => intro j p h; simp at h
  | cons q l ih =>
    intro j p h i v hv
    have e : rcl (q :: l) = rcells q ++ rcl l := rfl
    rw [e]
    cases j with
    | zero =>
      simp only [List.getElem?_cons_zero, Option.some.injEq] at h
      subst h
      rw [Nat.zero_mul, Nat.zero_add, List.getElem?_append_left (List.getElem?_eq_some_iff.1 hv).1]
      exact hv
    | succ j =>
      rw [List.getElem?_cons_succ] at h
      have h1 := ih h i v hv
      rw [List.getElem?_append_right (by rw [rcells_len]; omega), rcells_len, show (j + 1) * 15 + i - 15 = j * 15 + i by omega]
      exact h1
theorem RdR.of_blk {w : World} {b : Nat} {e : TypeId} {l : List Rc} (h : Blk w b (rcl l) e) : RdR w (.slice (some ⟨b, 0, none⟩) l.length l.length) l :=
  ⟨_, _, rfl, Nat.le_refl _, .inr ⟨b, 0, rfl, (Array.getElem?_eq_some_iff.1 h).1, fun j r hj i u hu => by rw [Nat.zero_add]; exact h.cell (rcl_get hj i u hu)⟩⟩
/-- What is in effect, by its keys. -/
structure EffG (l : List Rc) (day : Int) (m : List (List UInt8 × Rc)) : Prop where
  nd : (m.map Prod.fst).Nodup
  key : ∀ p ∈ m, p.1 = keyR p.2
  mem : ∀ r, (∃ p ∈ m, p.2 = r) ↔ Top l day r ∧ r.gone = false
attribute [local irreducible] WC WL WX POp Then Again Fn NX W1 WA WO QL RP RA Yld LoopAt HC HL HX HN H1 HA HO HQ HB HP A.blk A.grow A.rd A.obj A.mp AgainH CutH
attribute [local irreducible] A.ms A.mx A.mit
end Go.Sx
/- Chapter 21: questions; conditions on records as closures; slices.ContainsFunc at records. -/
namespace Go.Sx
open Go Go.Proofs Go.RowKit
theorem hwXT {G G2 : Prop} (x : G2) (hwq : Hold G2 → G := by
    intro hQq
    repeat' (first | apply HL.fold | apply HA.fold | apply HL.nil | apply HX.n_then | apply HC.seq | apply HC.region | refine HL.pa ?_ | refine HL.ga rfl ?_ | refine HL.na rfl ?_ | refine HL.nu rfl rfl ?_ | apply HC.block | apply HC.skip | apply HC.exit | apply HC.ret | apply HX.e_block | refine HX.e_other rfl ?_ | apply HX.e_then | apply HX.e_again | apply HX.n_block | apply HX.r_then | apply HX.r_block | apply HX.r_again | refine HC.cond_yes rfl ?_ | refine HC.cond_no rfl ?_ | refine HL.one (H1.ldb rfl memA rfl rfl ?_) | refine HC.cond rfl (fun hc => ?_) (fun hc => ?_) | refine HC.cond_b rfl (fun hc => ?_) (fun hc => ?_))
    exact hQq.get) : G := hwq ⟨x⟩
section
variable {P : Program} {r : Option Nat} {N : Nat} {ds : List Deferred} {Q : Post} {E : Env} {w0 w : World} {H : List Atom} {next : Act → World → Prop} {g : Option (Nat × Bool)}
variable {d : Nat} {t t' ty e : TypeId} {pos : String} {af : Array Edge} {x y : Operand}
/-- A function value that answers a question about records. -/
def Pr (P : Program) (w : World) (fv : Value) (l : List Rc) (p : Rc → Bool) : Prop :=
  ∃ (f : FuncId) (pre cap : List Value), fv = .func (.func f) pre.toArray cap.toArray ∧ CallOk P f ∧ ∀ w', Ext w w' → ∀ r ∈ l, Fn P f (pre ++ [recV r] ++ cap).toArray w' fun v w'' => v = .bool (p r) ∧ Ext w' w''
theorem Pr.ext {w' : World} {fv : Value} {l : List Rc} {p : Rc → Bool} (h : Pr P w fv l p) (k : Ext w w') : Pr P w' fv l p := by
  obtain ⟨f, pre, cap, h1, h2, h3⟩ := h
  exact ⟨f, pre, cap, h1, h2, fun w'' hx => h3 w'' (k.trans hx)⟩
theorem W1.callvp {d : Option Nat} {x : Operand} {f : FuncId} {pre cap : List Value} {args : List Operand} {ats : Array TypeId} {ty : TypeId} {pos : String} {af : Array Edge} {g : Option (Nat × Bool)} {vs : List Value} {R : Value → World → Prop}
    (hf : CallOk P f) (hd : dOk d N = true) (hx : Env.ev E x = some (.func (.func f) pre.toArray cap.toArray)) (ha : Env.evs E args = some vs) (hc : Fn P f (pre ++ vs ++ cap).toArray w R)
    (h : ∀ v w', R v w' → NX N ds next (putE d v E) w') :
    W1 P r N ds next ⟨d, .call ⟨.value x, args.toArray, ats⟩, ty, pos, af, g⟩ Q E w :=
  W1.enter hd (fun a hr => by
    have hm : Array.map a.eval args.toArray = vs.toArray := by simp [hr.evs ha]
    simp [execOp, resolve, hm, hr.ev hx, Deferred.ofValue, invoke, hf.run]) hc h
theorem H1.callpr {d : Option Nat} {l : List Rc} {p : Rc → Bool} {fv : Value} {rc : Rc} {ats : Array TypeId} (hp : ∀ w, Mm w0 H w → Pr P w fv l p) (hl : rc ∈ l) (hd : dOk d N = true) (hx : Env.ev E x = some fv) (ha : Env.evs E [y] = some [recV rc])
    (h : HN N ds next (putE d (.bool (p rc)) E) w0 H) : H1 P r N ds next ⟨d, .call ⟨.value x, [y].toArray, ats⟩, ty, pos, af, g⟩ Q E w0 H := fun w hM => by
  obtain ⟨f, pre, cap, rfl, hf, hc⟩ := hp w hM
  exact W1.callvp hf hd hx ha (hc w (Ext.refl w) rc hl) (by
    rintro v w' ⟨rfl, hx'⟩; exact h _ (hM.more hx'))
end
abbrev qV (a b d : Int) : Value := .agg #[zv a, zv b, zv d]
def qc (a b d : Int) : List Value := [zv a, zv b, zv d]
def nowB (d : Int) (r : Rc) : Bool := decide (r.start ≤ d) && decide (d ≤ r.stop)
def aboutB (a b d : Int) (r : Rc) : Bool := decide (r.pack = a) && ((decide (r.purpose = 0) || decide (r.purpose = b)) && nowB d r)
def hasB (a b d : Int) (r : Rc) : Bool := decide (r.person = a) && (decide (r.role = b) && nowB d r)
def embB (a d : Int) (r : Rc) : Bool := decide (r.pack = a) && nowB d r
def overB (i d : Int) (x : Rc) : Bool := decide (x.party = i) && decide (x.start ≤ d)
def heldB (rel : List Rc) (a d : Int) (r : Rc) : Bool := (decide (r.pack = 0) || decide (r.pack = a)) && (nowB d r && !(rel.any (overB r.id d)))
theorem ldRec {w0 w : World} {H : List Atom} {b : Nat} {cs : List Value} (hc : ∀ i v, cs[i]? = some v → w0.cell? ⟨b, i, none⟩ = some v) (hM : Mm w0 H w) : ∀ i v, cs[i]? = some v → w.cell? ⟨b, 0 + i, none⟩ = some v := fun i v hv => by
  rw [Nat.zero_add]; exact cell_ext hM.ext (hc i v hv)
attribute [local irreducible] WC WL WX POp Then Again Fn NX W1 WA WO QL RP RA Yld LoopAt HC HL HX HN H1 HA HO HQ HB HP A.blk A.grow A.rd A.obj A.mp AgainH CutH
theorem isNow_fn (a b d : Int) (r : Rc) (w : World) : Fn Tryz.prog 76 #[qV a b d, recV r] w fun v w' => v = .bool (nowB d r) ∧ Ext w w' := by
  refine enterH (l := [_, _]) rfl Tryz.ntmps76 rfl ?_
  refine hwXT ?_
  refine HL.one (H1.boxAgg (cs := qc a b d) rfl rfl (fun b2 => ?_))
  refine hwXT ?_
  refine HL.one (H1.boxAgg (cs := rcells r) rfl rfl (fun b3 => ?_))
  by_cases h1 : r.start ≤ d
  · refine hwXT ?_
    exact HX.ret1 rfl rfl fun w' hM => ⟨by unfold nowB; rw [decide_eq_true h1, Bool.true_and], hM.ext⟩
  · refine hwXT ?_
    exact HX.ret1 rfl rfl fun w' hM => ⟨by unfold nowB; rw [decide_eq_false h1, Bool.false_and], hM.ext⟩
theorem id1_fn (r : Rc) (w : World) : Fn Tryz.prog 78 #[recV r] w fun v w' => v = zv r.id ∧ Ext w w' := by
  refine enterH (l := [_]) rfl Tryz.ntmps78 rfl ?_
  refine hwXT ?_
  refine HL.one (H1.boxAgg (cs := rcells r) rfl rfl (fun b1 => ?_))
  refine hwXT ?_
  exact HX.ret1 rfl rfl fun w' hM => ⟨rfl, hM.ext⟩
theorem held11_fn (x : Rc) (br bd : Nat) (i d : Int) (w : World) (hr : w.cell? ⟨br, 1, none⟩ = some (zv i)) (hd : w.cell? ⟨bd, 0, none⟩ = some (zv d)) :
    Fn Tryz.prog 75 #[recV x, .pointer (some ⟨br, 0, none⟩), .pointer (some ⟨bd, 0, none⟩)] w fun v w' => v = .bool (overB i d x) ∧ Ext w w' := by
  refine enterH (l := [_, _, _]) rfl Tryz.ntmps75 rfl ?_
  refine hwXT ?_
  refine HL.one (H1.boxAgg (cs := rcells x) rfl rfl (fun b4 => ?_))
  refine hwXT ?_
  refine HL.one (H1.ld0 rfl hr rfl ?_)
  by_cases h1 : x.party = i
  rotate_left
  · refine hwXT ?_
    exact HX.ret1 rfl rfl fun w' hM => ⟨by unfold overB; rw [decide_eq_false h1, Bool.false_and], hM.ext⟩
  refine hwXT ?_
  refine HL.one (H1.ld0 rfl hd rfl ?_)
  refine hwXT ?_
  exact HX.ret1 rfl rfl fun w' hM => ⟨by unfold overB; rw [decide_eq_true h1, Bool.true_and], hM.ext⟩
theorem indexFunc_fn (a : Option Addr) (c : Nat) (l : List Rc) (p : Rc → Bool) (fv : Value) (hl : l.length ≤ 1000000) (w : World) (hR : RdR w (.slice a l.length c) l) (hp : Pr Tryz.prog w fv l p) :
    Fn Tryz.prog 50 #[.slice a l.length c, fv] w fun v w' => ∃ k : Int, (0 ≤ k ↔ l.any p = true) ∧ v = zv k ∧ Ext w w' := by
  refine enterH (l := [_, _]) rfl Tryz.ntmps50 rfl ?_
  refine hwXT ?_
  refine HC.loop (α := Nat) (fun j => [(0, .slice a l.length c), (1, fv), (7, zv (l.length : Int)), (8, zv (j : Int))]) (fun _ => []) (fun j => j ≤ l.length ∧ (l.take j).any p = false) (fun j => l.length - j) 0 ⟨Nat.zero_le _, rfl⟩ esA (Hs.refl _) ?_
  rintro j ⟨hj, hI⟩
  by_cases hlt : j < l.length
  · obtain ⟨r, hr⟩ : ∃ r, l[j]? = some r := ⟨_, List.getElem?_eq_getElem hlt⟩
    have hrm := List.mem_of_getElem? hr
    have htk : l.take (j + 1) = l.take j ++ [r] := by rw [List.take_add_one, hr]; rfl
    obtain ⟨bl, off, rfl, -, hcell⟩ := hR.at (fun e => by rw [e] at hlt; exact absurd hlt (Nat.not_lt_zero _))
    have hcl := hcell j r hr
    clear hcell
    refine hwXT ?_
    refine HL.one (H1.ldAggw (vs := rcells r) rfl rfl (fun w' hM i v hv => cell_ext hM.ext (hcl i v hv)) rfl ?_)
    refine hwXT ?_
    refine HL.one (H1.callpr (y := .tmp 15) (fun w' hM => hp.ext hM.ext) hrm rfl rfl rfl ?_)
    cases hpr : p r
    · refine hwXT ?_
      exact HX.again (j + 1) ⟨hlt, by rw [htk, List.any_append, hI]; simp [hpr]⟩ (by omega) esA (Hs.refl _)
    · refine hwXT ?_
      exact HX.ret1 rfl rfl fun w' hM => ⟨j, ⟨fun _ => List.any_eq_true.2 ⟨r, hrm, hpr⟩, fun _ => Int.natCast_nonneg j⟩, rfl, hM.ext⟩
  obtain rfl : j = l.length := by omega
  rw [List.take_length] at hI
  refine hwXT ?_
  exact HX.ret1 rfl rfl fun w' hM => ⟨-1, ⟨fun h => absurd h (by decide), fun h => by rw [hI] at h; cases h⟩, rfl, hM.ext⟩
theorem containsFunc_fn (a : Option Addr) (c : Nat) (l : List Rc) (p : Rc → Bool) (fv : Value) (hl : l.length ≤ 1000000) (w : World) (hR : RdR w (.slice a l.length c) l) (hp : Pr Tryz.prog w fv l p) :
    Fn Tryz.prog 77 #[.slice a l.length c, fv] w fun v w' => v = .bool (l.any p) ∧ Ext w w' := by
  refine enterH (l := [_, _]) rfl Tryz.ntmps77 rfl ?_
  refine hwXT ?_
  refine HL.one (H1.callp (α := Int) (V := zv) (I := fun k => 0 ≤ k ↔ l.any p = true) (vs := [.slice a l.length c, fv]) rfl rfl (fun w' hM => indexFunc_fn a c l p fv hl w' (hR.ext hM.ext) (hp.ext hM.ext)) ?_)
  intro k hk
  refine hwXT ?_
  exact HX.ret1 rfl rfl fun w' hM => ⟨congrArg Value.bool (by rw [Bool.eq_iff_iff, decide_eq_true_eq]; exact hk), hM.ext⟩
end Go.Sx
/- Chapter 21: numbers, sorted, each once: slices.Sort, slices.Compact; a range over those that satisfy a condition. -/
namespace Go.Sx
open Go Go.Proofs Go.RowKit
theorem hwXU {G G2 : Prop} (x : G2) (hwq : Hold G2 → G := by
    intro hQq
    repeat' (first | apply HL.fold | apply HA.fold | apply HL.nil | apply HX.n_then | apply HC.seq | apply HC.region | refine HL.pa ?_ | refine HL.ga rfl ?_ | refine HL.na rfl ?_ | refine HL.nu rfl rfl ?_ | apply HC.block | apply HC.skip | apply HC.exit | apply HC.ret | apply HX.e_block | refine HX.e_other rfl ?_ | apply HX.e_then | apply HX.e_again | apply HX.n_block | apply HX.r_then | apply HX.r_block | apply HX.r_again | refine HC.cond_yes rfl ?_ | refine HC.cond_no rfl ?_ | refine HL.one (H1.ldb rfl memA rfl rfl ?_) | refine HC.cond rfl (fun hc => ?_) (fun hc => ?_) | refine HC.cond_b rfl (fun hc => ?_) (fun hc => ?_))
    exact hQq.get) : G := hwq ⟨x⟩
section
variable {P : Program} {N : Nat} {E : Env} {w0 : World} {H H' : List Atom}
theorem run_loadVar1 {w : World} {t : TypeId} {a : Addr} {v : Value} [ha : ATy P t false] (hc : w.cell? a = some v) : (loadVar t a).run P w = .ok v w := by
  simp only [loadVar, Sem.run_bind]
  simp [run_isAgg, hc, Result.andThen]
/-- A result that is a variable's own cell, behind a range over a function. -/
theorem HX.retMc1 {fn : Func} {p b D : Nat} {ty e : TypeId} {v : Value} {R : Value → World → Prop} [ha : ATy P ty false] (hr : fn.results = #[.cell p ty]) (hp : Env.g E p = some (.pointer (some ⟨b, 0, none⟩)))
    (hm : Pick (A.dfr D) H H') (hb : A.blk b [v] e ∈ H') (h : ∀ w, Mm w0 H' w → R v w) : HX N [markOf D] .ret (bodyPostM Fence.wide 0 P fn (RetP R)) E w0 H := fun w hM a ha' => by
  have hpm := hM.perm hm.perm
  obtain ⟨o, hD, rfl⟩ : ∃ o, w.heap[D]? = some o ∧ o = .deferred (some []) := hpm.all (A.dfr D) (List.Mem.head _)
  simp only [bodyPostM, ha'.defers]
  refine ⟨by simp, .inl ⟨D, _, rfl, run_takeDeferred hD, ?_⟩⟩
  have hM2 := hpm.drop1 (l := D) rfl (Upd1.put w D (.deferred none))
  have e1 : a.tmps.getD p undef = .pointer (some ⟨b, 0, none⟩) := by rw [Array.getD_eq_getD_getElem?, ha'.get _ _ hp]; rfl
  have e1' : a.tmps[p]?.getD undef = .pointer (some ⟨b, 0, none⟩) := by simpa using e1
  refine ⟨_, ?_, _, rfl, h _ hM2⟩
  have := run_loadVar1 (P := P) (t := ty) ((hM2.blk hb).cell (i := 0) rfl)
  simp [results, hr, e1', asAddr, this]
end
attribute [local irreducible] WC WL WX POp Then Again Fn NX W1 WA WO QL RP RA Yld LoopAt HC HL HX HN H1 HA HO HQ HB HP A.blk A.grow A.rd A.obj A.mp AgainH CutH
attribute [local irreducible] A.dfr A.loop
theorem those_fn (a : Option Addr) (n c : Nat) (f : FuncId) (pre cap : List Value) (w : World) : Fn Tryz.prog 73 #[.slice a n c, .func (.func f) pre.toArray cap.toArray] w fun v w' => ∃ z : Nat × Nat, True ∧ v = .func (.func 112) #[] #[.pointer (some ⟨z.1, 0, none⟩), .pointer (some ⟨z.2, 0, none⟩)] ∧
    Mm w [A.blk z.2 [.func (.func f) pre.toArray cap.toArray] 90, A.blk z.1 [.slice a n c] 47] w' := by
  refine enterH (l := [_, _]) rfl Tryz.ntmps73 rfl ?_
  refine hwXU ?_
  refine HL.one (H1.box rfl rfl rfl (fun b2 => ?_))
  refine hwXU ?_
  refine HL.one (H1.box rfl rfl rfl (fun b3 => ?_))
  refine hwXU ?_
  exact HX.ret1 rfl rfl fun w' hM => ⟨(b2, b3), trivial, rfl, hM⟩
theorem those1_fn {w0 : World} {β : Type} {G : List Rc → β → List Atom} {l b2 b3 : Nat} {L : List Rc} {p : Rc → Bool} {a : Option Addr} {c : Nat} {fv : Value} (hl : L.length ≤ 1000000) (hR : RdR w0 (.slice a L.length c) L) (hp : Pr Tryz.prog w0 fv L p)
    (h2 : w0.cell? ⟨b2, 0, none⟩ = some (.slice a L.length c)) (h3 : w0.cell? ⟨b3, 0, none⟩ = some fv)
    (hy : ∀ (F : List Rc) (r : Rc) (x : β), r ∈ L → F.length < L.length → ∀ w, Mm w0 (G F x) w → Yld Tryz.prog l [recV r] w fun b w' => b = true ∧ ∃ x' : β, True ∧ Mm w0 (G (F ++ [r]) x') w') (x0 : β) :
    ∀ w, Mm w0 (G [] x0) w → Fn Tryz.prog 112 (.func (.yield l) #[] #[] :: [.pointer (some ⟨b2, 0, none⟩), .pointer (some ⟨b3, 0, none⟩)]).toArray w fun _ w' => ∃ x : β, True ∧ Mm w0 (G (L.filter p) x) w' := by
  intro w hM
  refine enterK (l := [_, _, _]) hM rfl Tryz.ntmps112 rfl ?_
  refine hwXU ?_
  refine HL.one (H1.ld0 rfl h2 rfl ?_)
  refine hwXU ?_
  refine HC.loop (α := Nat × β) (fun z => [(0, .func (.yield l) #[] #[]), (2, .pointer (some ⟨b3, 0, none⟩)), (6, .slice a L.length c), (7, zv (L.length : Int)), (8, zv (z.1 : Int))]) (fun z => G ((L.take z.1).filter p) z.2)
    (fun z => z.1 ≤ L.length) (fun z => L.length - z.1) (0, x0) (Nat.zero_le _) esA (Hs.refl _) ?_
  rintro ⟨j, x⟩ hj
  dsimp only at hj ⊢
  by_cases hlt : j < L.length
  rotate_left
  · obtain rfl : j = L.length := by omega
    rw [List.take_length]
    refine hwXU ?_
    exact HX.end0 rfl fun w' hM => ⟨x, trivial, hM⟩
  obtain ⟨r, hr⟩ : ∃ r, L[j]? = some r := ⟨_, List.getElem?_eq_getElem hlt⟩
  have hrm := List.mem_of_getElem? hr
  have htk : (L.take (j + 1)).filter p = (L.take j).filter p ++ (if p r = true then [r] else []) := by
    rw [List.take_add_one, hr, List.filter_append]
    congr 1
    show [r].filter p = _
    rw [List.filter_cons, List.filter_nil]
  have hfl : ((L.take j).filter p).length < L.length := by
    have h1 := List.length_filter_le p (L.take j)
    rw [List.length_take] at h1
    omega
  obtain ⟨bl, off, rfl, -, hcell⟩ := hR.at (fun e => by rw [e] at hlt; exact absurd hlt (Nat.not_lt_zero _))
  have hcl := hcell j r hr
  clear hcell
  refine hwXU ?_
  refine HL.one (H1.ldAggw (vs := rcells r) rfl rfl (fun w' hM i v hv => cell_ext hM.ext (hcl i v hv)) rfl ?_)
  refine hwXU ?_
  refine HL.one (H1.alloc (cs := rcells rcZ) rfl rfl (fun b5 => ?_))
  refine hwXU ?_
  refine HL.one (H1.stAgg (cs := rcells rcZ) (vs := rcells r) rfl rfl rfl (rcells_one r) Rpl.here rfl ?_)
  refine hwXU ?_
  refine HL.one (H1.ld0 rfl h3 rfl ?_)
  refine hwXU ?_
  refine HL.one (H1.ldAgg (vs := rcells r) rfl (.head _) rfl (fun i v hv => by rw [Nat.zero_add]; exact hv) rfl ?_)
  refine hwXU ?_
  refine HL.one (H1.callpr (y := .tmp 13) (fun w' hM => hp.ext hM.ext) hrm rfl rfl rfl ?_)
  cases hpr : p r
  · rw [hpr, if_neg Bool.false_ne_true, List.append_nil] at htk
    rw [← htk]
    refine hwXU ?_
    exact HX.again (j + 1, x) hlt (by show L.length - (j + 1) < L.length - j; omega) esA (Hs.refl _).skip
  · rw [hpr, if_pos rfl] at htk
    refine hwXU ?_
    refine HL.one (H1.ldAgg (vs := rcells r) rfl (.head _) rfl (fun i v hv => by rw [Nat.zero_add]; exact hv) rfl ?_)
    refine hwXU ?_
    refine HL.one (H1.yield (α := β) (Hz := fun x' => G ((L.take j).filter p ++ [r]) x') (I := fun _ => True) (vs := [recV r]) rfl rfl rfl (fun w' hM => hy _ r x hrm hfl w' hM.tail) ?_)
    intro x' _
    rw [← htk]
    refine hwXU ?_
    exact HX.again (j + 1, x') hlt (by show L.length - (j + 1) < L.length - j; omega) esA (Hs.refl _)
set_option maxHeartbeats 1000000 in
theorem numbers_fn (f : Rc → Int) (g : FuncId) (hg : CallOk Tryz.prog g) (hgf : ∀ r w, Fn Tryz.prog g #[recV r] w fun v w' => v = zv (f r) ∧ Ext w w') {L : List Rc} {p : Rc → Bool} {a : Option Addr} {c b2 b3 : Nat} {fv : Value} (w : World) (hl : L.length ≤ 1000000) (hR : RdR w (.slice a L.length c) L) (hp : Pr Tryz.prog w fv L p)
    (h2 : w.cell? ⟨b2, 0, none⟩ = some (.slice a L.length c)) (h3 : w.cell? ⟨b3, 0, none⟩ = some fv) :
    Fn Tryz.prog 72 #[.func (.func 112) #[] #[.pointer (some ⟨b2, 0, none⟩), .pointer (some ⟨b3, 0, none⟩)], fnV g] w fun v w' => ∃ z : Option Addr × Nat, True ∧ v = .slice z.1 (numL ((L.filter p).map f)).length z.2 ∧ Mm w [A.grow 3 1 z.1 z.2 (numL ((L.filter p).map f)).length (ints (numL ((L.filter p).map f)))] w' := by
  refine enterMH (l := [_, _]) rfl Tryz.ntmps72 rfl ?_
  refine hwXU ?_
  refine HL.one (H1.box rfl rfl rfl (fun b3' => ?_))
  refine hwXU ?_
  refine HL.one (H1.alloc (cs := [.slice none 0 0]) rfl rfl (fun b4 => ?_))
  refine hwXU ?_
  refine HC.grow0 3 1 ?_
  refine HC.sub [(3, .pointer (some ⟨b3', 0, none⟩)), (4, .pointer (some ⟨b4, 0, none⟩)), (6, .func (.func 112) #[] #[.pointer (some ⟨b2, 0, none⟩), .pointer (some ⟨b3, 0, none⟩)])]
    [A.blk b3' [fnV g] 113, A.blk b4 [.slice none 0 0] 28, A.grow 3 1 none 0 0 []] ?_ esA (by repeat (first | exact Hs.nil _ | (refine Hs.cons pickA ?_)))
  refine HC.rangeFunc (α := Option Addr × Nat) (lb := [.pointer (some ⟨b2, 0, none⟩), .pointer (some ⟨b3, 0, none⟩)]) (fun q => [A.blk b3' [fnV g] 113, A.blk b4 [.slice q.1 ((L.filter p).map f).length q.2] 28, A.grow 3 1 q.1 q.2 ((L.filter p).map f).length (ints ((L.filter p).map f))]) (fun _ => True) rfl ?_ ?_
  · intro D l LL hL w1 hM1
    refine those1_fn (β := Option Addr × Nat) (G := fun F q => LL .ready none :: A.dfr D :: [A.blk b3' [fnV g] 113, A.blk b4 [.slice q.1 (F.map f).length q.2] 28, A.grow 3 1 q.1 q.2 (F.map f).length (ints (F.map f))]) hl hR hp h2 h3 ?_ (none, 0) w1 hM1
    rintro F r ⟨a1, c1⟩ hr hF
    have hmap : (F ++ [r]).map f = F.map f ++ [f r] := by rw [List.map_append]; rfl
    rw [hmap]
    have hFl : (F.map f).length + 1 ≤ 1000000 := by rw [List.length_map]; omega
    generalize F.map f = xs at hFl ⊢
    refine Yld.ofH hL memA rfl rfl ?_
    dsimp only [List.zip_cons_cons, List.zip_nil_right, putAll]
    refine hwXU ?_
    refine HL.one (H1.alloc (cs := rcells rcZ) rfl rfl (fun b5 => ?_))
    refine hwXU ?_
    refine HL.one (H1.stAgg (cs := rcells rcZ) (vs := rcells r) rfl rfl rfl (rcells_one r) Rpl.here rfl ?_)
    refine hwXU ?_
    refine HX.ra hL rplA ?_
    refine hwXU ?_
    refine HC.anyCR ([(⟨b3', 0, none⟩, fnV g)]) rfl ?_
    refine HB.ld 1 rfl rfl memD ?_
    refine HB.all (by repeat (first | exact Keep.nil | refine Keep.blk (by (repeat (first | exact List.Mem.head _ | apply List.Mem.tail)); done) rfl ?_ | refine Keep.grow (by (repeat (first | exact List.Mem.head _ | apply List.Mem.tail)); done) (by assumption) ?_ | refine Keep.base (by assumption) ?_)) [0, 2] (by kernel_rfl) rfl ⟨⟨_, rfl, ?_⟩, ⟨_, rfl, ?_⟩, trivial⟩
    · refine HP.one ?_
      refine H1.ldb (v := .slice a1 xs.length c1) (cs := [.slice a1 xs.length c1]) rfl memA rfl rfl ?_
      apply HB.fold
      refine HB.all (by repeat (first | exact Keep.nil | refine Keep.blk (by (repeat (first | exact List.Mem.head _ | apply List.Mem.tail)); done) rfl ?_ | refine Keep.grow (by (repeat (first | exact List.Mem.head _ | apply List.Mem.tail)); done) (by assumption) ?_ | refine Keep.base (by assumption) ?_)) [2] (by kernel_rfl) rfl ⟨⟨_, rfl, ?_⟩, trivial⟩
      refine HP.one ?_
      refine H1.ldAgg (vs := rcells r) rfl memA rfl (fun i v hv => by rw [Nat.zero_add]; exact hv) rfl ?_
      apply HB.fold
      refine HB.all (by repeat (first | exact Keep.nil | refine Keep.blk (by (repeat (first | exact List.Mem.head _ | apply List.Mem.tail)); done) rfl ?_ | refine Keep.grow (by (repeat (first | exact List.Mem.head _ | apply List.Mem.tail)); done) (by assumption) ?_ | refine Keep.base (by assumption) ?_)) [3] (by kernel_rfl) rfl ⟨⟨_, rfl, ?_⟩, trivial⟩
      refine HP.one ?_
      refine H1.callv0 (hf := hg) (f := g) (cap := []) (vs := [recV r]) rfl rfl rfl (fun w' _ => call1 (hgf r w')) ?_
      apply HB.fold
      refine HB.all (by repeat (first | exact Keep.nil | refine Keep.blk (by (repeat (first | exact List.Mem.head _ | apply List.Mem.tail)); done) rfl ?_ | refine Keep.grow (by (repeat (first | exact List.Mem.head _ | apply List.Mem.tail)); done) (by assumption) ?_ | refine Keep.base (by assumption) ?_)) [4] (by kernel_rfl) rfl ⟨⟨_, rfl, ?_⟩, trivial⟩
      refine HP.one ?_
      refine H1.lit (cs := [zv (f r)]) rfl rfl rfl rfl rfl rfl (fun b8 => ?_)
      apply HB.fold
      refine HB.all (by repeat (first | exact Keep.nil | refine Keep.blk (by (repeat (first | exact List.Mem.head _ | apply List.Mem.tail)); done) rfl ?_ | refine Keep.grow (by (repeat (first | exact List.Mem.head _ | apply List.Mem.tail)); done) (by assumption) ?_ | refine Keep.base (by assumption) ?_)) [5] (by kernel_rfl) rfl ⟨⟨_, rfl, ?_⟩, trivial⟩
      refine HP.one ?_
      refine H1.app1 (u := zv (f r)) rfl rfl (fun _ _ => by first | ((repeat (first | with_reducible exact Rpl.here | with_reducible apply Rpl.there)); done) | (repeat (first | exact Rpl.here | apply Rpl.there))) memA rfl rfl hFl rfl rfl (fun a' c' => ?_)
      apply HB.fold
      refine HB.all (by repeat (first | exact Keep.nil | refine Keep.blk (by (repeat (first | exact List.Mem.head _ | apply List.Mem.tail)); done) rfl ?_ | refine Keep.grow (by (repeat (first | exact List.Mem.head _ | apply List.Mem.tail)); done) (by assumption) ?_ | refine Keep.base (by assumption) ?_)) [6] (by kernel_rfl) rfl ⟨⟨_, rfl, ?_⟩, trivial⟩
      refine HP.one ?_
      refine H1.st (b := b4) rfl rfl (by intro _ h; cases h) (by intro _ h; cases h) rplA (by exact Nat.zero_lt_one) ?_
      apply HB.fold
      refine HB.done (by repeat (first | exact Keep.nil | refine Keep.blk (by (repeat (first | exact List.Mem.head _ | apply List.Mem.tail)); done) rfl ?_ | refine Keep.grow (by (repeat (first | exact List.Mem.head _ | apply List.Mem.tail)); done) (by assumption) ?_ | refine Keep.base (by assumption) ?_)) (by kernel_rfl) ?_
      refine hwXU ?_
      refine HX.rp_n hL rplA fun w' hM => ⟨rfl, (some ⟨a', 0, none⟩, c'), trivial, ?_⟩
      dsimp only
      rw [List.length_append, ints_app]
      exact hM.sub (by repeat (first | exact Hs.nil _ | (refine Hs.cons pickA ?_)))
    · refine HP.one ?_
      refine H1.ldAgg (vs := rcells r) rfl memA rfl (fun i v hv => by rw [Nat.zero_add]; exact hv) rfl ?_
      apply HB.fold
      refine HB.all (by repeat (first | exact Keep.nil | refine Keep.blk (by (repeat (first | exact List.Mem.head _ | apply List.Mem.tail)); done) rfl ?_ | refine Keep.grow (by (repeat (first | exact List.Mem.head _ | apply List.Mem.tail)); done) (by assumption) ?_ | refine Keep.base (by assumption) ?_)) [0, 3] (by kernel_rfl) rfl ⟨⟨_, rfl, ?_⟩, ⟨_, rfl, ?_⟩, trivial⟩
      · refine HP.one ?_
        refine H1.ldb (v := .slice a1 xs.length c1) (cs := [.slice a1 xs.length c1]) rfl memA rfl rfl ?_
        apply HB.fold
        refine HB.all (by repeat (first | exact Keep.nil | refine Keep.blk (by (repeat (first | exact List.Mem.head _ | apply List.Mem.tail)); done) rfl ?_ | refine Keep.grow (by (repeat (first | exact List.Mem.head _ | apply List.Mem.tail)); done) (by assumption) ?_ | refine Keep.base (by assumption) ?_)) [3] (by kernel_rfl) rfl ⟨⟨_, rfl, ?_⟩, trivial⟩
        refine HP.one ?_
        refine H1.callv0 (hf := hg) (f := g) (cap := []) (vs := [recV r]) rfl rfl rfl (fun w' _ => call1 (hgf r w')) ?_
        apply HB.fold
        refine HB.all (by repeat (first | exact Keep.nil | refine Keep.blk (by (repeat (first | exact List.Mem.head _ | apply List.Mem.tail)); done) rfl ?_ | refine Keep.grow (by (repeat (first | exact List.Mem.head _ | apply List.Mem.tail)); done) (by assumption) ?_ | refine Keep.base (by assumption) ?_)) [4] (by kernel_rfl) rfl ⟨⟨_, rfl, ?_⟩, trivial⟩
        refine HP.one ?_
        refine H1.lit (cs := [zv (f r)]) rfl rfl rfl rfl rfl rfl (fun b8 => ?_)
        apply HB.fold
        refine HB.all (by repeat (first | exact Keep.nil | refine Keep.blk (by (repeat (first | exact List.Mem.head _ | apply List.Mem.tail)); done) rfl ?_ | refine Keep.grow (by (repeat (first | exact List.Mem.head _ | apply List.Mem.tail)); done) (by assumption) ?_ | refine Keep.base (by assumption) ?_)) [5] (by kernel_rfl) rfl ⟨⟨_, rfl, ?_⟩, trivial⟩
        refine HP.one ?_
        refine H1.app1 (u := zv (f r)) rfl rfl (fun _ _ => by first | ((repeat (first | with_reducible exact Rpl.here | with_reducible apply Rpl.there)); done) | (repeat (first | exact Rpl.here | apply Rpl.there))) memA rfl rfl hFl rfl rfl (fun a' c' => ?_)
        apply HB.fold
        refine HB.all (by repeat (first | exact Keep.nil | refine Keep.blk (by (repeat (first | exact List.Mem.head _ | apply List.Mem.tail)); done) rfl ?_ | refine Keep.grow (by (repeat (first | exact List.Mem.head _ | apply List.Mem.tail)); done) (by assumption) ?_ | refine Keep.base (by assumption) ?_)) [6] (by kernel_rfl) rfl ⟨⟨_, rfl, ?_⟩, trivial⟩
        refine HP.one ?_
        refine H1.st (b := b4) rfl rfl (by intro _ h; cases h) (by intro _ h; cases h) rplA (by exact Nat.zero_lt_one) ?_
        apply HB.fold
        refine HB.done (by repeat (first | exact Keep.nil | refine Keep.blk (by (repeat (first | exact List.Mem.head _ | apply List.Mem.tail)); done) rfl ?_ | refine Keep.grow (by (repeat (first | exact List.Mem.head _ | apply List.Mem.tail)); done) (by assumption) ?_ | refine Keep.base (by assumption) ?_)) (by kernel_rfl) ?_
        refine hwXU ?_
        refine HX.rp_n hL rplA fun w' hM => ⟨rfl, (some ⟨a', 0, none⟩, c'), trivial, ?_⟩
        dsimp only
        rw [List.length_append, ints_app]
        exact hM.sub (by repeat (first | exact Hs.nil _ | (refine Hs.cons pickA ?_)))
      · refine HP.one ?_
        refine H1.callv0 (hf := hg) (f := g) (cap := []) (vs := [recV r]) rfl rfl rfl (fun w' _ => call1 (hgf r w')) ?_
        apply HB.fold
        refine HB.all (by repeat (first | exact Keep.nil | refine Keep.blk (by (repeat (first | exact List.Mem.head _ | apply List.Mem.tail)); done) rfl ?_ | refine Keep.grow (by (repeat (first | exact List.Mem.head _ | apply List.Mem.tail)); done) (by assumption) ?_ | refine Keep.base (by assumption) ?_)) [0, 4] (by kernel_rfl) rfl ⟨⟨_, rfl, ?_⟩, ⟨_, rfl, ?_⟩, trivial⟩
        · refine HP.one ?_
          refine H1.ldb (v := .slice a1 xs.length c1) (cs := [.slice a1 xs.length c1]) rfl memA rfl rfl ?_
          apply HB.fold
          refine HB.all (by repeat (first | exact Keep.nil | refine Keep.blk (by (repeat (first | exact List.Mem.head _ | apply List.Mem.tail)); done) rfl ?_ | refine Keep.grow (by (repeat (first | exact List.Mem.head _ | apply List.Mem.tail)); done) (by assumption) ?_ | refine Keep.base (by assumption) ?_)) [4] (by kernel_rfl) rfl ⟨⟨_, rfl, ?_⟩, trivial⟩
          refine HP.one ?_
          refine H1.lit (cs := [zv (f r)]) rfl rfl rfl rfl rfl rfl (fun b8 => ?_)
          apply HB.fold
          refine HB.all (by repeat (first | exact Keep.nil | refine Keep.blk (by (repeat (first | exact List.Mem.head _ | apply List.Mem.tail)); done) rfl ?_ | refine Keep.grow (by (repeat (first | exact List.Mem.head _ | apply List.Mem.tail)); done) (by assumption) ?_ | refine Keep.base (by assumption) ?_)) [5] (by kernel_rfl) rfl ⟨⟨_, rfl, ?_⟩, trivial⟩
          refine HP.one ?_
          refine H1.app1 (u := zv (f r)) rfl rfl (fun _ _ => by first | ((repeat (first | with_reducible exact Rpl.here | with_reducible apply Rpl.there)); done) | (repeat (first | exact Rpl.here | apply Rpl.there))) memA rfl rfl hFl rfl rfl (fun a' c' => ?_)
          apply HB.fold
          refine HB.all (by repeat (first | exact Keep.nil | refine Keep.blk (by (repeat (first | exact List.Mem.head _ | apply List.Mem.tail)); done) rfl ?_ | refine Keep.grow (by (repeat (first | exact List.Mem.head _ | apply List.Mem.tail)); done) (by assumption) ?_ | refine Keep.base (by assumption) ?_)) [6] (by kernel_rfl) rfl ⟨⟨_, rfl, ?_⟩, trivial⟩
          refine HP.one ?_
          refine H1.st (b := b4) rfl rfl (by intro _ h; cases h) (by intro _ h; cases h) rplA (by exact Nat.zero_lt_one) ?_
          apply HB.fold
          refine HB.done (by repeat (first | exact Keep.nil | refine Keep.blk (by (repeat (first | exact List.Mem.head _ | apply List.Mem.tail)); done) rfl ?_ | refine Keep.grow (by (repeat (first | exact List.Mem.head _ | apply List.Mem.tail)); done) (by assumption) ?_ | refine Keep.base (by assumption) ?_)) (by kernel_rfl) ?_
          refine hwXU ?_
          refine HX.rp_n hL rplA fun w' hM => ⟨rfl, (some ⟨a', 0, none⟩, c'), trivial, ?_⟩
          dsimp only
          rw [List.length_append, ints_app]
          exact hM.sub (by repeat (first | exact Hs.nil _ | (refine Hs.cons pickA ?_)))
        · refine HP.one ?_
          refine H1.lit (cs := [zv (f r)]) rfl rfl rfl rfl rfl rfl (fun b8 => ?_)
          apply HB.fold
          refine HB.all (by repeat (first | exact Keep.nil | refine Keep.blk (by (repeat (first | exact List.Mem.head _ | apply List.Mem.tail)); done) rfl ?_ | refine Keep.grow (by (repeat (first | exact List.Mem.head _ | apply List.Mem.tail)); done) (by assumption) ?_ | refine Keep.base (by assumption) ?_)) [0] (by kernel_rfl) rfl ⟨⟨_, rfl, ?_⟩, trivial⟩
          refine HP.one ?_
          refine H1.ldb (v := .slice a1 xs.length c1) (cs := [.slice a1 xs.length c1]) rfl memA rfl rfl ?_
          apply HB.fold
          refine HB.all (by repeat (first | exact Keep.nil | refine Keep.blk (by (repeat (first | exact List.Mem.head _ | apply List.Mem.tail)); done) rfl ?_ | refine Keep.grow (by (repeat (first | exact List.Mem.head _ | apply List.Mem.tail)); done) (by assumption) ?_ | refine Keep.base (by assumption) ?_)) [5] (by kernel_rfl) rfl ⟨⟨_, rfl, ?_⟩, trivial⟩
          refine HP.one ?_
          refine H1.app1 (u := zv (f r)) rfl rfl (fun _ _ => by first | ((repeat (first | with_reducible exact Rpl.here | with_reducible apply Rpl.there)); done) | (repeat (first | exact Rpl.here | apply Rpl.there))) memA rfl rfl hFl rfl rfl (fun a' c' => ?_)
          apply HB.fold
          refine HB.all (by repeat (first | exact Keep.nil | refine Keep.blk (by (repeat (first | exact List.Mem.head _ | apply List.Mem.tail)); done) rfl ?_ | refine Keep.grow (by (repeat (first | exact List.Mem.head _ | apply List.Mem.tail)); done) (by assumption) ?_ | refine Keep.base (by assumption) ?_)) [6] (by kernel_rfl) rfl ⟨⟨_, rfl, ?_⟩, trivial⟩
          refine HP.one ?_
          refine H1.st (b := b4) rfl rfl (by intro _ h; cases h) (by intro _ h; cases h) rplA (by exact Nat.zero_lt_one) ?_
          apply HB.fold
          refine HB.done (by repeat (first | exact Keep.nil | refine Keep.blk (by (repeat (first | exact List.Mem.head _ | apply List.Mem.tail)); done) rfl ?_ | refine Keep.grow (by (repeat (first | exact List.Mem.head _ | apply List.Mem.tail)); done) (by assumption) ?_ | refine Keep.base (by assumption) ?_)) (by kernel_rfl) ?_
          refine hwXU ?_
          refine HX.rp_n hL rplA fun w' hM => ⟨rfl, (some ⟨a', 0, none⟩, c'), trivial, ?_⟩
          dsimp only
          rw [List.length_append, ints_app]
          exact hM.sub (by repeat (first | exact Hs.nil _ | (refine Hs.cons pickA ?_)))
  · rintro D ⟨a1, c1⟩ -
    dsimp only
    have hxl : ((L.filter p).map f).length ≤ 1000000 := by
      rw [List.length_map]
      have := List.length_filter_le p L
      omega
    generalize (L.filter p).map f = xs at hxl ⊢
    refine hwXU ?_
    refine HL.one (H1.callk (α := Unit) (V := fun _ => .tuple #[]) (I := fun _ => True) (H' := fun _ => [A.dfr D, A.blk b3' [fnV g] 113, A.blk b4 [.slice a1 xs.length c1] 28, A.grow 3 1 a1 c1 xs.length (ints (srtI xs))]) (vs := [.slice a1 xs.length c1]) rfl rfl (fun w' hM => (sortI_fn hM rplA hxl).mono fun v w' h => ⟨(), trivial, h⟩) ?_)
    rintro - -
    refine hwXU ?_
    have hsl := srtI_len xs
    refine HL.one (H1.callk (α := Unit) (V := fun _ => .slice a1 (numL xs).length c1) (I := fun _ => True) (H' := fun _ => [A.dfr D, A.blk b3' [fnV g] 113, A.blk b4 [.slice a1 xs.length c1] 28, A.grow 3 1 a1 c1 (numL xs).length (ints (numL xs))]) (vs := [.slice a1 xs.length c1]) rfl rfl (fun w' hM => by
      have h := compactI_fn (l := srtI xs) (a := a1) (c := c1) (H' := [A.dfr D, A.blk b3' [fnV g] 113, A.blk b4 [.slice a1 xs.length c1] 28, A.grow 3 1 a1 c1 (numL xs).length (ints (numL xs))]) (by rw [← hsl] at hM; exact hM) (by rw [hsl]; unfold numL; first | ((repeat (first | with_reducible exact Rpl.here | with_reducible apply Rpl.there)); done) | (repeat (first | exact Rpl.here | apply Rpl.there))) (by omega)
      rw [hsl] at h
      exact h.mono fun v w' h => ⟨(), trivial, h⟩) ?_)
    rintro - -
    refine hwXU ?_
    refine HL.one (H1.st (b := b4) rfl rfl (by intro _ h; cases h) (by intro _ h; cases h) rplA (by exact Nat.zero_lt_one) ?_)
    refine hwXU ?_
    exact HX.retMc1 (b := b4) rfl rfl Pick.here memA fun w' hM => ⟨(a1, c1), trivial, rfl, hM.sub (by repeat (first | exact Hs.nil _ | (refine Hs.cons pickA ?_)))⟩
end Go.Sx
/- Chapter 21: the lists of a base. -/
namespace Go.Sx
open Go Go.Proofs Go.RowKit
/-- The number that counts, by kind. -/
def numK (r : Rc) : Int := if r.kind = 2 then r.clause else if r.kind = 6 then r.party else r.id
abbrev ptrs (b : Nat) : List Value := [.pointer none, .pointer (some ⟨b, 0, none⟩), .pointer (some ⟨b, 1, none⟩), .pointer (some ⟨b, 2, none⟩), .pointer (some ⟨b, 3, none⟩), .pointer (some ⟨b, 4, none⟩), .pointer (some ⟨b, 5, none⟩), .pointer (some ⟨b, 6, none⟩), .pointer (some ⟨b, 7, none⟩)]
attribute [local irreducible] WC WL WX POp Then Again Fn NX W1 WA WO QL RP RA Yld LoopAt HC HL HX HN H1 HA HO HQ HB HP A.blk A.grow A.rd A.obj A.mp AgainH CutH
end Go.Sx
/-
  DERIVED: THE SHELF's CONTRACTS AT THIS DUMP, IN PLAIN WORDS (tools/lay-plain.mjs out of 'TryzShelf2.lean', which tools/lay-shelf.mjs wrote): THE SAME DECLARATIONS UNDER THE SAME NAMES: 'import', 'namespace', 'open', 'def', 'theorem' AND NOTHING ELSE: no command of the shelf's: FOR A HAND-IN. Each laying: the table of numbers ('.._ren') and one theorem, a field a fact of the dump's own or the kernel's comparison; each contract: ONE APPLICATION.
-/
namespace Go.Proofs
open Go.Shelf
def Tryz.sortR_ren : Go.Shelf.Ren := ⟨fun | 6 => 96 | 15 => 118 | 14 => 132 | 28 => 143 | 29 => 144 | 20 => 156 | 21 => 157 | 22 => 158 | 23 => 159 | 24 => 160 | 25 => 161 | 26 => 162 | 27 => 163 | 46 => 193 | 47 => 165 | 48 => 166 | 49 => 194 | 50 => 195 | 57 => 201 | n => n, fun | 22 => 47 | 24 => 46 | 25 => 136 | 3 => 3 | 39 => 119 | 0 => 0 | 53 => 114 | 55 => 150 | 4 => 4 | 46 => 170 | 45 => 169 | 50 => 101 | 5 => 5 | 9 => 9 | 66 => 213 | 70 => 199 | 76 => 238 | 77 => 139 | n => n, fun | n => n⟩
end Go.Proofs
/- Chapter 21: slices.SortFunc at records. -/
namespace Go.Sx
open Go Go.Proofs Go.RowKit
instance : Inhabited Rc := ⟨rcZ⟩
def cfN (x y : Rc) : Int := Lib.compareInt (numK x) (numK y)
attribute [local irreducible] WC WL WX POp Then Again Fn NX W1 WA WO QL RP RA Yld LoopAt
end Go.Sx
namespace Go.Sx
open Go Go.Proofs Go.RowKit
end Go.Sx
/- Chapter 21: Of: what is known on a day. -/
namespace Go.Sx
open Go Go.Proofs Go.RowKit
abbrev Slot := Option Addr × Nat × List Rc
def slot (x : Slot) : Value := .slice x.1 x.2.2.length x.2.1
def slotA (x : Slot) : Atom := A.grow 46 15 x.1 x.2.1 x.2.2.length (rcl x.2.2)
def slots (q : Nat → Slot) : List Atom := (List.range 8).map fun i => slotA (q i)
def updQ (q : Nat → Slot) (i : Nat) (x : Slot) : Nat → Slot := fun j => if j = i then x else q j
/-- A base, as it reads. -/
def BaseV (w : World) (v : Value) (B : Nat → List Rc) : Prop := ∃ s : Nat → Value, v = .agg (row 8 s).toArray ∧ ∀ i, i < 8 → RdR w (s i) (B i)
theorem BaseV.ext {w w' : World} {v : Value} {B : Nat → List Rc} (h : BaseV w v B) (k : Ext w w') : BaseV w' v B := by
  obtain ⟨s, h1, h2⟩ := h
  exact ⟨s, h1, fun i hi => (h2 i hi).ext k⟩
/-- A base that lies in slices of the call's own: its value, its atom, its lists. -/
abbrev bsV (q : Nat → Slot) : Value := .agg (row 8 fun i => slot (q i)).toArray
def bsA (q : Nat → Slot) : Atom := A.all (slots q)
def bsL (q : Nat → Slot) (i : Nat) : List Rc := (q i).2.2
def q0 : Nat → Slot := fun _ => (none, 0, [])
section
variable {P : Program} {r : Option Nat} {N : Nat} {ds : List Deferred} {Q : Post} {E : Env} {w0 : World} {H : List Atom}
end
/-- What the lists hold while the map is ranged over. -/
structure SlotI (es : Array MapEntry) (seen : Array Nat) (q : Nat → Slot) : Prop where
  nd : ∀ i, i < 8 → (q i).2.2.Nodup
  mem : ∀ i, i < 8 → ∀ r, r ∈ (q i).2.2 ↔ r.kind = (i : Int) + 1 ∧ ∃ e ∈ es.toList, e.born ∈ seen ∧ e.val = recV r
attribute [local irreducible] WC WL WX POp Then Again Fn NX W1 WA WO QL RP RA Yld LoopAt HC HL HX HN H1 HA HO HQ HB HP A.blk A.grow A.rd A.obj A.mp AgainH CutH
attribute [local irreducible] A.ms A.mx A.mit slots
end Go.Sx
/- Chapter 21: Has, Consents, Embargoed, Held, Hidden. -/
namespace Go.Sx
open Go Go.Proofs Go.RowKit
theorem hwXV {G G2 : Prop} (x : G2) (hwq : Hold G2 → G := by
    intro hQq
    repeat' (first | apply HL.fold | apply HA.fold | apply HL.nil | apply HX.n_then | apply HC.seq | apply HC.region | refine HL.pa ?_ | refine HL.ga rfl ?_ | refine HL.na rfl ?_ | refine HL.nu rfl rfl ?_ | apply HC.block | apply HC.skip | apply HC.exit | apply HC.ret | apply HX.e_block | refine HX.e_other rfl ?_ | apply HX.e_then | apply HX.e_again | apply HX.n_block | apply HX.r_then | apply HX.r_block | apply HX.r_again | refine HC.cond_yes rfl ?_ | refine HC.cond_no rfl ?_ | refine HL.one (H1.ldb rfl memA rfl rfl ?_) | refine HC.cond rfl (fun hc => ?_) (fun hc => ?_) | refine HC.cond_b rfl (fun hc => ?_) (fun hc => ?_))
    exact hQq.get) : G := hwq ⟨x⟩
def heldL (L rel : List Rc) (a d : Int) : List Int := numL ((L.filter (heldB rel a d)).map Rc.id)
def embL (L : List Rc) (a d : Int) : List Int := numL ((L.filter (embB a d)).map Rc.id)
def hidL (L : List Rc) (a b d : Int) : List Int := numL ((L.filter (aboutB a b d)).map Rc.clause)
/-- What comes back: a slice of the call's own, of numbers. -/
abbrev NumV (w : World) (L : List Int) (v : Value) (w' : World) : Prop := ∃ z : Option Addr × Nat, True ∧ v = .slice z.1 L.length z.2 ∧ Mm w [A.grow 3 1 z.1 z.2 L.length (ints L)] w'
attribute [local irreducible] WC WL WX POp Then Again Fn NX W1 WA WO QL RP RA Yld LoopAt HC HL HX HN H1 HA HO HQ HB HP A.blk A.grow A.rd A.obj A.mp AgainH CutH
attribute [local irreducible] A.dfr A.loop
theorem heldc1_fn (r : Rc) (bd bp bq bb : Nat) (a d x y : Int) (rel : List Rc) (s5 : Value) (hl : rel.length ≤ 1000000) (w : World) (hd : w.cell? ⟨bd, 0, none⟩ = some (zv d)) (hp : w.cell? ⟨bp, 0, none⟩ = some (zv a)) (hq : ∀ i v, (qc x y d)[i]? = some v → w.cell? ⟨bq, i, none⟩ = some v)
    (hb : w.cell? ⟨bb, 5, none⟩ = some s5) (hR : RdR w s5 rel) :
    Fn Tryz.prog 74 #[recV r, .pointer (some ⟨bd, 0, none⟩), .pointer (some ⟨bp, 0, none⟩), .pointer (some ⟨bq, 0, none⟩), .pointer (some ⟨bb, 0, none⟩)] w fun v w' => v = .bool (heldB rel a d r) ∧ Ext w w' := by
  refine enterH (l := [_, _, _, _, _]) rfl Tryz.ntmps74 rfl ?_
  obtain ⟨ar, cr, rfl, -⟩ := hR.shape
  refine hwXV ?_
  refine HL.one (H1.boxAgg (cs := rcells r) rfl rfl (fun b5 => ?_))
  by_cases h1 : r.pack = 0 ∨ r.pack = a
  rotate_left
  · have h10 : ¬ r.pack = 0 := fun e => h1 (.inl e)
    have h11 : ¬ r.pack = a := fun e => h1 (.inr e)
    refine hwXV ?_
    refine HL.one (H1.ld0 rfl hp rfl ?_)
    refine hwXV ?_
    exact HX.ret1 rfl rfl fun w' hM => ⟨by unfold heldB; rw [decide_eq_false h10, decide_eq_false h11]; rfl, hM.ext⟩
  have h1' : (decide (r.pack = 0) || decide (r.pack = a)) = true := by rw [Bool.or_eq_true, decide_eq_true_eq, decide_eq_true_eq]; exact h1
  have hfin : ∀ (b1 b2 : Bool), b1 = nowB d r → (b1 = true → b2 = !(rel.any (overB r.id d))) → (b1 = false → b2 = false) → b2 = heldB rel a d r := by
    intro b1 b2 e1 e2 e3
    unfold heldB
    rw [h1', Bool.true_and, ← e1]
    cases b1
    · rw [e3 rfl]; rfl
    · rw [e2 rfl]; rfl
  by_cases h10 : r.pack = 0
  · refine hwXV ?_
    refine HL.one (H1.ldAggw (vs := qc x y d) rfl rfl (fun w' hM => ldRec hq hM) rfl ?_)
    refine hwXV ?_
    refine HL.one (H1.ldAgg (vs := rcells r) rfl memA rfl (fun i v hv => by rw [Nat.zero_add]; exact hv) rfl ?_)
    refine hwXV ?_
    refine HL.one (H1.callx (vs := [qV x y d, recV r]) rfl rfl (fun w' _ => isNow_fn x y d r w') ?_)
    cases hn : nowB d r
    · refine hwXV ?_
      exact HX.ret1 rfl rfl fun w' hM => ⟨congrArg Value.bool (hfin false false hn.symm (fun h => by cases h) fun _ => rfl), hM.ext⟩
    · refine hwXV ?_
      refine HL.one (H1.ld0 rfl hb rfl ?_)
      refine hwXV ?_
      refine HL.one (H1.callx (vs := [.slice ar rel.length cr, .func (.func 75) #[] #[.pointer (some ⟨b5, 0, none⟩), .pointer (some ⟨bd, 0, none⟩)]]) rfl rfl
        (fun w' hM => containsFunc_fn ar cr rel (overB r.id d) _ hl w' (hR.ext hM.ext) ⟨_, [], [.pointer (some ⟨b5, 0, none⟩), .pointer (some ⟨bd, 0, none⟩)], rfl, inferInstance, fun w'' hx x' _ => held11_fn x' b5 bd r.id d w'' (cell_ext hx ((hM.blk (cs := rcells r) memA).cell (i := 1) rfl)) (cell_ext hx (cell_ext hM.ext hd))⟩) ?_)
      refine hwXV ?_
      exact HX.ret1 rfl rfl fun w' hM => ⟨congrArg Value.bool (hfin true _ hn.symm (fun _ => rfl) fun h => by cases h), hM.ext⟩
  · have h11 : r.pack = a := h1.resolve_left h10
    refine hwXV ?_
    refine HL.one (H1.ld0 rfl hp rfl ?_)
    refine hwXV ?_
    refine HL.one (H1.ldAggw (vs := qc x y d) rfl rfl (fun w' hM => ldRec hq hM) rfl ?_)
    refine hwXV ?_
    refine HL.one (H1.ldAgg (vs := rcells r) rfl memA rfl (fun i v hv => by rw [Nat.zero_add]; exact hv) rfl ?_)
    refine hwXV ?_
    refine HL.one (H1.callx (vs := [qV x y d, recV r]) rfl rfl (fun w' _ => isNow_fn x y d r w') ?_)
    cases hn : nowB d r
    · refine hwXV ?_
      exact HX.ret1 rfl rfl fun w' hM => ⟨congrArg Value.bool (hfin false false hn.symm (fun h => by cases h) fun _ => rfl), hM.ext⟩
    · refine hwXV ?_
      refine HL.one (H1.ld0 rfl hb rfl ?_)
      refine hwXV ?_
      refine HL.one (H1.callx (vs := [.slice ar rel.length cr, .func (.func 75) #[] #[.pointer (some ⟨b5, 0, none⟩), .pointer (some ⟨bd, 0, none⟩)]]) rfl rfl
        (fun w' hM => containsFunc_fn ar cr rel (overB r.id d) _ hl w' (hR.ext hM.ext) ⟨_, [], [.pointer (some ⟨b5, 0, none⟩), .pointer (some ⟨bd, 0, none⟩)], rfl, inferInstance, fun w'' hx x' _ => held11_fn x' b5 bd r.id d w'' (cell_ext hx ((hM.blk (cs := rcells r) memA).cell (i := 1) rfl)) (cell_ext hx (cell_ext hM.ext hd))⟩) ?_)
      refine hwXV ?_
      exact HX.ret1 rfl rfl fun w' hM => ⟨congrArg Value.bool (hfin true _ hn.symm (fun _ => rfl) fun h => by cases h), hM.ext⟩
theorem Held_fn {B : Nat → List Rc} {vb : Value} (a d : Int) (w : World) (hB : BaseV w vb B) (hl : (B 4).length ≤ 1000000) (hl5 : (B 5).length ≤ 1000000) :
    Fn Tryz.prog 33 #[vb, zv a, zv d] w (NumV w (heldL (B 4) (B 5) a d)) := by
  obtain ⟨s, rfl, hs⟩ := hB
  have h0 := hs 4 (by decide)
  have h5 := hs 5 (by decide)
  obtain ⟨a0, c0, e0, -⟩ := h0.shape
  refine enterH (l := [_, _, _]) rfl Tryz.ntmps33 rfl ?_
  refine hwXV ?_
  refine HL.one (H1.boxAgg (cs := row 8 s) rfl rfl (fun b3' => ?_))
  refine hwXV ?_
  refine HL.one (H1.box rfl rfl rfl (fun b4 => ?_))
  refine hwXV ?_
  refine HL.one (H1.box rfl rfl rfl (fun b5 => ?_))
  refine hwXV ?_
  refine HL.build (cs := qc a 0 d) rfl rfl rfl ?_
  refine hwXV ?_
  refine HL.one (H1.alloc (cs := qc 0 0 0) rfl rfl (fun b7 => ?_))
  refine hwXV ?_
  refine HL.one (H1.stAgg (cs := qc 0 0 0) (vs := qc a 0 d) rfl rfl rfl (by intro v hv; simp only [qc, List.mem_cons, List.not_mem_nil, or_false] at hv; rcases hv with rfl | rfl | rfl <;> rfl) rplA rfl ?_)
  refine hwXV ?_
  refine HL.one (H1.callz (α := Nat × Nat) (V := fun z => .func (.func 112) #[] #[.pointer (some ⟨z.1, 0, none⟩), .pointer (some ⟨z.2, 0, none⟩)]) (Hn := fun z => [A.blk z.2 [.func (.func 74) #[] #[.pointer (some ⟨b5, 0, none⟩), .pointer (some ⟨b4, 0, none⟩), .pointer (some ⟨b7, 0, none⟩), .pointer (some ⟨b3', 0, none⟩)]] 90, A.blk z.1 [.slice a0 (B 4).length c0] 47]) (I := fun _ => True)
    (vs := [s 4, .func (.func 74) #[] #[.pointer (some ⟨b5, 0, none⟩), .pointer (some ⟨b4, 0, none⟩), .pointer (some ⟨b7, 0, none⟩), .pointer (some ⟨b3', 0, none⟩)]]) rfl rfl (fun w' hM => by rw [e0]; exact those_fn a0 (B 4).length c0 74 [] [.pointer (some ⟨b5, 0, none⟩), .pointer (some ⟨b4, 0, none⟩), .pointer (some ⟨b7, 0, none⟩), .pointer (some ⟨b3', 0, none⟩)] w') ?_)
  rintro ⟨b2, b3⟩ -
  refine hwXV ?_
  refine HL.one (H1.callz1 (α := Option Addr × Nat) (V := fun z => .slice z.1 (heldL (B 4) (B 5) a d).length z.2) (An := fun z => A.grow 3 1 z.1 z.2 (heldL (B 4) (B 5) a d).length (ints (heldL (B 4) (B 5) a d))) (I := fun _ => True) (vs := [.func (.func 112) #[] #[.pointer (some ⟨b2, 0, none⟩), .pointer (some ⟨b3, 0, none⟩)], fnV 78]) rfl rfl
    (fun w' hM => numbers_fn Rc.id 78 inferInstance id1_fn (L := B 4) (p := heldB (B 5) a d) w' hl (by rw [e0] at h0; exact h0.ext hM.ext) ⟨_, [], [.pointer (some ⟨b5, 0, none⟩), .pointer (some ⟨b4, 0, none⟩), .pointer (some ⟨b7, 0, none⟩), .pointer (some ⟨b3', 0, none⟩)], rfl, inferInstance, fun w'' hx r _ => heldc1_fn r b5 b4 b7 b3' a d a 0 (B 5) (s 5) hl5 w'' (cell_ext hx ((hM.blk (cs := [zv d]) memA).cell (i := 0) rfl)) (cell_ext hx ((hM.blk (cs := [zv a]) memA).cell (i := 0) rfl)) (fun i v hv => cell_ext hx ((hM.blk (cs := qc a 0 d) memA).cell hv)) (cell_ext hx ((hM.blk (cs := row 8 s) memA).cell (i := 5) rfl)) (h5.ext (hM.ext.trans hx))⟩
      ((hM.blk (cs := [.slice a0 (B 4).length c0]) memA).cell (i := 0) rfl) ((hM.blk (cs := [.func (.func 74) #[] #[.pointer (some ⟨b5, 0, none⟩), .pointer (some ⟨b4, 0, none⟩), .pointer (some ⟨b7, 0, none⟩), .pointer (some ⟨b3', 0, none⟩)]]) memA).cell (i := 0) rfl)) ?_)
  rintro ⟨az, cz⟩ -
  refine hwXV ?_
  exact HX.ret1 rfl rfl fun w' hM => ⟨(az, cz), trivial, rfl, hM.sub (by repeat (first | exact Hs.nil _ | (refine Hs.cons pickA ?_)))⟩
end Go.Sx
