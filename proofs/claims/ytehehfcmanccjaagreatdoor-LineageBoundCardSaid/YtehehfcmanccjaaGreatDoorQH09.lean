/- Chapter 24: equal nodes, equal texts: the walks. -/
import Derived.Test.YtehehfcmanccjaaGreatDoorQH08
namespace Go.Sx
open Go Go.Proofs Go.RowKit
theorem hwOG {G G2 : Prop} (x : G2) (hwq : Hold G2 → G := by
    intro hQq
    repeat' (first | refine HL.pa ?_ (POp.nilCheck rfl) | apply HL.fold | apply HA.fold | apply HL.nil | apply HX.n_then | apply HC.seq | apply HC.region | refine HL.pa ?_ | refine HL.ga rfl ?_ | refine HL.na rfl ?_ | refine HL.nu rfl rfl ?_ | apply HC.block | apply HC.skip | apply HC.exit | apply HC.ret | apply HX.e_block | refine HX.e_other rfl ?_ | apply HX.e_then | apply HX.e_again | apply HX.n_block | apply HX.r_then | apply HX.r_block | apply HX.r_again | refine HC.cond_yes rfl ?_ | refine HC.cond_no rfl ?_ | refine HL.one (H1.ldb rfl memA rfl rfl ?_) | refine HC.cond rfl (fun hc => ?_) (fun hc => ?_) | refine HC.cond_b rfl (fun hc => ?_) (fun hc => ?_))
    exact hQq.get) : G := hwq ⟨x⟩
theorem take_getB {l : List ByteArray} {k : Nat} (h : k < l.length) : l.take (k + 1) = l.take k ++ [getB l k] := by
  rw [List.take_add_one, List.getElem?_eq_getElem h]
  simp [getB, h]
attribute [local irreducible] WC WL WX POp Then Again Fn NX W1 WA WO QL RP RA Yld LoopAt HC HL HX HN H1 HA HO HQ HB HP A.blk A.grow A.rd A.obj A.mp AgainH CutH
attribute [local irreducible] A.mq A.mit A.all sumS
theorem sameTexts_fn (v u : Value) (l m : List ByteArray) (hl : l.length ≤ 1000000) (w : World) (hR : Rd w v (strs l)) (hS : Rd w u (strs m)) :
    Fn Tryz.prog 19 #[v, u] w fun u w' => u = .bool (decide (l = m)) ∧ Ext w w' := by
  have shape : ∀ {g : Value} {D : List ByteArray}, Rd w g (strs D) → ∃ a c, g = .slice a D.length c := fun {g D} h => by
    obtain ⟨a, c, h1, h2, -⟩ := id h
    rw [strs_len] at h1
    exact ⟨a, c, h1⟩
  obtain ⟨a, c, rfl⟩ := shape hR
  obtain ⟨a2, c2, rfl⟩ := shape hS
  refine enterH (l := [_, _]) rfl Tryz.ntmps19 rfl ?_
  by_cases hlen : l.length = m.length
  rotate_left
  · have hlen' : ¬ (l.length : Int) = (m.length : Int) := by omega
    refine hwOG ?_
    exact HX.ret1 rfl rfl fun w' hM => ⟨by rw [decide_eq_false fun e => hlen (by rw [e])], hM.ext⟩
  have hlen' : (l.length : Int) = (m.length : Int) := by omega
  refine hwOG ?_
  refine HC.loop (α := Nat) (fun k => [(0, .slice a l.length c), (1, .slice a2 m.length c2), (5, zv (k : Int))]) (fun _ => []) (fun k => k ≤ l.length ∧ l.take k = m.take k) (fun k => l.length - k) 0 ⟨Nat.zero_le _, rfl⟩ esA (Hs.refl _) ?_
  rintro k ⟨hk, hI⟩
  by_cases hlt : k < l.length
  rotate_left
  · have hn : ¬ ((k : Nat) : Int) < (l.length : Int) := by omega
    have he : l = m := by
      rw [List.take_of_length_le (by omega), List.take_of_length_le (by omega)] at hI
      exact hI
    refine hwOG ?_
    exact HX.ret1 rfl rfl fun w' hM => ⟨by rw [decide_eq_true he], hM.ext⟩
  have hn : ((k : Nat) : Int) < (l.length : Int) := by omega
  have hlt2 : k < m.length := by omega
  obtain ⟨b, off, rfl⟩ := rd_addr hR hlt
  obtain ⟨b2, off2, rfl⟩ := rd_addr hS hlt2
  have h1 := hR.cell (strs_getB hlt)
  have h2 := hS.cell (strs_getB hlt2)
  have t1 := take_getB hlt
  have t2 := take_getB hlt2
  have hne : getB l k ≠ getB m k → l ≠ m := fun h e => h (by rw [e])
  generalize getB l k = x at h1 t1 hne
  generalize getB m k = y at h2 t2 hne
  refine hwOG ?_
  refine HC.quietS [(some 17, [0], []), (some 18, [5], []), (some 19, [17, 18], [0, 1]), (some 20, [19], [2]), (some 21, [1], []), (some 22, [5], []), (some 23, [21, 22], [4, 5]), (some 24, [23], [6]), (some 25, [20, 24], [3, 7])] (by kernel_rfl) (by kernel_rfl) (by kernel_rfl) ?_
  repeat' (first | refine HQ.pa ?_ | refine HQ.ga rfl ?_ | refine HQ.na rfl ?_ | refine HQ.nu rfl ?_ | refine HQ.ldb rfl memA rfl rfl ?_)
  refine HQ.ld rfl (fun w' hM => cell_ext hM.ext h1) rfl ?_
  repeat' (first | refine HQ.pa ?_ | refine HQ.ga rfl ?_ | refine HQ.na rfl ?_ | refine HQ.nu rfl ?_ | refine HQ.ldb rfl memA rfl rfl ?_)
  refine HQ.ld rfl (fun w' hM => cell_ext hM.ext h2) rfl ?_
  by_cases hxy : x = y
  · have hxy' : (decide ¬ x = y) = false := by simp [hxy]
    repeat' (first | refine HQ.pa ?_ | refine HQ.ga rfl ?_ | refine HQ.na rfl ?_ | refine HQ.nu rfl ?_ | refine HQ.ldb rfl memA rfl rfl ?_)
    refine HQ.nil ?_
    refine hwOG ?_
    exact HX.again (k + 1) ⟨hlt, by rw [t1, t2, hI, hxy]⟩ (by show l.length - (k + 1) < l.length - k; omega) esA (Hs.refl _)
  · have hxy' : (decide ¬ x = y) = true := by simp [hxy]
    repeat' (first | refine HQ.pa ?_ | refine HQ.ga rfl ?_ | refine HQ.na rfl ?_ | refine HQ.nu rfl ?_ | refine HQ.ldb rfl memA rfl rfl ?_)
    refine HQ.nil ?_
    refine hwOG ?_
    exact HX.ret1 rfl rfl fun w' hM => ⟨by rw [decide_eq_false (hne hxy)], hM.ext⟩
set_option maxHeartbeats 1000000 in
theorem sameNodes_fn {v u : Value} {l m : List Nd} {U V : Nat → Value} (hl : l.length ≤ 400000) (hls : ∀ i, i < l.length → (ndAt l i).src.length ≤ 1000000) (w : World) (hR : RdN w v l U) (hS : RdN w u m V) :
    Fn Tryz.prog 18 #[v, u] w fun u w' => u = .bool (eqNs l m) ∧ Ext w w' := by
  obtain ⟨a, c, rfl, hc, -⟩ := id hR.shape
  obtain ⟨a2, c2, rfl, hc2, -⟩ := id hS.shape
  refine enterH (l := [_, _]) rfl Tryz.ntmps18 rfl ?_
  by_cases hlen : l.length = m.length
  rotate_left
  · have hlen' : ¬ (l.length : Int) = (m.length : Int) := by omega
    have hno : eqNs l m = false := by rw [← Bool.not_eq_true, eqNs_iff]; intro e; exact hlen (by rw [e])
    refine hwOG ?_
    exact HX.ret1 rfl rfl fun w' hM => ⟨by rw [hno], hM.ext⟩
  have hlen' : (l.length : Int) = (m.length : Int) := by omega
  refine hwOG ?_
  refine HC.loop (α := Nat) (fun k => [(0, .slice a l.length c), (1, .slice a2 m.length c2), (5, zv (k : Int))]) (fun _ => []) (fun k => k ≤ l.length ∧ l.take k = m.take k) (fun k => l.length - k) 0 ⟨Nat.zero_le _, rfl⟩ esA (Hs.refl _) ?_
  rintro k ⟨hk, hI⟩
  by_cases hlt : k < l.length
  rotate_left
  · have hn : ¬ ((k : Nat) : Int) < (l.length : Int) := by omega
    have he : l = m := by
      rw [List.take_of_length_le (by omega), List.take_of_length_le (by omega)] at hI
      exact hI
    refine hwOG ?_
    exact HX.ret1 rfl rfl fun w' hM => ⟨by rw [eqNs_iff.2 he], hM.ext⟩
  have hn : ((k : Nat) : Int) < (l.length : Int) := by omega
  have hlt2 : k < m.length := by omega
  obtain ⟨b, off, rfl, hb⟩ := hR.cell hlt
  obtain ⟨b2, off2, rfl, hb2⟩ := hS.cell hlt2
  have hx := hb k hlt
  have hy := hb2 k hlt2
  have hsx := hR.src k hlt
  have hsy := hS.src k hlt2
  have hlx := hls k hlt
  have hst := eqNs_take hlt hlt2 hI
  clear hb hb2
  generalize ndAt l k = n1 at hx hsx hlx hst
  generalize ndAt m k = n2 at hy hsy hst
  generalize U k = u1 at hx hsx
  generalize V k = u2 at hy hsy
  have x0 := hx 0 (zv n1.id) rfl
  have x1 := hx 1 (zv n1.kind) rfl
  have x2 := hx 2 (zv n1.pack) rfl
  have x3 := hx 3 u1 rfl
  have y0 := hy 0 (zv n2.id) rfl
  have y1 := hy 1 (zv n2.kind) rfl
  have y2 := hy 2 (zv n2.pack) rfl
  have y3 := hy 3 u2 rfl
  refine hwOG ?_
  refine HC.quietS [(some 18, [0], []), (some 19, [5], []), (some 20, [18, 19], [0, 1]), (some 21, [20], [2]), (some 22, [21], [3]), (some 23, [1], []), (some 24, [5], []), (some 25, [23, 24], [5, 6]), (some 26, [25], [7]), (some 27, [26], [8]), (some 28, [22, 27], [4, 9]), (some 6, [28], [10, 10, 0, 1, 2, 3, 4, 5, 6, 7, 8, 9, 10])] (by kernel_rfl) (by kernel_rfl) (by kernel_rfl) ?_
  repeat' (first | refine HQ.pa ?_ | refine HQ.ga rfl ?_ | refine HQ.na rfl ?_ | refine HQ.nu rfl ?_ | refine HQ.ldb rfl memA rfl rfl ?_)
  refine HQ.ld rfl (fun w' hM => cell_ext hM.ext x3) rfl ?_
  repeat' (first | refine HQ.pa ?_ | refine HQ.ga rfl ?_ | refine HQ.na rfl ?_ | refine HQ.nu rfl ?_ | refine HQ.ldb rfl memA rfl rfl ?_)
  refine HQ.ld rfl (fun w' hM => cell_ext hM.ext y3) rfl ?_
  repeat' (first | refine HQ.pa ?_ | refine HQ.ga rfl ?_ | refine HQ.na rfl ?_ | refine HQ.nu rfl ?_ | refine HQ.ldb rfl memA rfl rfl ?_)
  refine HQ.call (vs := [_, _]) rfl rfl (fun w' hM => SameInts_fn _ _ n1.src n2.src w' (hsx.ext hM.ext) (hsy.ext hM.ext) hlx) ?_
  repeat' (first | refine HQ.pa ?_ | refine HQ.ga rfl ?_ | refine HQ.na rfl ?_ | refine HQ.nu rfl ?_ | refine HQ.ldb rfl memA rfl rfl ?_)
  refine HQ.nil ?_
  refine hwOG ?_
  refine HC.quietS [(some 29, [0], []), (some 30, [5], []), (some 31, [29, 30], [0, 1]), (some 32, [31], [2]), (some 33, [32], [3]), (some 34, [1], []), (some 35, [5], []), (some 36, [34, 35], [5, 6]), (some 37, [36], [7]), (some 38, [37], [8]), (some 39, [33, 38], [4, 9]), (some 40, [39], [10]), (some 41, [0, 40], [11]), (some 42, [5, 40], [11]), (some 43, [41, 42, 40], [12, 13, 11]), (some 44, [43, 40], [14, 11]), (some 45, [44, 40], [15, 11]), (some 46, [1, 40], [11]), (some 47, [5, 40], [11]), (some 48, [46, 47, 40], [17, 18, 11]), (some 49, [48, 40], [19, 11]), (some 50, [49, 40], [20, 11]), (some 51, [45, 50, 40], [16, 21, 11]), (some 52, [40, 51], [11, 22]), (some 53, [52], [23, 11]), (some 54, [0, 53], [24]), (some 55, [5, 53], [24]), (some 56, [54, 55, 53], [25, 26, 24]), (some 57, [56, 53], [27, 24]), (some 58, [57, 53], [28, 24]), (some 59, [1, 53], [24]), (some 60, [5, 53], [24]), (some 61, [59, 60, 53], [30, 31, 24]), (some 62, [61, 53], [32, 24]), (some 63, [62, 53], [33, 24]), (some 64, [58, 63, 53], [29, 34, 24]), (some 65, [53, 64], [24, 35]), (some 66, [65], [36, 24]), (some 67, [6, 66], [37]), (some 68, [67, 66], [38, 37]), (some 69, [66, 68], [37, 39])] (by kernel_rfl) (by kernel_rfl) (by kernel_rfl) ?_
  repeat' (first | refine HQ.pa ?_ | refine HQ.ga rfl ?_ | refine HQ.na rfl ?_ | refine HQ.nu rfl ?_ | refine HQ.ldb rfl memA rfl rfl ?_)
  refine HQ.ld rfl (fun w' hM => cell_ext hM.ext x0) rfl ?_
  repeat' (first | refine HQ.pa ?_ | refine HQ.ga rfl ?_ | refine HQ.na rfl ?_ | refine HQ.nu rfl ?_ | refine HQ.ldb rfl memA rfl rfl ?_)
  refine HQ.ld rfl (fun w' hM => cell_ext hM.ext y0) rfl ?_
  by_cases e0 : n1.id = n2.id
  rotate_left
  · have e' : (decide ¬ n1.id = n2.id) = true := by simp [e0]
    repeat' (first | refine HQ.pa ?_ | refine HQ.ga rfl ?_ | refine HQ.na rfl ?_ | refine HQ.nu rfl ?_ | refine HQ.ldb rfl memA rfl rfl ?_)
    refine HQ.nil ?_
    refine hwOG ?_
    exact HX.ret1 rfl rfl fun w' hM => ⟨by rw [hst.2 (by unfold eqNd; simp [e0])], hM.ext⟩
  have f0 : (decide ¬ n1.id = n2.id) = false := by simp [e0]
  repeat' (first | refine HQ.pa ?_ | refine HQ.ga rfl ?_ | refine HQ.na rfl ?_ | refine HQ.nu rfl ?_ | refine HQ.ldb rfl memA rfl rfl ?_)
  refine HQ.ld rfl (fun w' hM => cell_ext hM.ext x1) rfl ?_
  repeat' (first | refine HQ.pa ?_ | refine HQ.ga rfl ?_ | refine HQ.na rfl ?_ | refine HQ.nu rfl ?_ | refine HQ.ldb rfl memA rfl rfl ?_)
  refine HQ.ld rfl (fun w' hM => cell_ext hM.ext y1) rfl ?_
  by_cases e1 : n1.kind = n2.kind
  rotate_left
  · have e' : (decide ¬ n1.kind = n2.kind) = true := by simp [e1]
    repeat' (first | refine HQ.pa ?_ | refine HQ.ga rfl ?_ | refine HQ.na rfl ?_ | refine HQ.nu rfl ?_ | refine HQ.ldb rfl memA rfl rfl ?_)
    refine HQ.nil ?_
    refine hwOG ?_
    exact HX.ret1 rfl rfl fun w' hM => ⟨by rw [hst.2 (by unfold eqNd; simp [e1])], hM.ext⟩
  have f1 : (decide ¬ n1.kind = n2.kind) = false := by simp [e1]
  repeat' (first | refine HQ.pa ?_ | refine HQ.ga rfl ?_ | refine HQ.na rfl ?_ | refine HQ.nu rfl ?_ | refine HQ.ldb rfl memA rfl rfl ?_)
  refine HQ.ld rfl (fun w' hM => cell_ext hM.ext x2) rfl ?_
  repeat' (first | refine HQ.pa ?_ | refine HQ.ga rfl ?_ | refine HQ.na rfl ?_ | refine HQ.nu rfl ?_ | refine HQ.ldb rfl memA rfl rfl ?_)
  refine HQ.ld rfl (fun w' hM => cell_ext hM.ext y2) rfl ?_
  by_cases e2 : n1.pack = n2.pack
  rotate_left
  · have e' : (decide ¬ n1.pack = n2.pack) = true := by simp [e2]
    repeat' (first | refine HQ.pa ?_ | refine HQ.ga rfl ?_ | refine HQ.na rfl ?_ | refine HQ.nu rfl ?_ | refine HQ.ldb rfl memA rfl rfl ?_)
    refine HQ.nil ?_
    refine hwOG ?_
    exact HX.ret1 rfl rfl fun w' hM => ⟨by rw [hst.2 (by unfold eqNd; simp [e2])], hM.ext⟩
  have f2 : (decide ¬ n1.pack = n2.pack) = false := by simp [e2]
  by_cases e3 : n1.src = n2.src
  · rw [decide_eq_true e3]
    repeat' (first | refine HQ.pa ?_ | refine HQ.ga rfl ?_ | refine HQ.na rfl ?_ | refine HQ.nu rfl ?_ | refine HQ.ldb rfl memA rfl rfl ?_)
    refine HQ.nil ?_
    refine hwOG ?_
    exact HX.again (k + 1) ⟨hlt, hst.1 (by unfold eqNd; simp [e0, e1, e2, e3])⟩ (by show l.length - (k + 1) < l.length - k; omega) esA (Hs.refl _)
  · rw [decide_eq_false e3]
    repeat' (first | refine HQ.pa ?_ | refine HQ.ga rfl ?_ | refine HQ.na rfl ?_ | refine HQ.nu rfl ?_ | refine HQ.ldb rfl memA rfl rfl ?_)
    refine HQ.nil ?_
    refine hwOG ?_
    exact HX.ret1 rfl rfl fun w' hM => ⟨by rw [hst.2 (by unfold eqNd; simp [e3])], hM.ext⟩
end Go.Sx
/- Chapter 24: a base with an order: the walk. -/
namespace Go.Sx
open Go Go.Proofs Go.RowKit
def askR (pk fr : Int) : Rc := ⟨8, 5, 1, 0, false, fr, 0, pk, 0, 0, 0, 1, false, 0, ⟨#[]⟩⟩
/-- A base with one order. -/
structure AskV (w : World) (v : Value) (B : Nat → List Rc) (r : Rc) : Prop where
  base : BaseV w v B
  ord : B 7 = [r]
  h4 : (B 4).length ≤ 30
  h5 : (B 5).length ≤ 30
attribute [local irreducible] WC WL WX POp Then Again Fn NX W1 WA WO QL RP RA Yld LoopAt HC HL HX HN H1 HA HO HQ HB HP A.blk A.grow A.rd A.obj A.mp AgainH CutH
attribute [local irreducible] A.dfr A.loop bsA
end Go.Sx
/- Chapter 24: a base with an order and nothing else: the walk. -/
namespace Go.Sx
open Go Go.Proofs Go.RowKit
attribute [local irreducible] WC WL WX POp Then Again Fn NX W1 WA WO QL RP RA Yld LoopAt HC HL HX HN H1 HA HO HQ HB HP A.blk A.grow A.rd A.obj A.mp AgainH CutH
attribute [local irreducible] A.dfr A.loop bsA
end Go.Sx
/- Plain, chapter 24: what is left after two orders does not depend on which comes first. -/
namespace Go.Sx
open Go Go.RowKit
def leftN1 (l : List Nd) (g : List Int) : List Nd := l.filter fun n => decide (n.id ∈ g) == false
end Go.Sx
/- Chapter 24: the law LineageOrders: the walk. -/
namespace Go.Sx
open Go Go.Proofs Go.RowKit
/-- What Delete returns, whatever it is. -/
structure AnyD where
  x1 : Option Addr × Nat × Nat
  x2 : Option Addr × Nat × Nat
  o : Int
  d : Int
  b : ByteArray
  a : ByteArray
  x3 : Option Addr × Nat × Nat
  x4 : Option Addr × Nat × Nat
  e : Int
def slV (x : Option Addr × Nat × Nat) : Value := .slice x.1 x.2.1 x.2.2
def anyT (z : AnyD) : List Value := [zv z.o, zv z.d, .string z.b, .string z.a, slV z.x3, slV z.x4]
def anyDV (z : AnyD) : Value := .tuple #[slV z.x1, slV z.x2, .agg (anyT z).toArray, zv z.e]
/-- A base with orders alone. -/
def ordB (L : List Rc) (i : Nat) : List Rc := if i = 7 then L else []
def ordR (id pk : Int) : Rc := ⟨8, id, 1, 0, false, 0, 0, pk, 0, 0, 0, 1, false, 0, ⟨#[]⟩⟩
theorem ok_sizes {l : List Nd} {D : List ByteArray} (h : okS l D = true) : l.length ≤ 400000 ∧ (∀ i, i < l.length → (ndAt l i).src.length ≤ 1000000) ∧ D.length ≤ 1000000 ∧ ∀ d ∈ D, d.size ≤ 1000 := by
  have hv := okS_valid h
  have hf := okS_facts h
  have := hv.len
  exact ⟨by omega, fun i hi => by have := (hasN_iff.1 (hv.node i hi)).len; omega, by omega, fun d hd => by rw [hf.2.2 d hd]; decide⟩
theorem made_ok (rows : List (List Int)) : okS (madeL rows (madeN rows)) (madeD rows (madeN rows)) = true :=
  okS_of (madeL_ok rows (madeN rows) (by unfold madeN; omega)).valid (by rw [madeL_len, madeD_len]) (madeD_size rows _)
attribute [local irreducible] WC WL WX POp Then Again Fn NX W1 WA WO QL RP RA Yld LoopAt HC HL HX HN H1 HA HO HQ HB HP A.blk A.grow A.rd A.obj A.mp AgainH CutH
attribute [local irreducible] A.mq A.mit A.all sumS rootP
end Go.Sx
/- Chapter 24: the law LineageTombstones: the walk. -/
namespace Go.Sx
open Go Go.Proofs Go.RowKit
/-- The first nodes of a slice. -/
theorem RdN.pre {w : World} {a : Option Addr} {c k : Nat} {l : List Nd} {U : Nat → Value} (h : RdN w (.slice a l.length c) l U) (hk : k ≤ l.length) : RdN w (.slice a k c) (l.take k) U := by
  have hkl : (l.take k).length = k := by rw [List.length_take]; omega
  obtain ⟨a', c', h1, h2, h3⟩ := h.shape
  cases h1
  refine ⟨⟨a, c, by rw [hkl], by omega, ?_⟩, fun i hi => ?_⟩
  · rcases h3 with h3 | ⟨b, off, h4, h5⟩
    · exact .inl (by rw [h3]; exact List.take_nil)
    · refine .inr ⟨b, off, h4, fun i hi j u hu => h5 i (by omega) j u ?_⟩
      rwa [ndAt_takeL (by omega)] at hu
  · rw [ndAt_takeL (by omega)]
    exact h.src i (by omega)
theorem HN.openg24 {N : Nat} {ds : List Deferred} {K : Act → World → Prop} {E : Env} {w0 : World} {H : List Atom} {e : TypeId} {sz c n : Nat} {a : Option Addr} {xs : List Value} (hm : A.grow e sz a c n xs ∈ H) (hn : n ≠ 0) (h : ∀ b, a = some ⟨b, 0, none⟩ → HN N ds K E w0 H) : HN N ds K E w0 H := fun w hM => by
  rcases (hM.own hm).2 with ⟨-, h0⟩ | ⟨g, cap, cur, hv, -⟩
  · exact absurd h0 hn
  · cases hv; exact h g rfl w hM
theorem Rd.spre {w : World} {a : Option Addr} {c k : Nat} {l : List ByteArray} (h : Rd w (.slice a l.length c) (strs l)) (hk : k ≤ l.length) : Rd w (.slice a k c) (strs (l.take k)) := by
  obtain ⟨a', c', h1, h2, h3⟩ := h
  have hkl : (strs (l.take k)).length = k := by rw [strs_len, List.length_take]; omega
  rw [strs_len] at h1 h2
  cases h1
  refine ⟨a, c, by rw [hkl], by omega, ?_⟩
  rcases h3 with h3 | ⟨b, off, h4, h5, h6⟩
  · have : l = [] := by cases l with | nil => rfl | cons => cases h3
    exact .inl (by rw [this, List.take_nil]; rfl)
  · refine .inr ⟨b, off, h4, h5, fun i u hu => h6 i u ?_⟩
    unfold strs at hu ⊢
    rw [List.getElem?_map] at hu ⊢
    rw [List.getElem?_take] at hu
    split at hu
    · exact hu
    · cases hu
def inB24 (s : ByteArray) (l : List ByteArray) : Bool := l.any fun x => decide (x = s)
attribute [local irreducible] WC WL WX POp Then Again Fn NX W1 WA WO QL RP RA Yld LoopAt HC HL HX HN H1 HA HO HQ HB HP A.blk A.grow A.rd A.obj A.mp AgainH CutH
attribute [local irreducible] A.mq A.mit A.all sumS rootP
end Go.Sx
/- Plain, chapter 24: roots and leaves tell what they are made of, or two strings have the same digest. -/
namespace Go.Sx
open Go Go.RowKit
def hashL (l : List ByteArray) : List ByteArray :=
  if _h : 2 ≤ l.length then hashL (l.take (leftN l.length)) ++ hashL (l.drop (leftN l.length)) ++ [mkB 1 ++ mroot (l.take (leftN l.length)) ++ mroot (l.drop (leftN l.length))] else match l with
    | [] => [⟨#[]⟩]
    | x :: _ => [mkB 0 ++ x]
termination_by l.length
decreasing_by
  · rw [List.length_take]; have := leftN_lt _h; omega
  · rw [List.length_drop]; have := leftN_pos l.length; omega
theorem hashL_nil : hashL [] = [⟨#[]⟩] := by rw [hashL]; rfl
theorem hashL_one (x : ByteArray) : hashL [x] = [mkB 0 ++ x] := by rw [hashL]; rfl
theorem hashL_step {l : List ByteArray} (h : 2 ≤ l.length) : hashL l = hashL (l.take (leftN l.length)) ++ hashL (l.drop (leftN l.length)) ++ [mkB 1 ++ mroot (l.take (leftN l.length)) ++ mroot (l.drop (leftN l.length))] := by rw [hashL, dif_pos h]
/-- Two different strings with the same digest. -/
def ColP (a b : List ByteArray) : Prop := ∃ x ∈ a, ∃ y ∈ b, x ≠ y ∧ sumS x = sumS y
theorem ba_ext {a b : ByteArray} (h : a.data.toList = b.data.toList) : a = b := by
  cases a with
  | mk a =>
    cases b with
    | mk b => exact congrArg ByteArray.mk (Array.toList_inj.1 h)
theorem ba_appL (a b : ByteArray) : (a ++ b).data.toList = a.data.toList ++ b.data.toList := by rw [ByteArray.data_append, Array.toList_append]
theorem ba_sizeL (a : ByteArray) : a.data.toList.length = a.size := by rw [Array.length_toList]; rfl
theorem catS_1e (x : ByteArray) : catS [x] = x := ba_ext (by
  show (x.data.toList ++ [] : List UInt8).toArray.toList = _
  rw [List.append_nil])
theorem catS_2e (a b : ByteArray) : catS [a, b] = a ++ b := ba_ext (by
  rw [ba_appL]
  show (a.data.toList ++ (b.data.toList ++ []) : List UInt8).toArray.toList = _
  rw [List.append_nil])
theorem ba_app_inj {a b c d : ByteArray} (h : a ++ b = c ++ d) (hs : a.size = c.size) : a = c ∧ b = d := by
  have h1 : (a ++ b).data.toList = (c ++ d).data.toList := by rw [h]
  rw [ba_appL, ba_appL] at h1
  obtain ⟨h2, h3⟩ := List.append_inj h1 (by rw [ba_sizeL, ba_sizeL]; exact hs)
  exact ⟨ba_ext h2, ba_ext h3⟩
theorem nodeS_eq (a b : ByteArray) : nodeS a b = sumS (mkB 1 ++ a ++ b) := by
  unfold nodeS markS
  rw [catS_2e, ByteArray.append_assoc]
theorem leafS_eq (a : ByteArray) : leafS a = sumS (mkB 0 ++ a) := by unfold leafS markS; rw [catS_1e]
theorem mroot_size (l : List ByteArray) : (mroot l).size = 32 := by
  by_cases h : 2 ≤ l.length
  · rw [mroot_step h]; exact nodeS_size _ _
  · match l, h with
    | [], _ => rw [mroot_nil]; exact sumS_size _
    | [x], _ => rw [mroot_one]; exact leafS_size _
    | _ :: _ :: _, h => exact absurd (by simp) h
attribute [local irreducible] sumS
/-- Lists of the same length with the same root are the same, or two different strings have the same digest. -/
theorem mroot_col : ∀ (k : Nat) (a b : List ByteArray), a.length = k → b.length = k → mroot a = mroot b → a = b ∨ ColP (hashL a) (hashL b) := by
  intro k
  induction k using Nat.strongRecOn with
  | ind k ih =>
    intro a b ha hb h
    by_cases hk : 2 ≤ k
    · have ha2 : 2 ≤ a.length := by omega
      have hb2 : 2 ≤ b.length := by omega
      rw [mroot_step ha2, mroot_step hb2, nodeS_eq, nodeS_eq] at h
      have hcl : ∀ {x y : List ByteArray}, x.length < k → x.length = y.length → mroot x = mroot y → x = y ∨ ColP (hashL x) (hashL y) := fun {x y} h1 h2 h3 => ih x.length h1 x y rfl h2.symm h3
      by_cases he : mkB 1 ++ mroot (a.take (leftN a.length)) ++ mroot (a.drop (leftN a.length)) = mkB 1 ++ mroot (b.take (leftN b.length)) ++ mroot (b.drop (leftN b.length))
      · obtain ⟨h1, h2⟩ := ba_app_inj he (by rw [ByteArray.size_append, ByteArray.size_append, mroot_size, mroot_size])
        obtain ⟨-, h1⟩ := ba_app_inj h1 rfl
        have hlt := leftN_lt ha2
        have hps := leftN_pos a.length
        have hab : a.length = b.length := by omega
        rcases hcl (by rw [List.length_take]; omega) (by rw [List.length_take, List.length_take, hab]) h1 with e1 | ⟨x, hx, y, hy, hn, hs⟩
        · rcases hcl (by rw [List.length_drop]; omega) (by rw [List.length_drop, List.length_drop, hab]) h2 with e2 | ⟨x, hx, y, hy, hn, hs⟩
          · exact .inl (by rw [← List.take_append_drop (leftN a.length) a, ← List.take_append_drop (leftN b.length) b, e1, e2])
          · exact .inr ⟨x, by rw [hashL_step ha2]; simp [hx], y, by rw [hashL_step hb2]; simp [hy], hn, hs⟩
        · exact .inr ⟨x, by rw [hashL_step ha2]; simp [hx], y, by rw [hashL_step hb2]; simp [hy], hn, hs⟩
      · exact .inr ⟨_, by rw [hashL_step ha2]; simp, _, by rw [hashL_step hb2]; simp, he, h⟩
    · match a, b, ha, hb with
      | [], [], _, _ => exact .inl rfl
      | [x], [y], _, _ =>
        rw [mroot_one, mroot_one, leafS_eq, leafS_eq] at h
        by_cases he : mkB 0 ++ x = mkB 0 ++ y
        · exact .inl (by rw [(ba_app_inj he rfl).2])
        · exact .inr ⟨_, by rw [hashL_one]; simp, _, by rw [hashL_one]; simp, he, h⟩
      | _ :: _ :: _, _, h1, _ => exact absurd (by rw [← h1]; simp) hk
      | [], _ :: _, h1, h2 => subst h1; cases h2
      | [_], [], h1, h2 => subst h1; cases h2
      | [_], _ :: _ :: _, h1, h2 => subst h1; cases h2
theorem numB_inj {x y : Int} (hx : 0 ≤ x) (hy : 0 ≤ y) {a b : List UInt8} (h : (numB x).data.toList ++ a = (numB y).data.toList ++ b) : x = y ∧ a = b := by
  have h1 : putN x.toNat ++ a = putN y.toNat ++ b := by simpa [numB, strN] using h
  obtain ⟨h2, h3⟩ := putN_inj h1
  exact ⟨by omega, h3⟩
theorem numsB_cons (x : Int) (l : List Int) : (numsB (x :: l)).data.toList = (numB x).data.toList ++ (numsB l).data.toList := by
  have key : ∀ (l : List Int) (s : ByteArray), (l.foldl (fun s x => s ++ numB x) s).data.toList = s.data.toList ++ (l.foldl (fun s x => s ++ numB x) ⟨#[]⟩).data.toList := by
    intro l
    induction l with
    | nil => intro s; show s.data.toList = s.data.toList ++ []; rw [List.append_nil]
    | cons y l ih =>
      intro s
      rw [List.foldl_cons, List.foldl_cons, ih, ih (⟨#[]⟩ ++ numB y), ba_appL, ba_appL]
      simp
  unfold numsB
  rw [List.foldl_cons, key, ba_appL]
  simp
theorem numsB_inj : ∀ {l m : List Int}, l.length = m.length → (∀ x ∈ l, 0 ≤ x) → (∀ x ∈ m, 0 ≤ x) → ∀ {a b : List UInt8}, (numsB l).data.toList ++ a = (numsB m).data.toList ++ b → l = m ∧ a = b
  | [], [], _, _, _, a, b, h => ⟨rfl, by simpa [numsB] using h⟩
  | x :: l, y :: m, hl, hx, hy, a, b, h => by
    rw [numsB_cons, numsB_cons, List.append_assoc, List.append_assoc] at h
    obtain ⟨h1, h2⟩ := numB_inj (hx x (.head _)) (hy y (.head _)) h
    obtain ⟨h3, h4⟩ := numsB_inj (by simpa using hl) (fun z hz => hx z (.tail _ hz)) (fun z hz => hy z (.tail _ hz)) h2
    exact ⟨by rw [h1, h3], h4⟩
  | [], _ :: _, hl, _, _, _, _, _ => by cases hl
  | _ :: _, [], hl, _, _, _, _, _ => by cases hl
theorem numsB_app (l m : List Int) : (numsB (l ++ m)).data.toList = (numsB l).data.toList ++ (numsB m).data.toList := by
  induction l with
  | nil => rfl
  | cons x l ih => rw [List.cons_append, numsB_cons, numsB_cons, ih, List.append_assoc]
/-- A leaf tells its node and its digest. -/
theorem leafB_inj {n m : Nd} {d e : ByteArray} (hn : NdOk n) (hm : NdOk m) (h : leafB n d = leafB m e) : n = m ∧ d = e := by
  have h1 : (leafB n d).data.toList = (leafB m e).data.toList := by rw [h]
  unfold leafB leafN at h1
  rw [ba_appL, ba_appL, numsB_app, numsB_app, List.append_assoc, List.append_assoc] at h1
  have p1 : ∀ x ∈ [n.id, n.kind, n.pack, (n.src.length : Int)], 0 ≤ x := fun x hx => (hn.num x (List.mem_append_left _ hx)).1
  have p2 : ∀ x ∈ [m.id, m.kind, m.pack, (m.src.length : Int)], 0 ≤ x := fun x hx => (hm.num x (List.mem_append_left _ hx)).1
  obtain ⟨h2, h3⟩ := numsB_inj (l := [n.id, n.kind, n.pack, (n.src.length : Int)]) (m := [m.id, m.kind, m.pack, (m.src.length : Int)]) rfl p1 p2 h1
  have e1 : n.id = m.id := by injection h2
  have e2 : n.kind = m.kind := by injection h2 with _ h; injection h
  have e3 : n.pack = m.pack := by injection h2 with _ h; injection h with _ h; injection h
  have e4 : (n.src.length : Int) = m.src.length := by injection h2 with _ h; injection h with _ h; injection h with _ h; injection h
  obtain ⟨h5, h6⟩ := numsB_inj (by omega) (fun x hx => (hn.num x (List.mem_append_right _ hx)).1) (fun x hx => (hm.num x (List.mem_append_right _ hx)).1) h3
  obtain ⟨i1, k1, q1, s1⟩ := n
  obtain ⟨i2, k2, q2, s2⟩ := m
  dsimp only at e1 e2 e3 h5
  subst e1 e2 e3 h5
  exact ⟨rfl, ba_ext h6⟩
end Go.Sx
/- Chapter 24: the reference's roots, and the strings that they hash: the walk. -/
namespace Go.Sx
open Go Go.Proofs Go.RowKit
theorem hwOT {G G2 : Prop} (x : G2) (hwq : Hold G2 → G := by
    intro hQq
    repeat' (first | refine HL.pa ?_ (POp.nilCheck rfl) | apply HL.fold | apply HA.fold | apply HL.nil | apply HX.n_then | apply HC.seq | apply HC.region | refine HL.pa ?_ | refine HL.ga rfl ?_ | refine HL.na rfl ?_ | refine HL.nu rfl rfl ?_ | apply HC.block | apply HC.skip | apply HC.exit | apply HC.ret | apply HX.e_block | refine HX.e_other rfl ?_ | apply HX.e_then | apply HX.e_again | apply HX.n_block | apply HX.r_then | apply HX.r_block | apply HX.r_again | refine HC.cond_yes rfl ?_ | refine HC.cond_no rfl ?_ | refine HL.one (H1.ldb rfl memA rfl rfl ?_) | refine HC.cond rfl (fun hc => ?_) (fun hc => ?_) | refine HC.cond_b rfl (fun hc => ?_) (fun hc => ?_))
    exact hQq.get) : G := hwq ⟨x⟩
theorem Rd.sdrop {w : World} {b off c k : Nat} {l : List ByteArray} (h : Rd w (.slice (some ⟨b, off, none⟩) l.length c) (strs l)) (hk : k ≤ l.length) : Rd w (.slice (some ⟨b, off + k, none⟩) (l.length - k) (c - k)) (strs (l.drop k)) := by
  obtain ⟨a', c', h1, h2, h3⟩ := h
  rw [strs_len] at h1 h2
  cases h1
  have hl : (strs (l.drop k)).length = l.length - k := by rw [strs_len, List.length_drop]
  refine ⟨some ⟨b, off + k, none⟩, c - k, by rw [hl], by omega, ?_⟩
  rcases h3 with h3 | ⟨b', off', h4, h5, h6⟩
  · have : l = [] := by cases l with | nil => rfl | cons => cases h3
    exact .inl (by rw [this, List.drop_nil]; rfl)
  · cases h4
    refine .inr ⟨b, off + k, rfl, h5, fun i u hu => ?_⟩
    unfold strs at hu
    rw [List.getElem?_map, List.getElem?_drop] at hu
    have := h6 (k + i) u (by unfold strs; rw [List.getElem?_map]; exact hu)
    rwa [← Nat.add_assoc] at this
theorem Rd.scap {w : World} {a : Option Addr} {n c : Nat} {l : List ByteArray} (h : Rd w (.slice a n c) (strs l)) : n = l.length ∧ n ≤ c := by
  obtain ⟨a', c', h1, h2, -⟩ := h
  rw [strs_len] at h1 h2
  cases h1
  exact ⟨rfl, h2⟩
attribute [local irreducible] WC WL WX POp Then Again Fn NX W1 WA WO QL RP RA Yld LoopAt HC HL HX HN H1 HA HO HQ HB HP A.blk A.grow A.rd A.obj A.mp AgainH CutH
attribute [local irreducible] A.mq A.mit A.all sumS
theorem left02_fn (n : Nat) (hn : 2 ≤ n) (hb : n ≤ 1000000) (w : World) : Fn Tryz.prog 48 #[zv (n : Int)] w fun u w' => u = zv (leftN n : Int) ∧ Ext w w' := by
  refine enterH (l := [_]) rfl Tryz.ntmps48 rfl ?_
  refine hwOT ?_
  refine HC.loop (α := Nat) (fun p => [(0, zv (n : Int)), (3, zv (p : Int))]) (fun _ => []) (fun p => (∃ j, p = 2 ^ j) ∧ p < n) (fun p => n - p) 1 ⟨⟨0, rfl⟩, by omega⟩ esA (by repeat (first | exact Hs.nil _ | (refine Hs.cons pickA ?_))) ?_
  rintro p ⟨⟨j, hj⟩, hp⟩
  have hp0 : 0 < p := by rw [hj]; exact Nat.two_pow_pos _
  by_cases hlt : 2 * p < n
  · have h1 : (p : Int) < (n : Int) - (p : Int) := by omega
    refine hwOT ?_
    exact HX.again (2 * p) ⟨⟨j + 1, by rw [hj, Nat.pow_succ, Nat.mul_comm]⟩, hlt⟩ (by show n - 2 * p < n - p; omega) (by rw [show ((2 * p : Nat) : Int) = 2 * (p : Int) by omega]; repeat (first | exact trivial | refine ⟨rfl, ?_⟩)) (by repeat (first | exact Hs.nil _ | (refine Hs.cons pickA ?_)))
  have h1 : ¬ (p : Int) < (n : Int) - (p : Int) := by omega
  have e : leftN n = p := by rw [hj]; exact leftN_eq (by omega) (by omega)
  refine hwOT ?_
  exact HX.ret1 rfl rfl fun w' hM => ⟨by rw [e], hM.ext⟩
theorem leaf02_fn (s : ByteArray) (hs : s.size ≤ 800000) (w : World) : Fn Tryz.prog 90 #[.string s] w fun u w' => u = .string (leafS s) ∧ Ext w w' := by
  refine enterH (l := [_]) rfl Tryz.ntmps90 rfl ?_
  have h0 : (mkB 0 ++ s).size ≤ 900000 := by rw [ByteArray.size_append]; show 1 + _ ≤ _; omega
  rw [leafS_eq]
  refine hwOT ?_
  refine HL.pa ?_ (POp.cat (s := mkB 0) (u := s) rfl rfl (by show 1 + _ ≤ _; omega))
  refine hwOT ?_
  refine HL.one (H1.callx (vs := [_]) rfl rfl (fun w' hM => refSum_fn (mkB 0 ++ s) h0 w') ?_)
  refine hwOT ?_
  exact HX.ret1 rfl rfl fun w' hM => ⟨rfl, hM.ext⟩
theorem node02_fn (a b : ByteArray) (ha : a.size ≤ 1000) (hb : b.size ≤ 1000) (w : World) : Fn Tryz.prog 91 #[.string a, .string b] w fun u w' => u = .string (nodeS a b) ∧ Ext w w' := by
  refine enterH (l := [_, _]) rfl Tryz.ntmps91 rfl ?_
  have h0 : (mkB 1 ++ a ++ b).size ≤ 900000 := by rw [ByteArray.size_append, ByteArray.size_append]; show 1 + _ + _ ≤ _; omega
  rw [nodeS_eq]
  have h1 : (mkB 1 ++ a).size = 1 + a.size := by rw [ByteArray.size_append]; rfl
  refine hwOT ?_
  refine HL.pa ?_ (POp.cat (s := mkB 1) (u := a) rfl rfl (by show 1 + _ ≤ _; omega))
  refine hwOT ?_
  refine HL.one (H1.callx (vs := [_]) rfl rfl (fun w' hM => refSum_fn (mkB 1 ++ a ++ b) h0 w') ?_)
  refine hwOT ?_
  exact HX.ret1 rfl rfl fun w' hM => ⟨rfl, hM.ext⟩
theorem root02_fn : ∀ (n : Nat) (l : List ByteArray) (a : Option Addr) (c : Nat), l.length = n → n ≤ 1000000 → (∀ s ∈ l, s.size ≤ 800000) → ∀ w : World, Rd w (.slice a l.length c) (strs l) →
    Fn Tryz.prog 49 #[.slice a l.length c] w fun u w' => u = .string (mroot l) ∧ Ext w w' := by
  intro n
  induction n using Nat.strongRecOn with
  | ind n ih =>
  intro l a c hln hnb hs w hR
  refine enterH (l := [_]) rfl Tryz.ntmps49 rfl ?_
  by_cases h0 : l.length = 0
  · have h0' : ((l.length : Nat) : Int) = 0 := by omega
    obtain rfl : l = [] := List.length_eq_zero_iff.1 h0
    refine hwOT ?_
    refine HL.one (H1.callx (vs := [_]) rfl rfl (fun w' hM => refSum_fn ⟨#[]⟩ (by decide) w') ?_)
    refine hwOT ?_
    exact HX.ret1 rfl rfl fun w' hM => ⟨by rw [mroot_nil], hM.ext⟩
  have h0' : ¬ ((l.length : Nat) : Int) = 0 := by omega
  obtain ⟨b, off, rfl⟩ := rd_addr hR (show 0 < l.length by omega)
  by_cases h1 : l.length = 1
  · have h1' : ((l.length : Nat) : Int) = 1 := by omega
    obtain ⟨x, rfl⟩ := List.length_eq_one_iff.1 h1
    have hc := hR.cell (strs_getB (l := [x]) (i := 0) Nat.zero_lt_one)
    have hsx := hs x (.head _)
    refine hwOT ?_
    refine HL.one (H1.ld0 rfl hc rfl ?_)
    refine hwOT ?_
    refine HL.one (H1.callx (vs := [_]) rfl rfl (fun w' hM => leaf02_fn x hsx w') ?_)
    refine hwOT ?_
    exact HX.ret1 rfl rfl fun w' hM => ⟨by rw [mroot_one], hM.ext⟩
  have h1' : ¬ ((l.length : Nat) : Int) = 1 := by omega
  have h2 : 2 ≤ l.length := by omega
  have hk := leftN_lt h2
  have hk0 := leftN_pos l.length
  obtain ⟨-, hcap⟩ := hR.scap
  have hr := mroot_step h2
  have hRt : ∀ w', Ext w w' → Rd w' (.slice (some ⟨b, off, none⟩) (l.take (leftN l.length)).length c) (strs (l.take (leftN l.length))) := fun w' hx => by
    have := (hR.ext hx).spre (k := leftN l.length) (by omega)
    rw [List.length_take, Nat.min_eq_left (by omega)]; exact this
  have hRd : ∀ w', Ext w w' → Rd w' (.slice (some ⟨b, off + leftN l.length, none⟩) (l.drop (leftN l.length)).length (c - leftN l.length)) (strs (l.drop (leftN l.length))) := fun w' hx => by
    have := (hR.ext hx).sdrop (k := leftN l.length) (by omega)
    rw [List.length_drop]; exact this
  have lt1 : (l.take (leftN l.length)).length = leftN l.length := by rw [List.length_take, Nat.min_eq_left (by omega)]
  have ld1 : (l.drop (leftN l.length)).length = l.length - leftN l.length := by rw [List.length_drop]
  refine hwOT ?_
  refine HL.one (H1.callx (vs := [_]) rfl rfl (fun w' hM => left02_fn l.length h2 (by omega) w') ?_)
  refine hwOT ?_
  have hcl : Value.slice (some ⟨b, off + ((leftN l.length : Nat) : Int).toNat * 1, none⟩) (l.length - ((leftN l.length : Nat) : Int).toNat) (c - ((leftN l.length : Nat) : Int).toNat) = .slice (some ⟨b, off + leftN l.length, none⟩) (l.length - leftN l.length) (c - leftN l.length) := by rw [Int.toNat_natCast, Nat.mul_one]
  refine HC.any rfl ?_
  refine HA.pa 0 rfl ?_
  refine HA.pa 1 rfl ?_
  refine HA.pa 2 rfl ?_
  refine HA.pa 4 rfl ?_
  refine HA.pa 5 rfl ?_
  refine HA.pa 6 rfl ?_ ((POp.cut_l rfl rfl (by omega) (by omega) (by omega)).of hcl)
  refine HA.all [3] (by kernel_rfl) rfl ⟨⟨_, rfl, ?_⟩, trivial⟩
  refine HO.one ?_
  refine H1.callx (vs := [_]) rfl rfl (fun w' hM => by
    have h := ih (l.take (leftN l.length)).length (by omega) (l.take (leftN l.length)) (some ⟨b, off, none⟩) c rfl (by omega) (fun s hsm => hs s (List.mem_of_mem_take hsm)) w' (hRt w' hM.ext)
    rw [lt1] at h; exact h) ?_
  apply HA.fold
  refine HA.all [7] (by kernel_rfl) rfl ⟨⟨_, rfl, ?_⟩, trivial⟩
  refine HO.one ?_
  refine H1.callx (vs := [_]) rfl rfl (fun w' hM => by
    have h := ih (l.drop (leftN l.length)).length (by omega) (l.drop (leftN l.length)) (some ⟨b, off + leftN l.length, none⟩) (c - leftN l.length) rfl (by omega) (fun s hsm => hs s (List.mem_of_mem_drop hsm)) w' (hRd w' hM.ext)
    rw [ld1] at h; exact h) ?_
  apply HA.fold
  refine HA.all [8] (by kernel_rfl) rfl ⟨⟨_, rfl, ?_⟩, trivial⟩
  refine HO.one ?_
  refine H1.callx (vs := [_, _]) rfl rfl (fun w' hM => node02_fn (mroot (l.take (leftN l.length))) (mroot (l.drop (leftN l.length))) (by rw [mroot_size]; decide) (by rw [mroot_size]; decide) w') ?_
  apply HA.fold
  refine HA.pa 9 rfl ?_
  refine HA.done (by kernel_rfl) ?_
  refine hwOT ?_
  exact HX.ret1 rfl rfl fun w' hM => ⟨by rw [hr], hM.ext⟩
theorem hashL_len : ∀ (n : Nat) (l : List ByteArray), l.length = n → (hashL l).length = if n = 0 then 1 else 2 * n - 1 := by
  intro n
  induction n using Nat.strongRecOn with
  | ind n ih =>
    intro l hl
    by_cases h : 2 ≤ l.length
    · have h1 := leftN_lt h
      have h2 := leftN_pos l.length
      rw [hashL_step h, List.length_append, List.length_append, ih (leftN l.length) (by omega) _ (by rw [List.length_take]; omega), ih (l.length - leftN l.length) (by omega) _ (by rw [List.length_drop]), if_neg (by omega), if_neg (by omega), if_neg (by omega)]
      show _ + 1 = _
      omega
    · match l, h, hl with
      | [], _, hl => rw [hashL_nil, ← hl]; rfl
      | [x], _, hl => rw [hashL_one, ← hl]; rfl
      | _ :: _ :: _, h, _ => exact absurd (by simp) h
theorem hashL_bound (l : List ByteArray) : 1 ≤ (hashL l).length ∧ (hashL l).length ≤ 2 * l.length + 1 := by
  rw [hashL_len _ l rfl]
  split <;> omega
set_option maxHeartbeats 2000000 in
theorem hashed02_fn : ∀ (n : Nat) (l : List ByteArray) (a : Option Addr) (c : Nat), l.length = n → n ≤ 1000 → (∀ s ∈ l, s.size ≤ 800000) → ∀ w : World, Rd w (.slice a l.length c) (strs l) →
    Fn Tryz.prog 21 #[.slice a l.length c] w fun u w' => ∃ z : Option Addr × Nat, True ∧ u = .slice z.1 (hashL l).length z.2 ∧ Mm w [A.grow 9 1 z.1 z.2 (hashL l).length (strs (hashL l))] w' := by
  intro n
  induction n using Nat.strongRecOn with
  | ind n ih =>
  intro l a c hln hnb hs w hR
  refine enterH (l := [_]) rfl Tryz.ntmps21 rfl ?_
  by_cases h0 : l.length = 0
  · have h0' : ((l.length : Nat) : Int) = 0 := by omega
    obtain rfl : l = [] := List.length_eq_zero_iff.1 h0
    refine hwOT ?_
    refine HL.one (H1.lit (cs := [.string ⟨#[]⟩]) rfl rfl rfl rfl rfl rfl (fun b8 => ?_))
    refine hwOT ?_
    refine HX.conv (fun w h => Mm.blkGrow (n := 1) (sz := 1) h rfl (by decide)) ?_
    exact HX.ret1 rfl rfl fun w' hM => ⟨(some ⟨b8, 0, none⟩, 1), trivial, by rw [hashL_nil]; rfl, by rw [hashL_nil]; exact hM⟩
  have h0' : ¬ ((l.length : Nat) : Int) = 0 := by omega
  obtain ⟨b, off, rfl⟩ := rd_addr hR (show 0 < l.length by omega)
  by_cases h1 : l.length = 1
  · have h1' : ((l.length : Nat) : Int) = 1 := by omega
    obtain ⟨x, rfl⟩ := List.length_eq_one_iff.1 h1
    have hc := hR.cell (strs_getB (l := [x]) (i := 0) Nat.zero_lt_one)
    have hsx := hs x (.head _)
    refine hwOT ?_
    refine HL.one (H1.ld0 rfl hc rfl ?_)
    refine hwOT ?_
    refine HL.pa ?_ (POp.cat (s := mkB 0) (u := x) rfl rfl (by show 1 + _ ≤ _; omega))
    refine hwOT ?_
    refine HL.one (H1.lit (cs := [.string (mkB 0 ++ x)]) rfl rfl rfl rfl rfl rfl (fun b8 => ?_))
    refine hwOT ?_
    refine HX.conv (fun w h => Mm.blkGrow (n := 1) (sz := 1) h rfl (by decide)) ?_
    exact HX.ret1 rfl rfl fun w' hM => ⟨(some ⟨b8, 0, none⟩, 1), trivial, by rw [hashL_one]; rfl, by rw [hashL_one]; exact hM⟩
  have h1' : ¬ ((l.length : Nat) : Int) = 1 := by omega
  have h2 : 2 ≤ l.length := by omega
  have hk := leftN_lt h2
  have hk0 := leftN_pos l.length
  obtain ⟨-, hcap⟩ := hR.scap
  have hr := hashL_step h2
  have hRt : ∀ w', Ext w w' → Rd w' (.slice (some ⟨b, off, none⟩) (l.take (leftN l.length)).length c) (strs (l.take (leftN l.length))) := fun w' hx => by
    have := (hR.ext hx).spre (k := leftN l.length) (by omega)
    rw [List.length_take, Nat.min_eq_left (by omega)]; exact this
  have hRd : ∀ w', Ext w w' → Rd w' (.slice (some ⟨b, off + leftN l.length, none⟩) (l.drop (leftN l.length)).length (c - leftN l.length)) (strs (l.drop (leftN l.length))) := fun w' hx => by
    have := (hR.ext hx).sdrop (k := leftN l.length) (by omega)
    rw [List.length_drop]; exact this
  have lt1 : (l.take (leftN l.length)).length = leftN l.length := by rw [List.length_take, Nat.min_eq_left (by omega)]
  have ld1 : (l.drop (leftN l.length)).length = l.length - leftN l.length := by rw [List.length_drop]
  have bt := hashL_bound (l.take (leftN l.length))
  have bd := hashL_bound (l.drop (leftN l.length))
  rw [lt1] at bt
  rw [ld1] at bd
  have mt : (mroot (l.take (leftN l.length))).size = 32 := mroot_size _
  have md : (mroot (l.drop (leftN l.length))).size = 32 := mroot_size _
  have iht : ∀ w', Ext w w' → Fn Tryz.prog 21 #[.slice (some ⟨b, off, none⟩) (leftN l.length) c] w' fun u w'' => ∃ z : Option Addr × Nat, True ∧ u = .slice z.1 (hashL (l.take (leftN l.length))).length z.2 ∧ Mm w' [A.grow 9 1 z.1 z.2 (hashL (l.take (leftN l.length))).length (strs (hashL (l.take (leftN l.length))))] w'' := fun w' hx => by
    have h := ih (l.take (leftN l.length)).length (by omega) (l.take (leftN l.length)) (some ⟨b, off, none⟩) c rfl (by omega) (fun s hsm => hs s (List.mem_of_mem_take hsm)) w' (hRt w' hx)
    rw [lt1] at h; exact h
  have ihd : ∀ w', Ext w w' → Fn Tryz.prog 21 #[.slice (some ⟨b, off + leftN l.length, none⟩) (l.length - leftN l.length) (c - leftN l.length)] w' fun u w'' => ∃ z : Option Addr × Nat, True ∧ u = .slice z.1 (hashL (l.drop (leftN l.length))).length z.2 ∧ Mm w' [A.grow 9 1 z.1 z.2 (hashL (l.drop (leftN l.length))).length (strs (hashL (l.drop (leftN l.length))))] w'' := fun w' hx => by
    have h := ih (l.drop (leftN l.length)).length (by omega) (l.drop (leftN l.length)) (some ⟨b, off + leftN l.length, none⟩) (c - leftN l.length) rfl (by omega) (fun s hsm => hs s (List.mem_of_mem_drop hsm)) w' (hRd w' hx)
    rw [ld1] at h; exact h
  have rot : ∀ w', Ext w w' → Fn Tryz.prog 49 #[.slice (some ⟨b, off, none⟩) (leftN l.length) c] w' fun u w'' => u = .string (mroot (l.take (leftN l.length))) ∧ Ext w' w'' := fun w' hx => by
    have h := root02_fn (l.take (leftN l.length)).length (l.take (leftN l.length)) (some ⟨b, off, none⟩) c rfl (by omega) (fun s hsm => hs s (List.mem_of_mem_take hsm)) w' (hRt w' hx)
    rw [lt1] at h; exact h
  have rod : ∀ w', Ext w w' → Fn Tryz.prog 49 #[.slice (some ⟨b, off + leftN l.length, none⟩) (l.length - leftN l.length) (c - leftN l.length)] w' fun u w'' => u = .string (mroot (l.drop (leftN l.length))) ∧ Ext w' w'' := fun w' hx => by
    have h := root02_fn (l.drop (leftN l.length)).length (l.drop (leftN l.length)) (some ⟨b, off + leftN l.length, none⟩) (c - leftN l.length) rfl (by omega) (fun s hsm => hs s (List.mem_of_mem_drop hsm)) w' (hRd w' hx)
    rw [ld1] at h; exact h
  have hcl : Value.slice (some ⟨b, off + ((leftN l.length : Nat) : Int).toNat * 1, none⟩) (l.length - ((leftN l.length : Nat) : Int).toNat) (c - ((leftN l.length : Nat) : Int).toNat) = .slice (some ⟨b, off + leftN l.length, none⟩) (l.length - leftN l.length) (c - leftN l.length) := by rw [Int.toNat_natCast, Nat.mul_one]
  rw [hr]
  generalize hashL (l.take (leftN l.length)) = Ht at iht bt
  generalize hashL (l.drop (leftN l.length)) = Hd at ihd bd
  generalize mroot (l.take (leftN l.length)) = rt at rot mt
  generalize mroot (l.drop (leftN l.length)) = rd at rod md
  have hz1 : (mkB 1 ++ rt).size = 33 := by rw [ByteArray.size_append, mt]; rfl
  have happ : strs Ht ++ strs Hd = strs (Ht ++ Hd) := by unfold strs; rw [List.map_append]
  have hsnoc : strs (Ht ++ Hd) ++ [.string (mkB 1 ++ rt ++ rd)] = strs (Ht ++ Hd ++ [mkB 1 ++ rt ++ rd]) := by unfold strs; rw [List.map_append (l₁ := Ht ++ Hd)]; rfl
  have hlen : (Ht ++ Hd ++ [mkB 1 ++ rt ++ rd]).length = Ht.length + Hd.length + 1 := by rw [List.length_append, List.length_append]; rfl
  refine hwOT ?_
  refine HL.one (H1.callx (vs := [_]) rfl rfl (fun w' hM => left02_fn l.length h2 (by omega) w') ?_)
  refine hwOT ?_
  refine HC.cut (α := Option Addr × Nat) (fun z => [(0, .slice (some ⟨b, off, none⟩) l.length c), (3, zv (leftN l.length : Int)), (4, .slice z.1 (Ht.length + Hd.length) z.2)]) (fun z => [A.grow 9 1 z.1 z.2 (Ht.length + Hd.length) (strs (Ht ++ Hd))]) (fun _ => True) ?_ ?_
  · refine HC.any rfl ?_
    refine HA.pa 0 rfl ?_
    refine HA.pa 1 rfl ?_
    refine HA.pa 2 rfl ?_
    refine HA.pa 4 rfl ?_
    refine HA.pa 5 rfl ?_
    refine HA.pa 6 rfl ?_ ((POp.cut_l rfl rfl (by omega) (by omega) (by omega)).of hcl)
    refine HA.all [3] (by kernel_rfl) rfl ⟨⟨_, rfl, ?_⟩, trivial⟩
    refine HO.one ?_
    refine H1.callz (α := Option Addr × Nat) (V := fun z => .slice z.1 Ht.length z.2) (Hn := fun z => [A.grow 9 1 z.1 z.2 Ht.length (strs Ht)]) (I := fun _ => True) (vs := [_]) rfl rfl (fun w' hM => iht w' hM.ext) ?_
    rintro ⟨a3, c3⟩ -
    apply HA.fold
    refine HA.all [7] (by kernel_rfl) rfl ⟨⟨_, rfl, ?_⟩, trivial⟩
    refine HO.one ?_
    refine H1.callz (α := Option Addr × Nat) (V := fun z => .slice z.1 Hd.length z.2) (Hn := fun z => [A.grow 9 1 z.1 z.2 Hd.length (strs Hd)]) (I := fun _ => True) (vs := [_]) rfl rfl (fun w' hM => ihd w' hM.ext) ?_
    rintro ⟨a7, c7⟩ -
    refine HN.openg24 (e := 9) (sz := 1) (a := a7) (c := c7) (n := Hd.length) (xs := strs Hd) memA (by omega) ?_
    rintro b7 rfl
    apply HA.fold
    refine HA.all [8] (by kernel_rfl) rfl ⟨⟨_, rfl, ?_⟩, trivial⟩
    refine HO.one ?_
    refine H1.app (sz := 1) (m := Hd.length) (news := strs Hd) rfl (by decide) rfl rfl (fun _ _ => by first | ((repeat (first | with_reducible exact Rpl.here | with_reducible apply Rpl.there)); done) | (repeat (first | exact Rpl.here | apply Rpl.there))) (by rw [strs_len, Nat.mul_one]) (fun w' hM j u hu => by rw [add_lit, Nat.zero_add]; exact ownsRow_cell (hM.own (e := 9) (sz := 1) (a := some ⟨b7, 0, none⟩) (c := c7) (n := Hd.length) (xs := strs Hd) memA) hu) (fun u hu => by
        obtain ⟨s, -, rfl⟩ := List.mem_map.1 hu
        rfl) (by omega) (by decide) rfl (fun a8 c8 _ => ?_)
    rw [happ]
    apply HA.fold
    refine HA.pa 9 rfl ?_
    refine HA.done (by kernel_rfl) ?_
    exact HX.cut (a8, c8) trivial esA (by repeat (first | exact Hs.nil _ | (refine Hs.cons pickA ?_)))
  rintro ⟨a8, c8⟩ -
  dsimp only
  repeat refine HC.seq ?_
  refine HC.any rfl ?_
  refine HA.pa 0 rfl ?_
  refine HA.pa 1 rfl ?_
  refine HA.pa 2 rfl ?_
  refine HA.pa 3 rfl ?_
  refine HA.pa 6 rfl ?_
  refine HA.pa 7 rfl ?_
  refine HA.pa 8 rfl ?_ ((POp.cut_l rfl rfl (by omega) (by omega) (by omega)).of hcl)
  refine HA.all [4] (by kernel_rfl) rfl ⟨⟨_, rfl, ?_⟩, trivial⟩
  refine HO.one ?_
  refine H1.callx (vs := [_]) rfl rfl (fun w' hM => rot w' hM.ext) ?_
  apply HA.fold
  refine HA.pa 5 rfl ?_ (POp.cat (s := mkB 1) (u := rt) rfl rfl (by rw [mt]; decide))
  refine HA.all [9] (by kernel_rfl) rfl ⟨⟨_, rfl, ?_⟩, trivial⟩
  refine HO.one ?_
  refine H1.callx (vs := [_]) rfl rfl (fun w' hM => rod w' hM.ext) ?_
  apply HA.fold
  refine HA.pa 10 rfl ?_ (POp.cat (s := mkB 1 ++ rt) (u := rd) rfl rfl (by rw [hz1, md]; decide))
  refine HA.all [11] (by kernel_rfl) rfl ⟨⟨_, rfl, ?_⟩, trivial⟩
  refine HO.one ?_
  refine H1.lit (cs := [.string (mkB 1 ++ rt ++ rd)]) rfl rfl rfl rfl rfl rfl (fun b11 => ?_)
  apply HA.fold
  refine HA.all [12] (by kernel_rfl) rfl ⟨⟨_, rfl, ?_⟩, trivial⟩
  refine HO.one ?_
  refine H1.app1 (u := .string (mkB 1 ++ rt ++ rd)) rfl rfl (fun _ _ => by first | ((repeat (first | with_reducible exact Rpl.here | with_reducible apply Rpl.there)); done) | (repeat (first | exact Rpl.here | apply Rpl.there))) memA rfl rfl (by omega) rfl rfl (fun a9 c9 => ?_)
  rw [hsnoc]
  apply HA.fold
  refine HA.pa 13 rfl ?_
  refine HA.done (by kernel_rfl) ?_
  refine hwOT ?_
  exact HX.ret1 rfl rfl fun w' hM => ⟨(some ⟨a9, 0, none⟩, c9), trivial, by rw [hlen], by rw [hlen]; exact hM.sub (by repeat (first | exact Hs.nil _ | (refine Hs.cons pickA ?_)))⟩
end Go.Sx
/- Chapter 24: the reference's Collided, and its leaves: the walk. -/
namespace Go.Sx
open Go Go.Proofs Go.RowKit
theorem hwOU {G G2 : Prop} (x : G2) (hwq : Hold G2 → G := by
    intro hQq
    repeat' (first | refine HL.pa ?_ (POp.nilCheck rfl) | apply HL.fold | apply HA.fold | apply HL.nil | apply HX.n_then | apply HC.seq | apply HC.region | refine HL.pa ?_ | refine HL.ga rfl ?_ | refine HL.na rfl ?_ | refine HL.nu rfl rfl ?_ | apply HC.block | apply HC.skip | apply HC.exit | apply HC.ret | apply HX.e_block | refine HX.e_other rfl ?_ | apply HX.e_then | apply HX.e_again | apply HX.n_block | apply HX.r_then | apply HX.r_block | apply HX.r_again | refine HC.cond_yes rfl ?_ | refine HC.cond_no rfl ?_ | refine HL.one (H1.ldb rfl memA rfl rfl ?_) | refine HC.cond rfl (fun hc => ?_) (fun hc => ?_) | refine HC.cond_b rfl (fun hc => ?_) (fun hc => ?_))
    exact hQq.get) : G := hwq ⟨x⟩
/-- Two different strings have the same digest. -/
def colB (a b : List ByteArray) : Bool := a.any fun x => b.any fun y => !decide (x = y) && decide (sumS x = sumS y)
theorem colB_iff {a b : List ByteArray} : colB a b = true ↔ ColP a b := by
  unfold colB ColP
  rw [List.any_eq_true]
  refine exists_congr fun x => and_congr_right fun _ => ?_
  rw [List.any_eq_true]
  refine exists_congr fun y => and_congr_right fun _ => ?_
  rw [Bool.and_eq_true, Bool.not_eq_true', decide_eq_false_iff_not, decide_eq_true_eq]
theorem any_takeB {l : List ByteArray} {k : Nat} (h : k < l.length) (p : ByteArray → Bool) : (l.take (k + 1)).any p = ((l.take k).any p || p (getB l k)) := by
  rw [take_getB h, List.any_append]; simp
theorem any_stopB {l : List ByteArray} {k : Nat} (h : k < l.length) {p : ByteArray → Bool} (hp : p (getB l k) = true) : l.any p = true := List.any_eq_true.2 ⟨_, getB_mem h, hp⟩
attribute [local irreducible] WC WL WX POp Then Again Fn NX W1 WA WO QL RP RA Yld LoopAt HC HL HX HN H1 HA HO HQ HB HP A.blk A.grow A.rd A.obj A.mp AgainH CutH
attribute [local irreducible] A.mq A.mit A.all sumS
set_option maxHeartbeats 2000000 in
theorem collided02_fn (v u : Value) (a b : List ByteArray) (hla : a.length ≤ 100000) (hlb : b.length ≤ 100000) (hsa : ∀ s ∈ a, s.size ≤ 900000) (hsb : ∀ s ∈ b, s.size ≤ 900000) (w : World) (hA : Rd w v (strs a)) (hB : Rd w u (strs b)) :
    Fn Tryz.prog 20 #[v, u] w fun r w' => r = .bool (colB a b) ∧ Ext w w' := by
  obtain ⟨aa, ca, rfl⟩ : ∃ a' c', v = .slice a' a.length c' := by
    obtain ⟨a', c', h1, -⟩ := id hA
    rw [strs_len] at h1
    exact ⟨a', c', h1⟩
  obtain ⟨ab, cb, rfl⟩ : ∃ a' c', u = .slice a' b.length c' := by
    obtain ⟨a', c', h1, -⟩ := id hB
    rw [strs_len] at h1
    exact ⟨a', c', h1⟩
  refine enterH (l := [_, _]) rfl Tryz.ntmps20 rfl ?_
  refine hwOU ?_
  refine HC.grow0 9 1 ?_
  refine HC.loop (α := Nat × Option Addr × Nat) (fun q => [(0, .slice aa a.length ca), (1, .slice ab b.length cb), (5, .slice q.2.1 q.1 q.2.2), (6, zv (q.1 : Int))]) (fun q => [A.grow 9 1 q.2.1 q.2.2 q.1 (strs ((b.take q.1).map sumS))]) (fun q => q.1 ≤ b.length) (fun q => b.length - q.1) (0, none, 0) (Nat.zero_le _) esA (by repeat (first | exact Hs.nil _ | (refine Hs.cons pickA ?_))) ?_
  rintro ⟨k, az, cz⟩ hk
  dsimp only at hk ⊢
  by_cases hkl : k < b.length
  · have hkn : ((k : Nat) : Int) < (b.length : Int) := by omega
    obtain ⟨b1, off1, rfl⟩ := rd_addr hB hkl
    have hc := hB.cell (strs_getB hkl)
    have hsz := hsb _ (getB_mem hkl)
    have hst : strs ((b.take k).map sumS) ++ [.string (sumS (getB b k))] = strs ((b.take (k + 1)).map sumS) := by
      rw [take_getB hkl, List.map_append, strs_snoc]; rfl
    generalize getB b k = y at hc hsz hst
    refine hwOU ?_
    refine HL.one (H1.ld0 rfl hc rfl ?_)
    refine hwOU ?_
    refine HL.one (H1.callx (vs := [_]) rfl rfl (fun w' hM => refSum_fn y hsz w') ?_)
    refine hwOU ?_
    refine HL.one (H1.lit (cs := [.string (sumS y)]) rfl rfl rfl rfl rfl rfl (fun b8 => ?_))
    refine hwOU ?_
    refine HL.one (H1.app1 (u := .string (sumS y)) rfl rfl (fun _ _ => by first | ((repeat (first | with_reducible exact Rpl.here | with_reducible apply Rpl.there)); done) | (repeat (first | exact Rpl.here | apply Rpl.there))) memA rfl rfl (by omega) rfl rfl (fun a' c' => ?_))
    rw [hst]
    refine hwOU ?_
    exact HX.again (k + 1, some ⟨a', 0, none⟩, c') hkl (by show b.length - (k + 1) < b.length - k; omega) esA (by repeat (first | exact Hs.nil _ | (refine Hs.cons pickA ?_)))
  have hkn : ¬ ((k : Nat) : Int) < (b.length : Int) := by omega
  have e : k = b.length := by omega
  rw [e, List.take_length]
  have hml : (b.map sumS).length = b.length := List.length_map ..
  refine hwOU ?_
  refine HC.loop (α := Nat) (fun i => [(0, .slice aa a.length ca), (1, .slice ab b.length cb), (5, .slice az b.length cz), (7, zv (i : Int))]) (fun _ => [A.grow 9 1 az cz b.length (strs (b.map sumS))]) (fun i => i ≤ a.length ∧ (a.take i).any (fun x => b.any fun y => !decide (x = y) && decide (sumS x = sumS y)) = false) (fun i => a.length - i) 0 ⟨Nat.zero_le _, by simp⟩ esA (by repeat (first | exact Hs.nil _ | (refine Hs.cons pickA ?_))) ?_
  rintro i ⟨hi, hI⟩
  by_cases hil : i < a.length
  · have hin : ((i : Nat) : Int) < (a.length : Int) := by omega
    obtain ⟨b2, off2, rfl⟩ := rd_addr hA hil
    have hc := hA.cell (strs_getB hil)
    have hsz := hsa _ (getB_mem hil)
    have hstop := any_stopB (p := fun x => b.any fun y => !decide (x = y) && decide (sumS x = sumS y)) hil
    have htk := any_takeB hil fun x => b.any fun y => !decide (x = y) && decide (sumS x = sumS y)
    rw [hI, Bool.false_or] at htk
    generalize getB a i = x at hc hsz hstop htk
    refine hwOU ?_
    refine HL.one (H1.ld0 rfl hc rfl ?_)
    refine hwOU ?_
    refine HL.one (H1.callx (vs := [_]) rfl rfl (fun w' hM => refSum_fn x hsz w') ?_)
    refine hwOU ?_
    refine HC.loop (α := Nat) (fun k => [(0, .slice (some ⟨b2, off2, none⟩) a.length ca), (1, .slice ab b.length cb), (5, .slice az b.length cz), (7, zv (i : Int)), (8, .string (sumS x)), (9, zv (k : Int))]) (fun _ => [A.grow 9 1 az cz b.length (strs (b.map sumS))]) (fun k => k ≤ b.length ∧ (b.take k).any (fun y => !decide (x = y) && decide (sumS x = sumS y)) = false) (fun k => b.length - k) 0 ⟨Nat.zero_le _, by simp⟩ esA (by repeat (first | exact Hs.nil _ | (refine Hs.cons pickA ?_))) ?_
    clear hkl hkn e hk k
    rintro k ⟨hk, hJ⟩
    by_cases hkl : k < b.length
    · have hkn : ((k : Nat) : Int) < (b.length : Int) := by omega
      obtain ⟨b1, off1, rfl⟩ := rd_addr hB hkl
      have hcy := hB.cell (strs_getB hkl)
      refine HC.openg (e := 9) (sz := 1) (a := az) (c := cz) (n := b.length) (xs := strs (b.map sumS)) memA (by omega) ?_
      rintro bz rfl
      have hgz : (strs (b.map sumS))[k]? = some (.string (sumS (getB b k))) := by
        rw [strs_getB (by rw [hml]; exact hkl)]
        unfold getB
        simp [hkl]
      have hone := any_stopB (p := fun y => !decide (x = y) && decide (sumS x = sumS y)) hkl
      have htk2 := any_takeB hkl fun y => !decide (x = y) && decide (sumS x = sumS y)
      rw [hJ, Bool.false_or] at htk2
      generalize getB b k = y at hcy hgz hone htk2
      refine hwOU ?_
      repeat refine HC.seq ?_
      refine HC.quietS [(some 41, [0], []), (some 42, [7], []), (some 43, [41, 42], [0, 1]), (some 44, [43], [2]), (some 45, [1], []), (some 46, [9], []), (some 47, [45, 46], [4, 5]), (some 48, [47], [6]), (some 49, [44, 48], [3, 7]), (some 50, [49], [8]), (some 51, [8, 50], [9]), (some 52, [5, 50], [9]), (some 53, [9, 50], [9]), (some 54, [52, 53, 50], [11, 12, 9]), (some 55, [54, 50], [13, 9]), (some 56, [51, 55, 50], [10, 14, 9]), (some 57, [50, 56], [9, 15])] (by kernel_rfl) (by kernel_rfl) (by kernel_rfl) ?_
      repeat' (first | refine HQ.pa ?_ | refine HQ.ga rfl ?_ | refine HQ.na rfl ?_ | refine HQ.nu rfl ?_ | refine HQ.ldb rfl memA rfl rfl ?_)
      refine HQ.ld (a := ⟨b2, off2 + i, none⟩) rfl (fun w' hM => cell_ext hM.ext hc) rfl ?_
      repeat' (first | refine HQ.pa ?_ | refine HQ.ga rfl ?_ | refine HQ.na rfl ?_ | refine HQ.nu rfl ?_ | refine HQ.ldb rfl memA rfl rfl ?_)
      refine HQ.ld (a := ⟨b1, off1 + k, none⟩) rfl (fun w' hM => cell_ext hM.ext hcy) rfl ?_
      by_cases hxy : x = y
      · rw [decide_eq_true hxy] at htk2
        subst hxy
        repeat' (first | refine HQ.pa ?_ | refine HQ.ga rfl ?_ | refine HQ.na rfl ?_ | refine HQ.nu rfl ?_ | refine HQ.ldb rfl memA rfl rfl ?_)
        refine HQ.nil ?_
        refine hwOU ?_
        exact HX.again (k + 1) ⟨hkl, htk2⟩ (by show b.length - (k + 1) < b.length - k; omega) esA (by repeat (first | exact Hs.nil _ | (refine Hs.cons pickA ?_)))
      · rw [decide_eq_false hxy, Bool.not_false, Bool.true_and] at hone htk2
        repeat' (first | refine HQ.pa ?_ | refine HQ.ga rfl ?_ | refine HQ.na rfl ?_ | refine HQ.nu rfl ?_ | refine HQ.ldb rfl memA rfl rfl ?_)
        refine HQ.ld (a := ⟨bz, k, none⟩) rfl (fun w' hM => ownsRow_cell (hM.own (e := 9) (sz := 1) (a := some ⟨bz, 0, none⟩) (c := cz) (n := b.length) (xs := strs (b.map sumS)) memA) hgz) rfl ?_
        by_cases hss : sumS x = sumS y
        · repeat' (first | refine HQ.pa ?_ | refine HQ.ga rfl ?_ | refine HQ.na rfl ?_ | refine HQ.nu rfl ?_ | refine HQ.ldb rfl memA rfl rfl ?_)
          refine HQ.nil ?_
          refine hwOU ?_
          exact HX.ret1 rfl rfl fun w' hM => ⟨by rw [show colB a b = true from hstop (hone (decide_eq_true hss))], hM.ext⟩
        · rw [decide_eq_false hss] at htk2
          repeat' (first | refine HQ.pa ?_ | refine HQ.ga rfl ?_ | refine HQ.na rfl ?_ | refine HQ.nu rfl ?_ | refine HQ.ldb rfl memA rfl rfl ?_)
          refine HQ.nil ?_
          refine hwOU ?_
          exact HX.again (k + 1) ⟨hkl, htk2⟩ (by show b.length - (k + 1) < b.length - k; omega) esA (by repeat (first | exact Hs.nil _ | (refine Hs.cons pickA ?_)))
    have hkn : ¬ ((k : Nat) : Int) < (b.length : Int) := by omega
    have e : k = b.length := by omega
    rw [e, List.take_length] at hJ
    rw [hJ] at htk
    refine hwOU ?_
    exact HX.again (i + 1) ⟨hil, htk⟩ (by show a.length - (i + 1) < a.length - i; omega) esA (by repeat (first | exact Hs.nil _ | (refine Hs.cons pickA ?_)))
  have hin : ¬ ((i : Nat) : Int) < (a.length : Int) := by omega
  have e2 : i = a.length := by omega
  rw [e2, List.take_length] at hI
  refine hwOU ?_
  exact HX.ret1 rfl rfl fun w' hM => ⟨by rw [show colB a b = false from hI], hM.ext⟩
end Go.Sx
/- Chapter 24: the reference's leaf: the walk. -/
namespace Go.Sx
open Go Go.Proofs Go.RowKit
theorem hwOW {G G2 : Prop} (x : G2) (hwq : Hold G2 → G := by
    intro hQq
    repeat' (first | refine HL.pa ?_ (POp.nilCheck rfl) | apply HL.fold | apply HA.fold | apply HL.nil | apply HX.n_then | apply HC.seq | apply HC.region | refine HL.pa ?_ | refine HL.ga rfl ?_ | refine HL.na rfl ?_ | refine HL.nu rfl rfl ?_ | apply HC.block | apply HC.skip | apply HC.exit | apply HC.ret | apply HX.e_block | refine HX.e_other rfl ?_ | apply HX.e_then | apply HX.e_again | apply HX.n_block | apply HX.r_then | apply HX.r_block | apply HX.r_again | refine HC.cond_yes rfl ?_ | refine HC.cond_no rfl ?_ | refine HL.one (H1.ldb rfl memA rfl rfl ?_) | refine HC.cond rfl (fun hc => ?_) (fun hc => ?_) | refine HC.cond_b rfl (fun hc => ?_) (fun hc => ?_))
    exact hQq.get) : G := hwq ⟨x⟩
theorem rn_num {x : Int} (h0 : 0 ≤ x) (h1 : x ≤ 1099511627776) : rnB x = numB x := by
  unfold rnB numB strN putN mkBA zz24
  rw [if_pos ⟨by omega, by omega⟩, if_pos h0]
  rw [show (2 * x).toNat = 2 * x.toNat by omega]
theorem rns_num {l : List Int} (h : ∀ x ∈ l, 0 ≤ x ∧ x ≤ 1099511627776) : rnsB l = numsB l := by
  revert h
  refine snocI (p := fun l => (∀ x ∈ l, 0 ≤ x ∧ x ≤ 1099511627776) → rnsB l = numsB l) (fun _ => rfl) (fun l x ih h => ?_) l
  have hx := h x (List.mem_append_right _ (.head _))
  rw [rnsB_snoc, numsB_snoc, ih fun y hy => h y (List.mem_append_left _ hy), rn_num hx.1 hx.2]
theorem numsB_add (l m : List Int) : numsB (l ++ m) = numsB l ++ numsB m := by
  refine snocI (p := fun m => numsB (l ++ m) = numsB l ++ numsB m) ?_ (fun m x ih => ?_) m
  · rw [List.append_nil]
    show numsB l = numsB l ++ ⟨#[]⟩
    exact (ByteArray.append_empty).symm
  · rw [← List.append_assoc, numsB_snoc, ih, numsB_snoc, ByteArray.append_assoc]
theorem leaf_rn {n : Nd} (hn : NdOk n) (d : ByteArray) : rnsB [n.id, n.kind, n.pack, (n.src.length : Int)] ++ rnsB n.src ++ d = leafB n d := by
  unfold leafB leafN
  rw [numsB_add, rns_num fun x hx => hn.num x (List.mem_append_left _ hx), rns_num fun x hx => hn.num x (List.mem_append_right _ hx)]
attribute [local irreducible] WC WL WX POp Then Again Fn NX W1 WA WO QL RP RA Yld LoopAt HC HL HX HN H1 HA HO HQ HB HP A.blk A.grow A.rd A.obj A.mp AgainH CutH
attribute [local irreducible] A.mq A.mit A.all sumS rnsB
set_option maxHeartbeats 2000000 in
theorem leaf24_fn (n : Nd) (v : Value) (d : ByteArray) (hn : NdOk n) (hd : d.size ≤ 1000) (w : World) (hS : Rd w v (ints n.src)) :
    Fn Tryz.prog 47 #[ndV n v, .string d] w fun u w' => u = .string (leafB n d) ∧ Ext w w' := by
  obtain ⟨a, c, rfl, hc⟩ := hS.isInts
  have hl := hn.len
  have hi : ∀ x ∈ leafN n, i64W x := fun x hx => by have := hn.num x hx; unfold i64W; omega
  have z1 := rnsB_size [n.id, n.kind, n.pack, (n.src.length : Int)]
  have z2 := rnsB_size n.src
  rw [show [n.id, n.kind, n.pack, (n.src.length : Int)].length = 4 from rfl] at z1
  have z3 : (rnsB [n.id, n.kind, n.pack, (n.src.length : Int)] ++ rnsB n.src).size ≤ 1000 := by rw [ByteArray.size_append]; omega
  rw [← leaf_rn hn d]
  refine enterH (l := [_, _]) rfl Tryz.ntmps47 rfl ?_
  unfold ndV
  refine hwOW ?_
  refine HL.one (H1.boxAgg (cs := [zv n.id, zv n.kind, zv n.pack, .slice a n.src.length c]) rfl rfl (fun b2 => ?_))
  refine hwOW ?_
  refine HC.anyC ([(⟨b2, 0, none⟩, zv n.id), (⟨b2, 1, none⟩, zv n.kind), (⟨b2, 2, none⟩, zv n.pack), (⟨b2, 3, none⟩, .slice a n.src.length c)]) rfl ?_
  refine HB.pa 0 rfl ?_
  refine HB.ld 1 rfl rfl memD ?_
  refine HB.pa 2 rfl ?_
  refine HB.ld 3 rfl rfl memD ?_
  refine HB.pa 4 rfl ?_
  refine HB.ld 5 rfl rfl memD ?_
  refine HB.pa 6 rfl ?_
  refine HB.ld 7 rfl rfl memD ?_
  refine HB.pa 8 rfl ?_
  refine HB.pa 11 rfl ?_
  refine HB.ld 12 rfl rfl memD ?_
  refine HB.pa 15 rfl ?_
  refine HB.all (by repeat (first | exact Keep.nil | refine Keep.blk (by (repeat (first | exact List.Mem.head _ | apply List.Mem.tail)); done) rfl ?_ | refine Keep.grow (by (repeat (first | exact List.Mem.head _ | apply List.Mem.tail)); done) (by assumption) ?_ | refine Keep.base (by assumption) ?_)) [9] (by kernel_rfl) rfl ⟨⟨_, rfl, ?_⟩, trivial⟩
  refine HP.one ?_
  refine H1.lit (cs := ints [n.id, n.kind, n.pack, (n.src.length : Int)]) rfl rfl rfl rfl rfl rfl (fun b9 => ?_)
  apply HB.fold
  refine HB.all (by repeat (first | exact Keep.nil | refine Keep.blk (by (repeat (first | exact List.Mem.head _ | apply List.Mem.tail)); done) rfl ?_ | refine Keep.grow (by (repeat (first | exact List.Mem.head _ | apply List.Mem.tail)); done) (by assumption) ?_ | refine Keep.base (by assumption) ?_)) [10] (by kernel_rfl) rfl ⟨⟨_, rfl, ?_⟩, trivial⟩
  refine HP.one ?_
  refine H1.callx (vs := [_]) rfl rfl (fun w' hM => numbers24_fn (.slice (some ⟨b9, 0, none⟩) 4 4) [n.id, n.kind, n.pack, (n.src.length : Int)] (by show 4 ≤ _; omega) (fun x hx => hi x (List.mem_append_left _ hx)) w' (blk_rd (hM.blk (b := b9) memA) rfl)) ?_
  apply HB.fold
  refine HB.all (by repeat (first | exact Keep.nil | refine Keep.blk (by (repeat (first | exact List.Mem.head _ | apply List.Mem.tail)); done) rfl ?_ | refine Keep.grow (by (repeat (first | exact List.Mem.head _ | apply List.Mem.tail)); done) (by assumption) ?_ | refine Keep.base (by assumption) ?_)) [13] (by kernel_rfl) rfl ⟨⟨_, rfl, ?_⟩, trivial⟩
  refine HP.one ?_
  refine H1.callx (vs := [_]) rfl rfl (fun w' hM => numbers24_fn (.slice a n.src.length c) n.src (by omega) (fun x hx => hi x (List.mem_append_right _ hx)) w' (hS.ext hM.ext)) ?_
  apply HB.fold
  refine HB.pa 14 rfl ?_ (POp.cat (s := rnsB [n.id, n.kind, n.pack, (n.src.length : Int)]) (u := rnsB n.src) rfl rfl (by omega))
  refine HB.pa 16 rfl ?_ (POp.cat (s := rnsB [n.id, n.kind, n.pack, (n.src.length : Int)] ++ rnsB n.src) (u := d) rfl rfl (by omega))
  refine HB.pa 17 rfl ?_
  refine HB.done (by repeat (first | exact Keep.nil | refine Keep.blk (by (repeat (first | exact List.Mem.head _ | apply List.Mem.tail)); done) rfl ?_ | refine Keep.grow (by (repeat (first | exact List.Mem.head _ | apply List.Mem.tail)); done) (by assumption) ?_ | refine Keep.base (by assumption) ?_)) (by kernel_rfl) ?_
  refine hwOW ?_
  exact HX.ret1 rfl rfl fun w' hM => ⟨rfl, hM.ext⟩
end Go.Sx
/- Chapter 24: the reference's id and index: the walk. -/
namespace Go.Sx
open Go Go.Proofs Go.RowKit
theorem hwOY {G G2 : Prop} (x : G2) (hwq : Hold G2 → G := by
    intro hQq
    repeat' (first | refine HL.pa ?_ (POp.nilCheck rfl) | apply HL.fold | apply HA.fold | apply HL.nil | apply HX.n_then | apply HC.seq | apply HC.region | refine HL.pa ?_ | refine HL.ga rfl ?_ | refine HL.na rfl ?_ | refine HL.nu rfl rfl ?_ | apply HC.block | apply HC.skip | apply HC.exit | apply HC.ret | apply HX.e_block | refine HX.e_other rfl ?_ | apply HX.e_then | apply HX.e_again | apply HX.n_block | apply HX.r_then | apply HX.r_block | apply HX.r_again | refine HC.cond_yes rfl ?_ | refine HC.cond_no rfl ?_ | refine HL.one (H1.ldb rfl memA rfl rfl ?_) | refine HC.cond rfl (fun hc => ?_) (fun hc => ?_) | refine HC.cond_b rfl (fun hc => ?_) (fun hc => ?_))
    exact hQq.get) : G := hwq ⟨x⟩
/-- The first place of a number. -/
inductive IxP (l : List Nd) (x k : Int) : Prop
  | no (h : k = -1) (h2 : ∀ i, i < l.length → (ndAt l i).id ≠ x)
  | yes (i : Nat) (h : k = (i : Int)) (hi : i < l.length) (h2 : (ndAt l i).id = x)
attribute [local irreducible] WC WL WX POp Then Again Fn NX W1 WA WO QL RP RA Yld LoopAt HC HL HX HN H1 HA HO HQ HB HP A.blk A.grow A.rd A.obj A.mp AgainH CutH
attribute [local irreducible] A.mq A.mit A.all
theorem id24_fn (x : Int) (w : World) : Fn Tryz.prog 62 #[zv x] w fun u w' => u = .bool (decide (idOk x)) ∧ Ext w w' := by
  refine enterH (l := [_]) rfl Tryz.ntmps62 rfl ?_
  by_cases h1 : x ≥ 1
  · have h1' : 1 ≤ x := h1
    by_cases h2 : x ≤ 1000000
    · refine hwOY ?_
      exact HX.ret1 rfl rfl fun w' hM => ⟨by rw [decide_eq_true h2, decide_eq_true (show idOk x from ⟨h1, h2⟩)], hM.ext⟩
    · refine hwOY ?_
      exact HX.ret1 rfl rfl fun w' hM => ⟨by rw [decide_eq_false h2, decide_eq_false (show ¬ idOk x from fun h => h2 h.2)], hM.ext⟩
  · have h1' : ¬ 1 ≤ x := h1
    refine hwOY ?_
    exact HX.ret1 rfl rfl fun w' hM => ⟨by rw [decide_eq_false (show ¬ idOk x from fun h => h1 h.1)], hM.ext⟩
theorem index24_fn {v : Value} {l : List Nd} {U : Nat → Value} (x : Int) (hl : l.length ≤ 1000000) (w : World) (hR : RdN w v l U) :
    Fn Tryz.prog 63 #[v, zv x] w fun u w' => ∃ k : Int, IxP l x k ∧ u = zv k ∧ Ext w w' := by
  obtain ⟨a, c, rfl, hc, -⟩ := id hR.shape
  refine enterH (l := [_, _]) rfl Tryz.ntmps63 rfl ?_
  refine hwOY ?_
  refine HC.loop (α := Nat) (fun k => [(0, .slice a l.length c), (1, zv x), (5, zv (k : Int))]) (fun _ => []) (fun k => k ≤ l.length ∧ ∀ i, i < k → (ndAt l i).id ≠ x) (fun k => l.length - k) 0 ⟨Nat.zero_le _, fun i h => absurd h (Nat.not_lt_zero _)⟩ esA (Hs.refl _) ?_
  rintro k ⟨hk, hI⟩
  by_cases hlt : k < l.length
  · have hn : ((k : Nat) : Int) < (l.length : Int) := by omega
    obtain ⟨b0, off0, rfl, hb⟩ := hR.cell hlt
    have hc0 := hb k hlt 0 (zv (ndAt l k).id) rfl
    clear hb
    have hst : (ndAt l k).id ≠ x → ∀ i, i < k + 1 → (ndAt l i).id ≠ x := fun h i hi => by
      by_cases e : i = k
      · rw [e]; exact h
      · exact hI i (by omega)
    have hyes : (ndAt l k).id = x → IxP l x (k : Int) := fun h => .yes k rfl hlt h
    generalize (ndAt l k).id = y at hc0 hst hyes
    refine hwOY ?_
    refine HL.one (H1.ld0 rfl hc0 rfl ?_)
    by_cases hx : y = x
    · refine hwOY ?_
      exact HX.ret1 rfl rfl fun w' hM => ⟨_, hyes hx, rfl, hM.ext⟩
    · refine hwOY ?_
      exact HX.again (k + 1) ⟨hlt, hst hx⟩ (by show l.length - (k + 1) < l.length - k; omega) esA (Hs.refl _)
  have hn : ¬ ((k : Nat) : Int) < (l.length : Int) := by omega
  have e : k = l.length := by omega
  rw [e] at hI
  refine hwOY ?_
  exact HX.ret1 rfl rfl fun w' hM => ⟨_, .no rfl hI, rfl, hM.ext⟩
end Go.Sx
/- Chapter 24: the reference's Valid: the walk. -/
namespace Go.Sx
open Go Go.Proofs Go.RowKit
theorem hwOV {G G2 : Prop} (x : G2) (hwq : Hold G2 → G := by
    intro hQq
    repeat' (first | refine HL.pa ?_ (POp.nilCheck rfl) | apply HL.fold | apply HA.fold | apply HL.nil | apply HX.n_then | apply HC.seq | apply HC.region | refine HL.pa ?_ | refine HL.ga rfl ?_ | refine HL.na rfl ?_ | refine HL.nu rfl rfl ?_ | apply HC.block | apply HC.skip | apply HC.exit | apply HC.ret | apply HX.e_block | refine HX.e_other rfl ?_ | apply HX.e_then | apply HX.e_again | apply HX.n_block | apply HX.r_then | apply HX.r_block | apply HX.r_again | refine HC.cond_yes rfl ?_ | refine HC.cond_no rfl ?_ | refine HL.one (H1.ldb rfl memA rfl rfl ?_) | refine HC.cond rfl (fun hc => ?_) (fun hc => ?_) | refine HC.cond_b rfl (fun hc => ?_) (fun hc => ?_))
    exact hQq.get) : G := hwq ⟨x⟩
structure PreV (l : List Nd) (i : Nat) : Prop where
  node : ∀ j, j < i → hasN (l.take j) (ndAt l j) = true
  asc : ∀ a b, a < b → b < i → (ndAt l a).id < (ndAt l b).id
theorem PreV.zero (l : List Nd) : PreV l 0 := ⟨fun j h => absurd h (Nat.not_lt_zero _), fun a b _ h => absurd h (Nat.not_lt_zero _)⟩
theorem PreV.next {l : List Nd} {i : Nat} (h : PreV l i) (h1 : HasP (l.take i) (ndAt l i)) (h2 : 0 < i → (ndAt l (i - 1)).id < (ndAt l i).id) : PreV l (i + 1) := by
  refine ⟨fun j hj => ?_, fun a b hab hb => ?_⟩
  · by_cases e : j = i
    · rw [e]; exact hasN_iff.2 h1
    · exact h.node j (by omega)
  · by_cases e : b = i
    · rw [e]
      have h3 := h2 (by omega)
      by_cases e2 : a = i - 1
      · rw [e2]; exact h3
      · have := h.asc a (i - 1) (by omega) (by omega); omega
    · exact h.asc a b hab (by omega)
theorem PreV.nodup {l : List Nd} {i : Nat} (h : PreV l i) (hi : i ≤ l.length) : (idsN (l.take i)).Nodup := by
  refine ascI_nodup (ascI_iff.2 fun a b hab hb => ?_)
  rw [List.length_take] at hb
  rw [ndAt_takeL (by omega), ndAt_takeL (by omega)]
  exact h.asc a b hab (by omega)
theorem PreV.pk {l : List Nd} {i j : Nat} (h : PreV l i) (hi : i ≤ l.length) (hj : j < i) : pkOf (l.take i) (ndAt l j).id = some (ndAt l j).pack := by
  refine pkOf_uniq (h.nodup hi) ?_
  rw [← ndAt_takeL hj]
  exact mem_nd.2 ⟨j, by rw [List.length_take]; omega, rfl⟩
theorem mem_getI2 {l : List Int} {x : Int} (h : x ∈ l) : ∃ k, k < l.length ∧ x = getI l k := by
  obtain ⟨k, hk, e⟩ := List.mem_iff_getElem.1 h
  exact ⟨k, hk, by rw [← e]; unfold getI; simp [hk]⟩
theorem asc_adj {l : List Int} (h : ∀ k, 0 < k → k < l.length → getI l (k - 1) < getI l k) : AscI l := by
  have h1 : ∀ n, n ≤ l.length → AscI (l.take n) := by
    intro n
    induction n with
    | zero => intro _; exact List.Pairwise.nil
    | succ n ih =>
      intro hn
      cases n with
      | zero =>
        cases l with
        | nil => exact List.Pairwise.nil
        | cons x l => exact List.pairwise_singleton _ _
      | succ n => exact (ascI_step (by omega)).2 ⟨ih (by omega), h (n + 1) (by omega) (by omega)⟩
  have := h1 l.length (Nat.le_refl _)
  rwa [List.take_length] at this
attribute [local irreducible] WC WL WX POp Then Again Fn NX W1 WA WO QL RP RA Yld LoopAt HC HL HX HN H1 HA HO HQ HB HP A.blk A.grow A.rd A.obj A.mp AgainH CutH
attribute [local irreducible] A.mq A.mit A.all
set_option maxHeartbeats 4000000 in
theorem valid24ref_fn {v : Value} {l : List Nd} {U : Nat → Value} (hl : l.length ≤ 400000) (hs : ∀ i, i < l.length → (ndAt l i).src.length ≤ 1000000) (w : World) (hR : RdN w v l U) :
    Fn Tryz.prog 27 #[v] w fun u w' => u = .bool (validN l) ∧ Ext w w' := by
  obtain ⟨a, c, rfl, hc, -⟩ := id hR.shape
  refine enterH (l := [_]) rfl Tryz.ntmps27 rfl ?_
  by_cases h4 : (400 : Int) < (l.length : Int)
  · have hno : validN l = false := by
      rw [← Bool.not_eq_true, validN_iff]; intro h; have := h.len; omega
    refine hwOV ?_
    exact HX.ret1 rfl rfl fun w' hM => ⟨by rw [hno], hM.ext⟩
  refine hwOV ?_
  refine HC.loop (α := Nat) (fun i => [(0, .slice a l.length c), (3, zv (i : Int))]) (fun _ => []) (fun i => i ≤ l.length ∧ PreV l i) (fun i => l.length - i) 0 ⟨Nat.zero_le _, PreV.zero l⟩ esA (Hs.refl _) ?_
  rintro i ⟨hi, hI⟩
  by_cases hlt : i < l.length
  rotate_left
  · have hn : ¬ ((i : Nat) : Int) < (l.length : Int) := by omega
    have e : i = l.length := by omega
    rw [e] at hI
    have hyes : validN l = true := validN_iff.2 ⟨by omega, hI.asc, hI.node⟩
    refine hwOV ?_
    exact HX.ret1 rfl rfl fun w' hM => ⟨by rw [hyes], hM.ext⟩
  have hn : ((i : Nat) : Int) < (l.length : Int) := by omega
  obtain ⟨b0, off0, rfl, hb⟩ := hR.cell hlt
  obtain ⟨asr, cs, hU, hcs⟩ := (hR.src i hlt).isInts
  have hsr := hR.src i hlt
  have hsl := hs i hlt
  have hcell := hb i hlt
  rw [hU] at hsr hcell
  have hprev := fun (h : 0 < i) => hb (i - 1) (by omega) 0 (zv (ndAt l (i - 1)).id) rfl
  have hbad0 : ¬ (HasP (l.take i) (ndAt l i) ∧ (0 < i → (ndAt l (i - 1)).id < (ndAt l i).id)) → validN l = false := fun h => by
    rw [← Bool.not_eq_true, validN_iff]; intro hv
    exact h ⟨hasN_iff.1 (hv.node i hlt), fun h => hv.asc (i - 1) i (by omega) hlt⟩
  have hnext := hI.next
  generalize hN : ndAt l i = nd at hsr hsl hcell hbad0 hnext
  obtain ⟨idn, kn, pn, src⟩ := nd
  dsimp only at hsr hsl hcell hbad0 hnext
  obtain ⟨m, hm⟩ : ∃ m, m = src.length := ⟨_, rfl⟩
  rw [← hm] at hsr hsl hcell
  generalize (ndAt l (i - 1)).id = idp at hprev hbad0 hnext
  refine hwOV ?_
  refine HL.one (H1.ldAggw (vs := ndC ⟨idn, kn, pn, src⟩ (.slice asr m cs)) rfl rfl (fun w' hM j u hu => cell_ext hM.ext (hcell j u hu)) rfl ?_)
  refine hwOV ?_
  refine HL.one (H1.alloc (cs := [zv 0, zv 0, zv 0, .slice none 0 0]) rfl rfl (fun b4 => ?_))
  refine hwOV ?_
  refine HL.one (H1.stAgg (b := b4) (cs := [zv 0, zv 0, zv 0, .slice none 0 0]) (vs := [zv idn, zv kn, zv pn, .slice asr m cs]) rfl rfl rfl (by intro v hv; simp only [List.mem_cons, List.not_mem_nil, or_false] at hv; rcases hv with rfl | rfl | rfl | rfl <;> rfl) rplA rfl ?_)
  refine hwOV ?_
  have hbad : ¬ (idOk idn ∧ idOk pn ∧ 1 ≤ kn ∧ kn ≤ 5 ∧ (0 < i → idp < idn) ∧ m ≤ 8) → validN l = false := fun h => hbad0 fun ⟨h1, h2⟩ => h ⟨h1.id, h1.pack, h1.kind1, h1.kind5, h2, by rw [hm]; exact h1.len⟩
  refine HC.cut (α := Bool) (fun x => [(0, .slice (some ⟨b0, off0, none⟩) l.length c), (3, zv (i : Int)), (4, .pointer (some ⟨b4, 0, none⟩)), (61, .bool x)]) (fun _ => [A.blk b4 [zv idn, zv kn, zv pn, .slice asr m cs] 31]) (fun x => (x = true → validN l = false) ∧ (x = false → idOk idn ∧ idOk pn ∧ 1 ≤ kn ∧ kn ≤ 5 ∧ (0 < i → idp < idn) ∧ m ≤ 8)) ?_ ?_
  · by_cases q1 : idOk idn
    rotate_left
    · refine HC.anyC ([(⟨b4, 0, none⟩, zv idn), (⟨b4, 1, none⟩, zv kn), (⟨b4, 2, none⟩, zv pn), (⟨b4, 3, none⟩, .slice asr m cs)]) rfl ?_
      refine HB.pa 0 rfl ?_
      refine HB.ld 1 rfl rfl memD ?_
      refine HB.all (by repeat (first | exact Keep.nil | refine Keep.blk (by (repeat (first | exact List.Mem.head _ | apply List.Mem.tail)); done) rfl ?_ | refine Keep.grow (by (repeat (first | exact List.Mem.head _ | apply List.Mem.tail)); done) (by assumption) ?_ | refine Keep.base (by assumption) ?_)) [2] (by kernel_rfl) rfl ⟨⟨_, rfl, ?_⟩, trivial⟩
      refine HP.one ?_
      refine H1.callx (u := .bool false) (vs := [_]) rfl rfl (fun w' hM => by
      have h := id24_fn idn w'
      rw [decide_eq_false q1] at h; exact h) ?_
      apply HB.fold
      refine HB.pa 3 rfl ?_
      refine HB.pa 4 rfl ?_
      first | refine HB.ga 5 rfl rfl ?_ | refine HB.na 5 rfl rfl ?_ | refine HB.nu 5 rfl rfl ?_
      first | refine HB.ga 6 rfl rfl ?_ | refine HB.na 6 rfl rfl ?_ | refine HB.nu 6 rfl rfl ?_
      refine HB.all (by repeat (first | exact Keep.nil | refine Keep.blk (by (repeat (first | exact List.Mem.head _ | apply List.Mem.tail)); done) rfl ?_ | refine Keep.grow (by (repeat (first | exact List.Mem.head _ | apply List.Mem.tail)); done) (by assumption) ?_ | refine Keep.base (by assumption) ?_)) [7] (by kernel_rfl) rfl ⟨⟨_, rfl, ?_⟩, trivial⟩
      refine HP.drop_a rfl ?_
      first | refine HB.ga 8 rfl rfl ?_ | refine HB.na 8 rfl rfl ?_ | refine HB.nu 8 rfl rfl ?_
      refine HB.pa 9 rfl ?_
      refine HB.pa 10 rfl ?_
      first | refine HB.ga 11 rfl rfl ?_ | refine HB.na 11 rfl rfl ?_ | refine HB.nu 11 rfl rfl ?_
      first | refine HB.ga 12 rfl rfl ?_ | refine HB.na 12 rfl rfl ?_ | refine HB.nu 12 rfl rfl ?_
      first | refine HB.ga 13 rfl rfl ?_ | refine HB.na 13 rfl rfl ?_ | refine HB.nu 13 rfl rfl ?_
      refine HB.pa 14 rfl ?_
      refine HB.pa 15 rfl ?_
      first | refine HB.ga 16 rfl rfl ?_ | refine HB.na 16 rfl rfl ?_ | refine HB.nu 16 rfl rfl ?_
      first | refine HB.ga 17 rfl rfl ?_ | refine HB.na 17 rfl rfl ?_ | refine HB.nu 17 rfl rfl ?_
      first | refine HB.ga 18 rfl rfl ?_ | refine HB.na 18 rfl rfl ?_ | refine HB.nu 18 rfl rfl ?_
      refine HB.pa 19 rfl ?_
      refine HB.pa 20 rfl ?_
      first | refine HB.ga 21 rfl rfl ?_ | refine HB.na 21 rfl rfl ?_ | refine HB.nu 21 rfl rfl ?_
      first | refine HB.ga 22 rfl rfl ?_ | refine HB.na 22 rfl rfl ?_ | refine HB.nu 22 rfl rfl ?_
      first | refine HB.ga 23 rfl rfl ?_ | refine HB.na 23 rfl rfl ?_ | refine HB.nu 23 rfl rfl ?_
      first | refine HB.ga 24 rfl rfl ?_ | refine HB.na 24 rfl rfl ?_ | refine HB.nu 24 rfl rfl ?_
      first | refine HB.ga 25 rfl rfl ?_ | refine HB.na 25 rfl rfl ?_ | refine HB.nu 25 rfl rfl ?_
      first | refine HB.ga 26 rfl rfl ?_ | refine HB.na 26 rfl rfl ?_ | refine HB.nu 26 rfl rfl ?_
      first | refine HB.ga 27 rfl rfl ?_ | refine HB.na 27 rfl rfl ?_ | refine HB.nu 27 rfl rfl ?_
      first | refine HB.ga 28 rfl rfl ?_ | refine HB.na 28 rfl rfl ?_ | refine HB.nu 28 rfl rfl ?_
      first | refine HB.ga 29 rfl rfl ?_ | refine HB.na 29 rfl rfl ?_ | refine HB.nu 29 rfl rfl ?_
      first | refine HB.ga 30 rfl rfl ?_ | refine HB.na 30 rfl rfl ?_ | refine HB.nu 30 rfl rfl ?_
      first | refine HB.ga 31 rfl rfl ?_ | refine HB.na 31 rfl rfl ?_ | refine HB.nu 31 rfl rfl ?_
      first | refine HB.ga 32 rfl rfl ?_ | refine HB.na 32 rfl rfl ?_ | refine HB.nu 32 rfl rfl ?_
      first | refine HB.ga 33 rfl rfl ?_ | refine HB.na 33 rfl rfl ?_ | refine HB.nu 33 rfl rfl ?_
      refine HB.pa 34 rfl ?_
      refine HB.pa 35 rfl ?_
      first | refine HB.ga 36 rfl rfl ?_ | refine HB.na 36 rfl rfl ?_ | refine HB.nu 36 rfl rfl ?_
      first | refine HB.ga 37 rfl rfl ?_ | refine HB.na 37 rfl rfl ?_ | refine HB.nu 37 rfl rfl ?_
      first | refine HB.ga 38 rfl rfl ?_ | refine HB.na 38 rfl rfl ?_ | refine HB.nu 38 rfl rfl ?_
      first | refine HB.ga 39 rfl rfl ?_ | refine HB.na 39 rfl rfl ?_ | refine HB.nu 39 rfl rfl ?_
      refine HB.pa 40 rfl ?_
      refine HB.done (by repeat (first | exact Keep.nil | refine Keep.blk (by (repeat (first | exact List.Mem.head _ | apply List.Mem.tail)); done) rfl ?_ | refine Keep.grow (by (repeat (first | exact List.Mem.head _ | apply List.Mem.tail)); done) (by assumption) ?_ | refine Keep.base (by assumption) ?_)) (by kernel_rfl) ?_
      exact HX.cut true ⟨fun _ => hbad (fun h => q1 h.1), fun h => (Bool.noConfusion h)⟩ esA (by repeat (first | exact Hs.nil _ | (refine Hs.cons pickA ?_)))
    by_cases q2 : idOk pn
    rotate_left
    · refine HC.anyC ([(⟨b4, 0, none⟩, zv idn), (⟨b4, 1, none⟩, zv kn), (⟨b4, 2, none⟩, zv pn), (⟨b4, 3, none⟩, .slice asr m cs)]) rfl ?_
      refine HB.pa 0 rfl ?_
      refine HB.ld 1 rfl rfl memD ?_
      refine HB.all (by repeat (first | exact Keep.nil | refine Keep.blk (by (repeat (first | exact List.Mem.head _ | apply List.Mem.tail)); done) rfl ?_ | refine Keep.grow (by (repeat (first | exact List.Mem.head _ | apply List.Mem.tail)); done) (by assumption) ?_ | refine Keep.base (by assumption) ?_)) [2] (by kernel_rfl) rfl ⟨⟨_, rfl, ?_⟩, trivial⟩
      refine HP.one ?_
      refine H1.callx (u := .bool true) (vs := [_]) rfl rfl (fun w' hM => by
      have h := id24_fn idn w'
      rw [decide_eq_true q1] at h; exact h) ?_
      apply HB.fold
      refine HB.pa 3 rfl ?_
      refine HB.pa 4 rfl ?_
      first | refine HB.ga 5 rfl rfl ?_ | refine HB.na 5 rfl rfl ?_ | refine HB.nu 5 rfl rfl ?_
      refine HB.ldg 6 rfl rfl rfl memD ?_
      refine HB.all (by repeat (first | exact Keep.nil | refine Keep.blk (by (repeat (first | exact List.Mem.head _ | apply List.Mem.tail)); done) rfl ?_ | refine Keep.grow (by (repeat (first | exact List.Mem.head _ | apply List.Mem.tail)); done) (by assumption) ?_ | refine Keep.base (by assumption) ?_)) [7] (by kernel_rfl) rfl ⟨⟨_, rfl, ?_⟩, trivial⟩
      refine HP.one_a rfl ?_
      refine H1.callx (u := .bool false) (vs := [_]) rfl rfl (fun w' hM => by
      have h := id24_fn pn w'
      rw [decide_eq_false q2] at h; exact h) ?_
      apply HB.fold
      first | refine HB.ga 8 rfl rfl ?_ | refine HB.na 8 rfl rfl ?_ | refine HB.nu 8 rfl rfl ?_
      refine HB.pa 9 rfl ?_
      refine HB.pa 10 rfl ?_
      first | refine HB.ga 11 rfl rfl ?_ | refine HB.na 11 rfl rfl ?_ | refine HB.nu 11 rfl rfl ?_
      first | refine HB.ga 12 rfl rfl ?_ | refine HB.na 12 rfl rfl ?_ | refine HB.nu 12 rfl rfl ?_
      first | refine HB.ga 13 rfl rfl ?_ | refine HB.na 13 rfl rfl ?_ | refine HB.nu 13 rfl rfl ?_
      refine HB.pa 14 rfl ?_
      refine HB.pa 15 rfl ?_
      first | refine HB.ga 16 rfl rfl ?_ | refine HB.na 16 rfl rfl ?_ | refine HB.nu 16 rfl rfl ?_
      first | refine HB.ga 17 rfl rfl ?_ | refine HB.na 17 rfl rfl ?_ | refine HB.nu 17 rfl rfl ?_
      first | refine HB.ga 18 rfl rfl ?_ | refine HB.na 18 rfl rfl ?_ | refine HB.nu 18 rfl rfl ?_
      refine HB.pa 19 rfl ?_
      refine HB.pa 20 rfl ?_
      first | refine HB.ga 21 rfl rfl ?_ | refine HB.na 21 rfl rfl ?_ | refine HB.nu 21 rfl rfl ?_
      first | refine HB.ga 22 rfl rfl ?_ | refine HB.na 22 rfl rfl ?_ | refine HB.nu 22 rfl rfl ?_
      first | refine HB.ga 23 rfl rfl ?_ | refine HB.na 23 rfl rfl ?_ | refine HB.nu 23 rfl rfl ?_
      first | refine HB.ga 24 rfl rfl ?_ | refine HB.na 24 rfl rfl ?_ | refine HB.nu 24 rfl rfl ?_
      first | refine HB.ga 25 rfl rfl ?_ | refine HB.na 25 rfl rfl ?_ | refine HB.nu 25 rfl rfl ?_
      first | refine HB.ga 26 rfl rfl ?_ | refine HB.na 26 rfl rfl ?_ | refine HB.nu 26 rfl rfl ?_
      first | refine HB.ga 27 rfl rfl ?_ | refine HB.na 27 rfl rfl ?_ | refine HB.nu 27 rfl rfl ?_
      first | refine HB.ga 28 rfl rfl ?_ | refine HB.na 28 rfl rfl ?_ | refine HB.nu 28 rfl rfl ?_
      first | refine HB.ga 29 rfl rfl ?_ | refine HB.na 29 rfl rfl ?_ | refine HB.nu 29 rfl rfl ?_
      first | refine HB.ga 30 rfl rfl ?_ | refine HB.na 30 rfl rfl ?_ | refine HB.nu 30 rfl rfl ?_
      first | refine HB.ga 31 rfl rfl ?_ | refine HB.na 31 rfl rfl ?_ | refine HB.nu 31 rfl rfl ?_
      first | refine HB.ga 32 rfl rfl ?_ | refine HB.na 32 rfl rfl ?_ | refine HB.nu 32 rfl rfl ?_
      first | refine HB.ga 33 rfl rfl ?_ | refine HB.na 33 rfl rfl ?_ | refine HB.nu 33 rfl rfl ?_
      refine HB.pa 34 rfl ?_
      refine HB.pa 35 rfl ?_
      first | refine HB.ga 36 rfl rfl ?_ | refine HB.na 36 rfl rfl ?_ | refine HB.nu 36 rfl rfl ?_
      first | refine HB.ga 37 rfl rfl ?_ | refine HB.na 37 rfl rfl ?_ | refine HB.nu 37 rfl rfl ?_
      first | refine HB.ga 38 rfl rfl ?_ | refine HB.na 38 rfl rfl ?_ | refine HB.nu 38 rfl rfl ?_
      first | refine HB.ga 39 rfl rfl ?_ | refine HB.na 39 rfl rfl ?_ | refine HB.nu 39 rfl rfl ?_
      refine HB.pa 40 rfl ?_
      refine HB.done (by repeat (first | exact Keep.nil | refine Keep.blk (by (repeat (first | exact List.Mem.head _ | apply List.Mem.tail)); done) rfl ?_ | refine Keep.grow (by (repeat (first | exact List.Mem.head _ | apply List.Mem.tail)); done) (by assumption) ?_ | refine Keep.base (by assumption) ?_)) (by kernel_rfl) ?_
      exact HX.cut true ⟨fun _ => hbad (fun h => q2 h.2.1), fun h => (Bool.noConfusion h)⟩ esA (by repeat (first | exact Hs.nil _ | (refine Hs.cons pickA ?_)))
    by_cases q3 : kn < 1
    · refine HC.anyC ([(⟨b4, 0, none⟩, zv idn), (⟨b4, 1, none⟩, zv kn), (⟨b4, 2, none⟩, zv pn), (⟨b4, 3, none⟩, .slice asr m cs)]) rfl ?_
      refine HB.pa 0 rfl ?_
      refine HB.ld 1 rfl rfl memD ?_
      refine HB.all (by repeat (first | exact Keep.nil | refine Keep.blk (by (repeat (first | exact List.Mem.head _ | apply List.Mem.tail)); done) rfl ?_ | refine Keep.grow (by (repeat (first | exact List.Mem.head _ | apply List.Mem.tail)); done) (by assumption) ?_ | refine Keep.base (by assumption) ?_)) [2] (by kernel_rfl) rfl ⟨⟨_, rfl, ?_⟩, trivial⟩
      refine HP.one ?_
      refine H1.callx (u := .bool true) (vs := [_]) rfl rfl (fun w' hM => by
      have h := id24_fn idn w'
      rw [decide_eq_true q1] at h; exact h) ?_
      apply HB.fold
      refine HB.pa 3 rfl ?_
      refine HB.pa 4 rfl ?_
      first | refine HB.ga 5 rfl rfl ?_ | refine HB.na 5 rfl rfl ?_ | refine HB.nu 5 rfl rfl ?_
      refine HB.ldg 6 rfl rfl rfl memD ?_
      refine HB.all (by repeat (first | exact Keep.nil | refine Keep.blk (by (repeat (first | exact List.Mem.head _ | apply List.Mem.tail)); done) rfl ?_ | refine Keep.grow (by (repeat (first | exact List.Mem.head _ | apply List.Mem.tail)); done) (by assumption) ?_ | refine Keep.base (by assumption) ?_)) [7] (by kernel_rfl) rfl ⟨⟨_, rfl, ?_⟩, trivial⟩
      refine HP.one_a rfl ?_
      refine H1.callx (u := .bool true) (vs := [_]) rfl rfl (fun w' hM => by
      have h := id24_fn pn w'
      rw [decide_eq_true q2] at h; exact h) ?_
      apply HB.fold
      first | refine HB.ga 8 rfl rfl ?_ | refine HB.na 8 rfl rfl ?_ | refine HB.nu 8 rfl rfl ?_
      refine HB.pa 9 rfl ?_
      refine HB.pa 10 rfl ?_
      first | refine HB.ga 11 rfl rfl ?_ | refine HB.na 11 rfl rfl ?_ | refine HB.nu 11 rfl rfl ?_
      refine HB.ldg 12 rfl rfl rfl memD ?_
      first | refine HB.ga 13 rfl rfl ?_ | refine HB.na 13 rfl rfl ?_ | refine HB.nu 13 rfl rfl ?_
      refine HB.pa 14 rfl ?_
      refine HB.pa 15 rfl ?_
      first | refine HB.ga 16 rfl rfl ?_ | refine HB.na 16 rfl rfl ?_ | refine HB.nu 16 rfl rfl ?_
      first | refine HB.ga 17 rfl rfl ?_ | refine HB.na 17 rfl rfl ?_ | refine HB.nu 17 rfl rfl ?_
      first | refine HB.ga 18 rfl rfl ?_ | refine HB.na 18 rfl rfl ?_ | refine HB.nu 18 rfl rfl ?_
      refine HB.pa 19 rfl ?_
      refine HB.pa 20 rfl ?_
      first | refine HB.ga 21 rfl rfl ?_ | refine HB.na 21 rfl rfl ?_ | refine HB.nu 21 rfl rfl ?_
      first | refine HB.ga 22 rfl rfl ?_ | refine HB.na 22 rfl rfl ?_ | refine HB.nu 22 rfl rfl ?_
      first | refine HB.ga 23 rfl rfl ?_ | refine HB.na 23 rfl rfl ?_ | refine HB.nu 23 rfl rfl ?_
      first | refine HB.ga 24 rfl rfl ?_ | refine HB.na 24 rfl rfl ?_ | refine HB.nu 24 rfl rfl ?_
      first | refine HB.ga 25 rfl rfl ?_ | refine HB.na 25 rfl rfl ?_ | refine HB.nu 25 rfl rfl ?_
      first | refine HB.ga 26 rfl rfl ?_ | refine HB.na 26 rfl rfl ?_ | refine HB.nu 26 rfl rfl ?_
      first | refine HB.ga 27 rfl rfl ?_ | refine HB.na 27 rfl rfl ?_ | refine HB.nu 27 rfl rfl ?_
      first | refine HB.ga 28 rfl rfl ?_ | refine HB.na 28 rfl rfl ?_ | refine HB.nu 28 rfl rfl ?_
      first | refine HB.ga 29 rfl rfl ?_ | refine HB.na 29 rfl rfl ?_ | refine HB.nu 29 rfl rfl ?_
      first | refine HB.ga 30 rfl rfl ?_ | refine HB.na 30 rfl rfl ?_ | refine HB.nu 30 rfl rfl ?_
      first | refine HB.ga 31 rfl rfl ?_ | refine HB.na 31 rfl rfl ?_ | refine HB.nu 31 rfl rfl ?_
      first | refine HB.ga 32 rfl rfl ?_ | refine HB.na 32 rfl rfl ?_ | refine HB.nu 32 rfl rfl ?_
      first | refine HB.ga 33 rfl rfl ?_ | refine HB.na 33 rfl rfl ?_ | refine HB.nu 33 rfl rfl ?_
      refine HB.pa 34 rfl ?_
      refine HB.pa 35 rfl ?_
      first | refine HB.ga 36 rfl rfl ?_ | refine HB.na 36 rfl rfl ?_ | refine HB.nu 36 rfl rfl ?_
      first | refine HB.ga 37 rfl rfl ?_ | refine HB.na 37 rfl rfl ?_ | refine HB.nu 37 rfl rfl ?_
      first | refine HB.ga 38 rfl rfl ?_ | refine HB.na 38 rfl rfl ?_ | refine HB.nu 38 rfl rfl ?_
      first | refine HB.ga 39 rfl rfl ?_ | refine HB.na 39 rfl rfl ?_ | refine HB.nu 39 rfl rfl ?_
      refine HB.pa 40 rfl ?_
      refine HB.done (by repeat (first | exact Keep.nil | refine Keep.blk (by (repeat (first | exact List.Mem.head _ | apply List.Mem.tail)); done) rfl ?_ | refine Keep.grow (by (repeat (first | exact List.Mem.head _ | apply List.Mem.tail)); done) (by assumption) ?_ | refine Keep.base (by assumption) ?_)) (by kernel_rfl) ?_
      exact HX.cut true ⟨fun _ => hbad (fun h => by have := h.2.2.1; omega), fun h => (Bool.noConfusion h)⟩ esA (by repeat (first | exact Hs.nil _ | (refine Hs.cons pickA ?_)))
    by_cases q4 : 5 < kn
    · refine HC.anyC ([(⟨b4, 0, none⟩, zv idn), (⟨b4, 1, none⟩, zv kn), (⟨b4, 2, none⟩, zv pn), (⟨b4, 3, none⟩, .slice asr m cs)]) rfl ?_
      refine HB.pa 0 rfl ?_
      refine HB.ld 1 rfl rfl memD ?_
      refine HB.all (by repeat (first | exact Keep.nil | refine Keep.blk (by (repeat (first | exact List.Mem.head _ | apply List.Mem.tail)); done) rfl ?_ | refine Keep.grow (by (repeat (first | exact List.Mem.head _ | apply List.Mem.tail)); done) (by assumption) ?_ | refine Keep.base (by assumption) ?_)) [2] (by kernel_rfl) rfl ⟨⟨_, rfl, ?_⟩, trivial⟩
      refine HP.one ?_
      refine H1.callx (u := .bool true) (vs := [_]) rfl rfl (fun w' hM => by
      have h := id24_fn idn w'
      rw [decide_eq_true q1] at h; exact h) ?_
      apply HB.fold
      refine HB.pa 3 rfl ?_
      refine HB.pa 4 rfl ?_
      first | refine HB.ga 5 rfl rfl ?_ | refine HB.na 5 rfl rfl ?_ | refine HB.nu 5 rfl rfl ?_
      refine HB.ldg 6 rfl rfl rfl memD ?_
      refine HB.all (by repeat (first | exact Keep.nil | refine Keep.blk (by (repeat (first | exact List.Mem.head _ | apply List.Mem.tail)); done) rfl ?_ | refine Keep.grow (by (repeat (first | exact List.Mem.head _ | apply List.Mem.tail)); done) (by assumption) ?_ | refine Keep.base (by assumption) ?_)) [7] (by kernel_rfl) rfl ⟨⟨_, rfl, ?_⟩, trivial⟩
      refine HP.one_a rfl ?_
      refine H1.callx (u := .bool true) (vs := [_]) rfl rfl (fun w' hM => by
      have h := id24_fn pn w'
      rw [decide_eq_true q2] at h; exact h) ?_
      apply HB.fold
      first | refine HB.ga 8 rfl rfl ?_ | refine HB.na 8 rfl rfl ?_ | refine HB.nu 8 rfl rfl ?_
      refine HB.pa 9 rfl ?_
      refine HB.pa 10 rfl ?_
      first | refine HB.ga 11 rfl rfl ?_ | refine HB.na 11 rfl rfl ?_ | refine HB.nu 11 rfl rfl ?_
      refine HB.ldg 12 rfl rfl rfl memD ?_
      first | refine HB.ga 13 rfl rfl ?_ | refine HB.na 13 rfl rfl ?_ | refine HB.nu 13 rfl rfl ?_
      refine HB.pa 14 rfl ?_
      refine HB.pa 15 rfl ?_
      first | refine HB.ga 16 rfl rfl ?_ | refine HB.na 16 rfl rfl ?_ | refine HB.nu 16 rfl rfl ?_
      refine HB.ldg 17 rfl rfl rfl memD ?_
      first | refine HB.ga 18 rfl rfl ?_ | refine HB.na 18 rfl rfl ?_ | refine HB.nu 18 rfl rfl ?_
      refine HB.pa 19 rfl ?_
      refine HB.pa 20 rfl ?_
      first | refine HB.ga 21 rfl rfl ?_ | refine HB.na 21 rfl rfl ?_ | refine HB.nu 21 rfl rfl ?_
      first | refine HB.ga 22 rfl rfl ?_ | refine HB.na 22 rfl rfl ?_ | refine HB.nu 22 rfl rfl ?_
      first | refine HB.ga 23 rfl rfl ?_ | refine HB.na 23 rfl rfl ?_ | refine HB.nu 23 rfl rfl ?_
      first | refine HB.ga 24 rfl rfl ?_ | refine HB.na 24 rfl rfl ?_ | refine HB.nu 24 rfl rfl ?_
      first | refine HB.ga 25 rfl rfl ?_ | refine HB.na 25 rfl rfl ?_ | refine HB.nu 25 rfl rfl ?_
      first | refine HB.ga 26 rfl rfl ?_ | refine HB.na 26 rfl rfl ?_ | refine HB.nu 26 rfl rfl ?_
      first | refine HB.ga 27 rfl rfl ?_ | refine HB.na 27 rfl rfl ?_ | refine HB.nu 27 rfl rfl ?_
      first | refine HB.ga 28 rfl rfl ?_ | refine HB.na 28 rfl rfl ?_ | refine HB.nu 28 rfl rfl ?_
      first | refine HB.ga 29 rfl rfl ?_ | refine HB.na 29 rfl rfl ?_ | refine HB.nu 29 rfl rfl ?_
      first | refine HB.ga 30 rfl rfl ?_ | refine HB.na 30 rfl rfl ?_ | refine HB.nu 30 rfl rfl ?_
      first | refine HB.ga 31 rfl rfl ?_ | refine HB.na 31 rfl rfl ?_ | refine HB.nu 31 rfl rfl ?_
      first | refine HB.ga 32 rfl rfl ?_ | refine HB.na 32 rfl rfl ?_ | refine HB.nu 32 rfl rfl ?_
      first | refine HB.ga 33 rfl rfl ?_ | refine HB.na 33 rfl rfl ?_ | refine HB.nu 33 rfl rfl ?_
      refine HB.pa 34 rfl ?_
      refine HB.pa 35 rfl ?_
      first | refine HB.ga 36 rfl rfl ?_ | refine HB.na 36 rfl rfl ?_ | refine HB.nu 36 rfl rfl ?_
      first | refine HB.ga 37 rfl rfl ?_ | refine HB.na 37 rfl rfl ?_ | refine HB.nu 37 rfl rfl ?_
      first | refine HB.ga 38 rfl rfl ?_ | refine HB.na 38 rfl rfl ?_ | refine HB.nu 38 rfl rfl ?_
      first | refine HB.ga 39 rfl rfl ?_ | refine HB.na 39 rfl rfl ?_ | refine HB.nu 39 rfl rfl ?_
      refine HB.pa 40 rfl ?_
      refine HB.done (by repeat (first | exact Keep.nil | refine Keep.blk (by (repeat (first | exact List.Mem.head _ | apply List.Mem.tail)); done) rfl ?_ | refine Keep.grow (by (repeat (first | exact List.Mem.head _ | apply List.Mem.tail)); done) (by assumption) ?_ | refine Keep.base (by assumption) ?_)) (by kernel_rfl) ?_
      exact HX.cut true ⟨fun _ => hbad (fun h => by have := h.2.2.2.1; omega), fun h => (Bool.noConfusion h)⟩ esA (by repeat (first | exact Hs.nil _ | (refine Hs.cons pickA ?_)))
    by_cases q5 : 0 < i
    · have q5' : (0 : Int) < (i : Int) := by omega
      have hp : w.cell? ⟨b0, off0 + (((i : Nat) : Int) - 1).toNat * 4 + 0, none⟩ = some (zv idp) := by rw [show (((i : Nat) : Int) - 1).toNat = i - 1 by omega]; exact hprev q5
      by_cases q6 : idn ≤ idp
      · refine HC.anyC ([(⟨b4, 0, none⟩, zv idn), (⟨b4, 1, none⟩, zv kn), (⟨b4, 2, none⟩, zv pn), (⟨b4, 3, none⟩, .slice asr m cs), (⟨b0, off0 + (((i : Nat) : Int) - 1).toNat * 4 + 0, none⟩, zv idp)]) rfl ?_
        refine HB.pa 0 rfl ?_
        refine HB.ld 1 rfl rfl memD ?_
        refine HB.all (by repeat (first | exact Keep.nil | refine Keep.blk (by (repeat (first | exact List.Mem.head _ | apply List.Mem.tail)); done) rfl ?_ | refine Keep.grow (by (repeat (first | exact List.Mem.head _ | apply List.Mem.tail)); done) (by assumption) ?_ | refine Keep.base (by assumption) ?_)) [2] (by kernel_rfl) rfl ⟨⟨_, rfl, ?_⟩, trivial⟩
        refine HP.one ?_
        refine H1.callx (u := .bool true) (vs := [_]) rfl rfl (fun w' hM => by
        have h := id24_fn idn w'
        rw [decide_eq_true q1] at h; exact h) ?_
        apply HB.fold
        refine HB.pa 3 rfl ?_
        refine HB.pa 4 rfl ?_
        first | refine HB.ga 5 rfl rfl ?_ | refine HB.na 5 rfl rfl ?_ | refine HB.nu 5 rfl rfl ?_
        refine HB.ldg 6 rfl rfl rfl memD ?_
        refine HB.all (by repeat (first | exact Keep.nil | refine Keep.blk (by (repeat (first | exact List.Mem.head _ | apply List.Mem.tail)); done) rfl ?_ | refine Keep.grow (by (repeat (first | exact List.Mem.head _ | apply List.Mem.tail)); done) (by assumption) ?_ | refine Keep.base (by assumption) ?_)) [7] (by kernel_rfl) rfl ⟨⟨_, rfl, ?_⟩, trivial⟩
        refine HP.one_a rfl ?_
        refine H1.callx (u := .bool true) (vs := [_]) rfl rfl (fun w' hM => by
        have h := id24_fn pn w'
        rw [decide_eq_true q2] at h; exact h) ?_
        apply HB.fold
        first | refine HB.ga 8 rfl rfl ?_ | refine HB.na 8 rfl rfl ?_ | refine HB.nu 8 rfl rfl ?_
        refine HB.pa 9 rfl ?_
        refine HB.pa 10 rfl ?_
        first | refine HB.ga 11 rfl rfl ?_ | refine HB.na 11 rfl rfl ?_ | refine HB.nu 11 rfl rfl ?_
        refine HB.ldg 12 rfl rfl rfl memD ?_
        first | refine HB.ga 13 rfl rfl ?_ | refine HB.na 13 rfl rfl ?_ | refine HB.nu 13 rfl rfl ?_
        refine HB.pa 14 rfl ?_
        refine HB.pa 15 rfl ?_
        first | refine HB.ga 16 rfl rfl ?_ | refine HB.na 16 rfl rfl ?_ | refine HB.nu 16 rfl rfl ?_
        refine HB.ldg 17 rfl rfl rfl memD ?_
        first | refine HB.ga 18 rfl rfl ?_ | refine HB.na 18 rfl rfl ?_ | refine HB.nu 18 rfl rfl ?_
        refine HB.pa 19 rfl ?_
        refine HB.pa 20 rfl ?_
        first | refine HB.ga 21 rfl rfl ?_ | refine HB.na 21 rfl rfl ?_ | refine HB.nu 21 rfl rfl ?_
        first | refine HB.ga 22 rfl rfl ?_ | refine HB.na 22 rfl rfl ?_ | refine HB.nu 22 rfl rfl ?_
        first | refine HB.ga 23 rfl rfl ?_ | refine HB.na 23 rfl rfl ?_ | refine HB.nu 23 rfl rfl ?_
        first | refine HB.ga 24 rfl rfl ?_ | refine HB.na 24 rfl rfl ?_ | refine HB.nu 24 rfl rfl ?_
        first | refine HB.ga 25 rfl rfl ?_ | refine HB.na 25 rfl rfl ?_ | refine HB.nu 25 rfl rfl ?_
        first | refine HB.ga 26 rfl rfl ?_ | refine HB.na 26 rfl rfl ?_ | refine HB.nu 26 rfl rfl ?_
        first | refine HB.ga 27 rfl rfl ?_ | refine HB.na 27 rfl rfl ?_ | refine HB.nu 27 rfl rfl ?_
        first | refine HB.ga 28 rfl rfl ?_ | refine HB.na 28 rfl rfl ?_ | refine HB.nu 28 rfl rfl ?_
        refine HB.ldg 29 rfl rfl rfl memD ?_
        first | refine HB.ga 30 rfl rfl ?_ | refine HB.na 30 rfl rfl ?_ | refine HB.nu 30 rfl rfl ?_
        refine HB.ldg 31 rfl rfl rfl memD ?_
        first | refine HB.ga 32 rfl rfl ?_ | refine HB.na 32 rfl rfl ?_ | refine HB.nu 32 rfl rfl ?_
        first | refine HB.ga 33 rfl rfl ?_ | refine HB.na 33 rfl rfl ?_ | refine HB.nu 33 rfl rfl ?_
        refine HB.pa 34 rfl ?_
        refine HB.pa 35 rfl ?_
        first | refine HB.ga 36 rfl rfl ?_ | refine HB.na 36 rfl rfl ?_ | refine HB.nu 36 rfl rfl ?_
        first | refine HB.ga 37 rfl rfl ?_ | refine HB.na 37 rfl rfl ?_ | refine HB.nu 37 rfl rfl ?_
        first | refine HB.ga 38 rfl rfl ?_ | refine HB.na 38 rfl rfl ?_ | refine HB.nu 38 rfl rfl ?_
        first | refine HB.ga 39 rfl rfl ?_ | refine HB.na 39 rfl rfl ?_ | refine HB.nu 39 rfl rfl ?_
        refine HB.pa 40 rfl ?_
        refine HB.done (by repeat (first | exact Keep.nil | refine Keep.blk (by (repeat (first | exact List.Mem.head _ | apply List.Mem.tail)); done) rfl ?_ | refine Keep.grow (by (repeat (first | exact List.Mem.head _ | apply List.Mem.tail)); done) (by assumption) ?_ | refine Keep.base (by assumption) ?_)) (by kernel_rfl) ?_
        exact HX.cut true ⟨fun _ => hbad (fun h => by have := h.2.2.2.2.1 q5; omega), fun h => (Bool.noConfusion h)⟩ esA (by repeat (first | exact Hs.nil _ | (refine Hs.cons pickA ?_)))
      by_cases q7 : (8 : Int) < (m : Int)
      · refine HC.anyC ([(⟨b4, 0, none⟩, zv idn), (⟨b4, 1, none⟩, zv kn), (⟨b4, 2, none⟩, zv pn), (⟨b4, 3, none⟩, .slice asr m cs), (⟨b0, off0 + (((i : Nat) : Int) - 1).toNat * 4 + 0, none⟩, zv idp)]) rfl ?_
        refine HB.pa 0 rfl ?_
        refine HB.ld 1 rfl rfl memD ?_
        refine HB.all (by repeat (first | exact Keep.nil | refine Keep.blk (by (repeat (first | exact List.Mem.head _ | apply List.Mem.tail)); done) rfl ?_ | refine Keep.grow (by (repeat (first | exact List.Mem.head _ | apply List.Mem.tail)); done) (by assumption) ?_ | refine Keep.base (by assumption) ?_)) [2] (by kernel_rfl) rfl ⟨⟨_, rfl, ?_⟩, trivial⟩
        refine HP.one ?_
        refine H1.callx (u := .bool true) (vs := [_]) rfl rfl (fun w' hM => by
        have h := id24_fn idn w'
        rw [decide_eq_true q1] at h; exact h) ?_
        apply HB.fold
        refine HB.pa 3 rfl ?_
        refine HB.pa 4 rfl ?_
        first | refine HB.ga 5 rfl rfl ?_ | refine HB.na 5 rfl rfl ?_ | refine HB.nu 5 rfl rfl ?_
        refine HB.ldg 6 rfl rfl rfl memD ?_
        refine HB.all (by repeat (first | exact Keep.nil | refine Keep.blk (by (repeat (first | exact List.Mem.head _ | apply List.Mem.tail)); done) rfl ?_ | refine Keep.grow (by (repeat (first | exact List.Mem.head _ | apply List.Mem.tail)); done) (by assumption) ?_ | refine Keep.base (by assumption) ?_)) [7] (by kernel_rfl) rfl ⟨⟨_, rfl, ?_⟩, trivial⟩
        refine HP.one_a rfl ?_
        refine H1.callx (u := .bool true) (vs := [_]) rfl rfl (fun w' hM => by
        have h := id24_fn pn w'
        rw [decide_eq_true q2] at h; exact h) ?_
        apply HB.fold
        first | refine HB.ga 8 rfl rfl ?_ | refine HB.na 8 rfl rfl ?_ | refine HB.nu 8 rfl rfl ?_
        refine HB.pa 9 rfl ?_
        refine HB.pa 10 rfl ?_
        first | refine HB.ga 11 rfl rfl ?_ | refine HB.na 11 rfl rfl ?_ | refine HB.nu 11 rfl rfl ?_
        refine HB.ldg 12 rfl rfl rfl memD ?_
        first | refine HB.ga 13 rfl rfl ?_ | refine HB.na 13 rfl rfl ?_ | refine HB.nu 13 rfl rfl ?_
        refine HB.pa 14 rfl ?_
        refine HB.pa 15 rfl ?_
        first | refine HB.ga 16 rfl rfl ?_ | refine HB.na 16 rfl rfl ?_ | refine HB.nu 16 rfl rfl ?_
        refine HB.ldg 17 rfl rfl rfl memD ?_
        first | refine HB.ga 18 rfl rfl ?_ | refine HB.na 18 rfl rfl ?_ | refine HB.nu 18 rfl rfl ?_
        refine HB.pa 19 rfl ?_
        refine HB.pa 20 rfl ?_
        first | refine HB.ga 21 rfl rfl ?_ | refine HB.na 21 rfl rfl ?_ | refine HB.nu 21 rfl rfl ?_
        first | refine HB.ga 22 rfl rfl ?_ | refine HB.na 22 rfl rfl ?_ | refine HB.nu 22 rfl rfl ?_
        first | refine HB.ga 23 rfl rfl ?_ | refine HB.na 23 rfl rfl ?_ | refine HB.nu 23 rfl rfl ?_
        first | refine HB.ga 24 rfl rfl ?_ | refine HB.na 24 rfl rfl ?_ | refine HB.nu 24 rfl rfl ?_
        first | refine HB.ga 25 rfl rfl ?_ | refine HB.na 25 rfl rfl ?_ | refine HB.nu 25 rfl rfl ?_
        first | refine HB.ga 26 rfl rfl ?_ | refine HB.na 26 rfl rfl ?_ | refine HB.nu 26 rfl rfl ?_
        first | refine HB.ga 27 rfl rfl ?_ | refine HB.na 27 rfl rfl ?_ | refine HB.nu 27 rfl rfl ?_
        first | refine HB.ga 28 rfl rfl ?_ | refine HB.na 28 rfl rfl ?_ | refine HB.nu 28 rfl rfl ?_
        refine HB.ldg 29 rfl rfl rfl memD ?_
        first | refine HB.ga 30 rfl rfl ?_ | refine HB.na 30 rfl rfl ?_ | refine HB.nu 30 rfl rfl ?_
        refine HB.ldg 31 rfl rfl rfl memD ?_
        first | refine HB.ga 32 rfl rfl ?_ | refine HB.na 32 rfl rfl ?_ | refine HB.nu 32 rfl rfl ?_
        first | refine HB.ga 33 rfl rfl ?_ | refine HB.na 33 rfl rfl ?_ | refine HB.nu 33 rfl rfl ?_
        refine HB.pa 34 rfl ?_
        refine HB.pa 35 rfl ?_
        first | refine HB.ga 36 rfl rfl ?_ | refine HB.na 36 rfl rfl ?_ | refine HB.nu 36 rfl rfl ?_
        refine HB.ldg 37 rfl rfl rfl memD ?_
        first | refine HB.ga 38 rfl rfl ?_ | refine HB.na 38 rfl rfl ?_ | refine HB.nu 38 rfl rfl ?_
        first | refine HB.ga 39 rfl rfl ?_ | refine HB.na 39 rfl rfl ?_ | refine HB.nu 39 rfl rfl ?_
        refine HB.pa 40 rfl ?_
        refine HB.done (by repeat (first | exact Keep.nil | refine Keep.blk (by (repeat (first | exact List.Mem.head _ | apply List.Mem.tail)); done) rfl ?_ | refine Keep.grow (by (repeat (first | exact List.Mem.head _ | apply List.Mem.tail)); done) (by assumption) ?_ | refine Keep.base (by assumption) ?_)) (by kernel_rfl) ?_
        rw [decide_eq_true q7]; exact HX.cut true ⟨fun _ => hbad (fun h => by have := h.2.2.2.2.2; omega), fun h => (Bool.noConfusion h)⟩ esA (by repeat (first | exact Hs.nil _ | (refine Hs.cons pickA ?_)))
      refine HC.anyC ([(⟨b4, 0, none⟩, zv idn), (⟨b4, 1, none⟩, zv kn), (⟨b4, 2, none⟩, zv pn), (⟨b4, 3, none⟩, .slice asr m cs), (⟨b0, off0 + (((i : Nat) : Int) - 1).toNat * 4 + 0, none⟩, zv idp)]) rfl ?_
      refine HB.pa 0 rfl ?_
      refine HB.ld 1 rfl rfl memD ?_
      refine HB.all (by repeat (first | exact Keep.nil | refine Keep.blk (by (repeat (first | exact List.Mem.head _ | apply List.Mem.tail)); done) rfl ?_ | refine Keep.grow (by (repeat (first | exact List.Mem.head _ | apply List.Mem.tail)); done) (by assumption) ?_ | refine Keep.base (by assumption) ?_)) [2] (by kernel_rfl) rfl ⟨⟨_, rfl, ?_⟩, trivial⟩
      refine HP.one ?_
      refine H1.callx (u := .bool true) (vs := [_]) rfl rfl (fun w' hM => by
      have h := id24_fn idn w'
      rw [decide_eq_true q1] at h; exact h) ?_
      apply HB.fold
      refine HB.pa 3 rfl ?_
      refine HB.pa 4 rfl ?_
      first | refine HB.ga 5 rfl rfl ?_ | refine HB.na 5 rfl rfl ?_ | refine HB.nu 5 rfl rfl ?_
      refine HB.ldg 6 rfl rfl rfl memD ?_
      refine HB.all (by repeat (first | exact Keep.nil | refine Keep.blk (by (repeat (first | exact List.Mem.head _ | apply List.Mem.tail)); done) rfl ?_ | refine Keep.grow (by (repeat (first | exact List.Mem.head _ | apply List.Mem.tail)); done) (by assumption) ?_ | refine Keep.base (by assumption) ?_)) [7] (by kernel_rfl) rfl ⟨⟨_, rfl, ?_⟩, trivial⟩
      refine HP.one_a rfl ?_
      refine H1.callx (u := .bool true) (vs := [_]) rfl rfl (fun w' hM => by
      have h := id24_fn pn w'
      rw [decide_eq_true q2] at h; exact h) ?_
      apply HB.fold
      first | refine HB.ga 8 rfl rfl ?_ | refine HB.na 8 rfl rfl ?_ | refine HB.nu 8 rfl rfl ?_
      refine HB.pa 9 rfl ?_
      refine HB.pa 10 rfl ?_
      first | refine HB.ga 11 rfl rfl ?_ | refine HB.na 11 rfl rfl ?_ | refine HB.nu 11 rfl rfl ?_
      refine HB.ldg 12 rfl rfl rfl memD ?_
      first | refine HB.ga 13 rfl rfl ?_ | refine HB.na 13 rfl rfl ?_ | refine HB.nu 13 rfl rfl ?_
      refine HB.pa 14 rfl ?_
      refine HB.pa 15 rfl ?_
      first | refine HB.ga 16 rfl rfl ?_ | refine HB.na 16 rfl rfl ?_ | refine HB.nu 16 rfl rfl ?_
      refine HB.ldg 17 rfl rfl rfl memD ?_
      first | refine HB.ga 18 rfl rfl ?_ | refine HB.na 18 rfl rfl ?_ | refine HB.nu 18 rfl rfl ?_
      refine HB.pa 19 rfl ?_
      refine HB.pa 20 rfl ?_
      first | refine HB.ga 21 rfl rfl ?_ | refine HB.na 21 rfl rfl ?_ | refine HB.nu 21 rfl rfl ?_
      first | refine HB.ga 22 rfl rfl ?_ | refine HB.na 22 rfl rfl ?_ | refine HB.nu 22 rfl rfl ?_
      first | refine HB.ga 23 rfl rfl ?_ | refine HB.na 23 rfl rfl ?_ | refine HB.nu 23 rfl rfl ?_
      first | refine HB.ga 24 rfl rfl ?_ | refine HB.na 24 rfl rfl ?_ | refine HB.nu 24 rfl rfl ?_
      first | refine HB.ga 25 rfl rfl ?_ | refine HB.na 25 rfl rfl ?_ | refine HB.nu 25 rfl rfl ?_
      first | refine HB.ga 26 rfl rfl ?_ | refine HB.na 26 rfl rfl ?_ | refine HB.nu 26 rfl rfl ?_
      first | refine HB.ga 27 rfl rfl ?_ | refine HB.na 27 rfl rfl ?_ | refine HB.nu 27 rfl rfl ?_
      first | refine HB.ga 28 rfl rfl ?_ | refine HB.na 28 rfl rfl ?_ | refine HB.nu 28 rfl rfl ?_
      refine HB.ldg 29 rfl rfl rfl memD ?_
      first | refine HB.ga 30 rfl rfl ?_ | refine HB.na 30 rfl rfl ?_ | refine HB.nu 30 rfl rfl ?_
      refine HB.ldg 31 rfl rfl rfl memD ?_
      first | refine HB.ga 32 rfl rfl ?_ | refine HB.na 32 rfl rfl ?_ | refine HB.nu 32 rfl rfl ?_
      first | refine HB.ga 33 rfl rfl ?_ | refine HB.na 33 rfl rfl ?_ | refine HB.nu 33 rfl rfl ?_
      refine HB.pa 34 rfl ?_
      refine HB.pa 35 rfl ?_
      first | refine HB.ga 36 rfl rfl ?_ | refine HB.na 36 rfl rfl ?_ | refine HB.nu 36 rfl rfl ?_
      refine HB.ldg 37 rfl rfl rfl memD ?_
      first | refine HB.ga 38 rfl rfl ?_ | refine HB.na 38 rfl rfl ?_ | refine HB.nu 38 rfl rfl ?_
      first | refine HB.ga 39 rfl rfl ?_ | refine HB.na 39 rfl rfl ?_ | refine HB.nu 39 rfl rfl ?_
      refine HB.pa 40 rfl ?_
      refine HB.done (by repeat (first | exact Keep.nil | refine Keep.blk (by (repeat (first | exact List.Mem.head _ | apply List.Mem.tail)); done) rfl ?_ | refine Keep.grow (by (repeat (first | exact List.Mem.head _ | apply List.Mem.tail)); done) (by assumption) ?_ | refine Keep.base (by assumption) ?_)) (by kernel_rfl) ?_
      rw [decide_eq_false q7]; exact HX.cut false ⟨fun h => (Bool.noConfusion h), fun _ => ⟨q1, q2, by omega, by omega, fun _ => by omega, by omega⟩⟩ esA (by repeat (first | exact Hs.nil _ | (refine Hs.cons pickA ?_)))
    · have q5' : ¬ (0 : Int) < (i : Int) := by omega
      by_cases q7 : (8 : Int) < (m : Int)
      · refine HC.anyC ([(⟨b4, 0, none⟩, zv idn), (⟨b4, 1, none⟩, zv kn), (⟨b4, 2, none⟩, zv pn), (⟨b4, 3, none⟩, .slice asr m cs)]) rfl ?_
        refine HB.pa 0 rfl ?_
        refine HB.ld 1 rfl rfl memD ?_
        refine HB.all (by repeat (first | exact Keep.nil | refine Keep.blk (by (repeat (first | exact List.Mem.head _ | apply List.Mem.tail)); done) rfl ?_ | refine Keep.grow (by (repeat (first | exact List.Mem.head _ | apply List.Mem.tail)); done) (by assumption) ?_ | refine Keep.base (by assumption) ?_)) [2] (by kernel_rfl) rfl ⟨⟨_, rfl, ?_⟩, trivial⟩
        refine HP.one ?_
        refine H1.callx (u := .bool true) (vs := [_]) rfl rfl (fun w' hM => by
        have h := id24_fn idn w'
        rw [decide_eq_true q1] at h; exact h) ?_
        apply HB.fold
        refine HB.pa 3 rfl ?_
        refine HB.pa 4 rfl ?_
        first | refine HB.ga 5 rfl rfl ?_ | refine HB.na 5 rfl rfl ?_ | refine HB.nu 5 rfl rfl ?_
        refine HB.ldg 6 rfl rfl rfl memD ?_
        refine HB.all (by repeat (first | exact Keep.nil | refine Keep.blk (by (repeat (first | exact List.Mem.head _ | apply List.Mem.tail)); done) rfl ?_ | refine Keep.grow (by (repeat (first | exact List.Mem.head _ | apply List.Mem.tail)); done) (by assumption) ?_ | refine Keep.base (by assumption) ?_)) [7] (by kernel_rfl) rfl ⟨⟨_, rfl, ?_⟩, trivial⟩
        refine HP.one_a rfl ?_
        refine H1.callx (u := .bool true) (vs := [_]) rfl rfl (fun w' hM => by
        have h := id24_fn pn w'
        rw [decide_eq_true q2] at h; exact h) ?_
        apply HB.fold
        first | refine HB.ga 8 rfl rfl ?_ | refine HB.na 8 rfl rfl ?_ | refine HB.nu 8 rfl rfl ?_
        refine HB.pa 9 rfl ?_
        refine HB.pa 10 rfl ?_
        first | refine HB.ga 11 rfl rfl ?_ | refine HB.na 11 rfl rfl ?_ | refine HB.nu 11 rfl rfl ?_
        refine HB.ldg 12 rfl rfl rfl memD ?_
        first | refine HB.ga 13 rfl rfl ?_ | refine HB.na 13 rfl rfl ?_ | refine HB.nu 13 rfl rfl ?_
        refine HB.pa 14 rfl ?_
        refine HB.pa 15 rfl ?_
        first | refine HB.ga 16 rfl rfl ?_ | refine HB.na 16 rfl rfl ?_ | refine HB.nu 16 rfl rfl ?_
        refine HB.ldg 17 rfl rfl rfl memD ?_
        first | refine HB.ga 18 rfl rfl ?_ | refine HB.na 18 rfl rfl ?_ | refine HB.nu 18 rfl rfl ?_
        refine HB.pa 19 rfl ?_
        refine HB.pa 20 rfl ?_
        first | refine HB.ga 21 rfl rfl ?_ | refine HB.na 21 rfl rfl ?_ | refine HB.nu 21 rfl rfl ?_
        first | refine HB.ga 22 rfl rfl ?_ | refine HB.na 22 rfl rfl ?_ | refine HB.nu 22 rfl rfl ?_
        first | refine HB.ga 23 rfl rfl ?_ | refine HB.na 23 rfl rfl ?_ | refine HB.nu 23 rfl rfl ?_
        first | refine HB.ga 24 rfl rfl ?_ | refine HB.na 24 rfl rfl ?_ | refine HB.nu 24 rfl rfl ?_
        first | refine HB.ga 25 rfl rfl ?_ | refine HB.na 25 rfl rfl ?_ | refine HB.nu 25 rfl rfl ?_
        first | refine HB.ga 26 rfl rfl ?_ | refine HB.na 26 rfl rfl ?_ | refine HB.nu 26 rfl rfl ?_
        first | refine HB.ga 27 rfl rfl ?_ | refine HB.na 27 rfl rfl ?_ | refine HB.nu 27 rfl rfl ?_
        first | refine HB.ga 28 rfl rfl ?_ | refine HB.na 28 rfl rfl ?_ | refine HB.nu 28 rfl rfl ?_
        first | refine HB.ga 29 rfl rfl ?_ | refine HB.na 29 rfl rfl ?_ | refine HB.nu 29 rfl rfl ?_
        first | refine HB.ga 30 rfl rfl ?_ | refine HB.na 30 rfl rfl ?_ | refine HB.nu 30 rfl rfl ?_
        first | refine HB.ga 31 rfl rfl ?_ | refine HB.na 31 rfl rfl ?_ | refine HB.nu 31 rfl rfl ?_
        first | refine HB.ga 32 rfl rfl ?_ | refine HB.na 32 rfl rfl ?_ | refine HB.nu 32 rfl rfl ?_
        first | refine HB.ga 33 rfl rfl ?_ | refine HB.na 33 rfl rfl ?_ | refine HB.nu 33 rfl rfl ?_
        refine HB.pa 34 rfl ?_
        refine HB.pa 35 rfl ?_
        first | refine HB.ga 36 rfl rfl ?_ | refine HB.na 36 rfl rfl ?_ | refine HB.nu 36 rfl rfl ?_
        refine HB.ldg 37 rfl rfl rfl memD ?_
        first | refine HB.ga 38 rfl rfl ?_ | refine HB.na 38 rfl rfl ?_ | refine HB.nu 38 rfl rfl ?_
        first | refine HB.ga 39 rfl rfl ?_ | refine HB.na 39 rfl rfl ?_ | refine HB.nu 39 rfl rfl ?_
        refine HB.pa 40 rfl ?_
        refine HB.done (by repeat (first | exact Keep.nil | refine Keep.blk (by (repeat (first | exact List.Mem.head _ | apply List.Mem.tail)); done) rfl ?_ | refine Keep.grow (by (repeat (first | exact List.Mem.head _ | apply List.Mem.tail)); done) (by assumption) ?_ | refine Keep.base (by assumption) ?_)) (by kernel_rfl) ?_
        rw [decide_eq_true q7]; exact HX.cut true ⟨fun _ => hbad (fun h => by have := h.2.2.2.2.2; omega), fun h => (Bool.noConfusion h)⟩ esA (by repeat (first | exact Hs.nil _ | (refine Hs.cons pickA ?_)))
      refine HC.anyC ([(⟨b4, 0, none⟩, zv idn), (⟨b4, 1, none⟩, zv kn), (⟨b4, 2, none⟩, zv pn), (⟨b4, 3, none⟩, .slice asr m cs)]) rfl ?_
      refine HB.pa 0 rfl ?_
      refine HB.ld 1 rfl rfl memD ?_
      refine HB.all (by repeat (first | exact Keep.nil | refine Keep.blk (by (repeat (first | exact List.Mem.head _ | apply List.Mem.tail)); done) rfl ?_ | refine Keep.grow (by (repeat (first | exact List.Mem.head _ | apply List.Mem.tail)); done) (by assumption) ?_ | refine Keep.base (by assumption) ?_)) [2] (by kernel_rfl) rfl ⟨⟨_, rfl, ?_⟩, trivial⟩
      refine HP.one ?_
      refine H1.callx (u := .bool true) (vs := [_]) rfl rfl (fun w' hM => by
      have h := id24_fn idn w'
      rw [decide_eq_true q1] at h; exact h) ?_
      apply HB.fold
      refine HB.pa 3 rfl ?_
      refine HB.pa 4 rfl ?_
      first | refine HB.ga 5 rfl rfl ?_ | refine HB.na 5 rfl rfl ?_ | refine HB.nu 5 rfl rfl ?_
      refine HB.ldg 6 rfl rfl rfl memD ?_
      refine HB.all (by repeat (first | exact Keep.nil | refine Keep.blk (by (repeat (first | exact List.Mem.head _ | apply List.Mem.tail)); done) rfl ?_ | refine Keep.grow (by (repeat (first | exact List.Mem.head _ | apply List.Mem.tail)); done) (by assumption) ?_ | refine Keep.base (by assumption) ?_)) [7] (by kernel_rfl) rfl ⟨⟨_, rfl, ?_⟩, trivial⟩
      refine HP.one_a rfl ?_
      refine H1.callx (u := .bool true) (vs := [_]) rfl rfl (fun w' hM => by
      have h := id24_fn pn w'
      rw [decide_eq_true q2] at h; exact h) ?_
      apply HB.fold
      first | refine HB.ga 8 rfl rfl ?_ | refine HB.na 8 rfl rfl ?_ | refine HB.nu 8 rfl rfl ?_
      refine HB.pa 9 rfl ?_
      refine HB.pa 10 rfl ?_
      first | refine HB.ga 11 rfl rfl ?_ | refine HB.na 11 rfl rfl ?_ | refine HB.nu 11 rfl rfl ?_
      refine HB.ldg 12 rfl rfl rfl memD ?_
      first | refine HB.ga 13 rfl rfl ?_ | refine HB.na 13 rfl rfl ?_ | refine HB.nu 13 rfl rfl ?_
      refine HB.pa 14 rfl ?_
      refine HB.pa 15 rfl ?_
      first | refine HB.ga 16 rfl rfl ?_ | refine HB.na 16 rfl rfl ?_ | refine HB.nu 16 rfl rfl ?_
      refine HB.ldg 17 rfl rfl rfl memD ?_
      first | refine HB.ga 18 rfl rfl ?_ | refine HB.na 18 rfl rfl ?_ | refine HB.nu 18 rfl rfl ?_
      refine HB.pa 19 rfl ?_
      refine HB.pa 20 rfl ?_
      first | refine HB.ga 21 rfl rfl ?_ | refine HB.na 21 rfl rfl ?_ | refine HB.nu 21 rfl rfl ?_
      first | refine HB.ga 22 rfl rfl ?_ | refine HB.na 22 rfl rfl ?_ | refine HB.nu 22 rfl rfl ?_
      first | refine HB.ga 23 rfl rfl ?_ | refine HB.na 23 rfl rfl ?_ | refine HB.nu 23 rfl rfl ?_
      first | refine HB.ga 24 rfl rfl ?_ | refine HB.na 24 rfl rfl ?_ | refine HB.nu 24 rfl rfl ?_
      first | refine HB.ga 25 rfl rfl ?_ | refine HB.na 25 rfl rfl ?_ | refine HB.nu 25 rfl rfl ?_
      first | refine HB.ga 26 rfl rfl ?_ | refine HB.na 26 rfl rfl ?_ | refine HB.nu 26 rfl rfl ?_
      first | refine HB.ga 27 rfl rfl ?_ | refine HB.na 27 rfl rfl ?_ | refine HB.nu 27 rfl rfl ?_
      first | refine HB.ga 28 rfl rfl ?_ | refine HB.na 28 rfl rfl ?_ | refine HB.nu 28 rfl rfl ?_
      first | refine HB.ga 29 rfl rfl ?_ | refine HB.na 29 rfl rfl ?_ | refine HB.nu 29 rfl rfl ?_
      first | refine HB.ga 30 rfl rfl ?_ | refine HB.na 30 rfl rfl ?_ | refine HB.nu 30 rfl rfl ?_
      first | refine HB.ga 31 rfl rfl ?_ | refine HB.na 31 rfl rfl ?_ | refine HB.nu 31 rfl rfl ?_
      first | refine HB.ga 32 rfl rfl ?_ | refine HB.na 32 rfl rfl ?_ | refine HB.nu 32 rfl rfl ?_
      first | refine HB.ga 33 rfl rfl ?_ | refine HB.na 33 rfl rfl ?_ | refine HB.nu 33 rfl rfl ?_
      refine HB.pa 34 rfl ?_
      refine HB.pa 35 rfl ?_
      first | refine HB.ga 36 rfl rfl ?_ | refine HB.na 36 rfl rfl ?_ | refine HB.nu 36 rfl rfl ?_
      refine HB.ldg 37 rfl rfl rfl memD ?_
      first | refine HB.ga 38 rfl rfl ?_ | refine HB.na 38 rfl rfl ?_ | refine HB.nu 38 rfl rfl ?_
      first | refine HB.ga 39 rfl rfl ?_ | refine HB.na 39 rfl rfl ?_ | refine HB.nu 39 rfl rfl ?_
      refine HB.pa 40 rfl ?_
      refine HB.done (by repeat (first | exact Keep.nil | refine Keep.blk (by (repeat (first | exact List.Mem.head _ | apply List.Mem.tail)); done) rfl ?_ | refine Keep.grow (by (repeat (first | exact List.Mem.head _ | apply List.Mem.tail)); done) (by assumption) ?_ | refine Keep.base (by assumption) ?_)) (by kernel_rfl) ?_
      rw [decide_eq_false q7]; exact HX.cut false ⟨fun h => (Bool.noConfusion h), fun _ => ⟨q1, q2, by omega, by omega, fun h => absurd h q5, by omega⟩⟩ esA (by repeat (first | exact Hs.nil _ | (refine Hs.cons pickA ?_)))
  rintro x ⟨hx1, hx2⟩
  cases x with
  | true =>
    have hno := hx1 rfl
    refine hwOV ?_
    exact HX.ret1 rfl rfl fun w' hM => ⟨by rw [hno], hM.ext⟩
  | false =>
    have hok := hx2 rfl
    have hdep : decide (kn = 1) ≠ decide ((m : Int) = 0) → validN l = false := fun h => hbad0 fun ⟨h1, _⟩ => h (by
      rw [decide_eq_decide]
      have := h1.dep
      dsimp only at this
      rw [← hm] at this
      omega)
    by_cases k1 : kn = 1
    · by_cases m0 : (m : Int) = 0
      · have e0 : src = [] := List.length_eq_zero_iff.1 (by omega)
        have hP : HasP (l.take i) ⟨idn, kn, pn, src⟩ := ⟨hok.1, hok.2.1, hok.2.2.1, hok.2.2.2.1, by show src.length ≤ 8; omega, by show kn = 1 ↔ src.length = 0; rw [← hm]; omega, (by intro x hx; rw [e0] at hx; cases hx), .inl k1, by show AscI src; rw [e0]; exact List.Pairwise.nil⟩
        have hm0 : ¬ (0 : Int) < (m : Int) := by omega
        have hbb : (!(decide (kn = 1) == decide ((m : Int) = 0))) = false := by rw [decide_eq_true k1, decide_eq_true m0]; rfl
        refine hwOV ?_
        refine HC.loop (α := Unit) (fun _ => [(0, .slice (some ⟨b0, off0, none⟩) l.length c), (3, zv (i : Int)), (4, .pointer (some ⟨b4, 0, none⟩)), (5, .bool true), (6, zv 0)]) (fun _ => [A.blk b4 [zv idn, zv kn, zv pn, .slice asr m cs] 31]) (fun _ => True) (fun _ => 0) () trivial (by rw [decide_eq_true k1]; repeat (first | exact trivial | refine ⟨rfl, ?_⟩)) (by repeat (first | exact Hs.nil _ | (refine Hs.cons pickA ?_))) ?_
        rintro - -
        refine hwOV ?_
        exact HX.again (i + 1) ⟨hlt, hnext hP hok.2.2.2.2.1⟩ (by show l.length - (i + 1) < l.length - i; omega) esA (by repeat (first | exact Hs.nil _ | (refine Hs.cons pickA ?_)))
      · have hbb : (!(decide (kn = 1) == decide ((m : Int) = 0))) = true := by rw [decide_eq_true k1, decide_eq_false m0]; rfl
        have hno := hdep (by rw [decide_eq_true k1, decide_eq_false m0]; decide)
        refine hwOV ?_
        exact HX.ret1 rfl rfl fun w' hM => ⟨by rw [hno], hM.ext⟩
    · by_cases m0 : (m : Int) = 0
      · have hbb : (!(decide (kn = 1) == decide ((m : Int) = 0))) = true := by rw [decide_eq_false k1, decide_eq_true m0]; rfl
        have hno := hdep (by rw [decide_eq_false k1, decide_eq_true m0]; decide)
        refine hwOV ?_
        exact HX.ret1 rfl rfl fun w' hM => ⟨by rw [hno], hM.ext⟩
      · have hbb : (!(decide (kn = 1) == decide ((m : Int) = 0))) = false := by rw [decide_eq_false k1, decide_eq_false m0]; rfl
        refine hwOV ?_
        refine HC.loop (α := Nat × Bool) (fun q => [(0, .slice (some ⟨b0, off0, none⟩) l.length c), (3, zv (i : Int)), (4, .pointer (some ⟨b4, 0, none⟩)), (5, .bool q.2), (6, zv (q.1 : Int))]) (fun _ => [A.blk b4 [zv idn, zv kn, zv pn, .slice asr m cs] 31]) (fun q => q.1 ≤ m ∧ (∀ k, k < q.1 → ∃ j, j < i ∧ getI src k = (ndAt l j).id) ∧ (∀ k, 0 < k → k < q.1 → getI src (k - 1) < getI src k) ∧ (q.2 = true ↔ ∃ k, k < q.1 ∧ ∃ j, j < i ∧ getI src k = (ndAt l j).id ∧ (ndAt l j).pack = pn)) (fun q => m - q.1) (0, false) ⟨Nat.zero_le _, fun k h => absurd h (Nat.not_lt_zero _), fun k _ h => absurd h (Nat.not_lt_zero _), by simp⟩ (by rw [decide_eq_false k1]; repeat (first | exact trivial | refine ⟨rfl, ?_⟩)) (by repeat (first | exact Hs.nil _ | (refine Hs.cons pickA ?_))) ?_
        rintro ⟨k, own⟩ ⟨hk, g1, g2, g3⟩
        dsimp only at hk g1 g2 g3 ⊢
        by_cases hkm : k < m
        · have hkn : ((k : Nat) : Int) < (m : Int) := by omega
          obtain ⟨bs, os, rfl⟩ := rd_addr hsr hkm
          have hcx := hsr.cell (ints_getI (l := src) (i := k) (by omega))
          refine hwOV ?_
          refine HC.cut (α := Int) (fun q => [(0, .slice (some ⟨b0, off0, none⟩) l.length c), (3, zv (i : Int)), (4, .pointer (some ⟨b4, 0, none⟩)), (5, .bool own), (6, zv (k : Int)), (7, zv q)]) (fun _ => [A.blk b4 [zv idn, zv kn, zv pn, .slice (some ⟨bs, os, none⟩) m cs] 31]) (fun q => IxP (l.take i) (getI src k) q) ?_ ?_
          · refine HC.anyC ([(⟨b4, 3, none⟩, .slice (some ⟨bs, os, none⟩) m cs), (⟨bs, os + k, none⟩, zv (getI src k))]) rfl ?_
            refine HB.pa 0 rfl ?_
            refine HB.pa 1 rfl ?_
            refine HB.pa 2 rfl ?_
            refine HB.pa 3 rfl ?_
            refine HB.ld 4 rfl rfl memD ?_
            refine HB.pa 5 rfl ?_
            refine HB.pa 6 rfl ?_
            refine HB.ld 7 rfl rfl memD ?_
            refine HB.all (by repeat (first | exact Keep.nil | refine Keep.blk (by (repeat (first | exact List.Mem.head _ | apply List.Mem.tail)); done) rfl ?_ | refine Keep.grow (by (repeat (first | exact List.Mem.head _ | apply List.Mem.tail)); done) (by assumption) ?_ | refine Keep.base (by assumption) ?_)) [8] (by kernel_rfl) rfl ⟨⟨_, rfl, ?_⟩, trivial⟩
            refine HP.one ?_
            refine H1.callp (V := fun q : Int => zv q) (I := fun q => IxP (l.take i) (getI src k) q) (vs := [_, _]) rfl rfl (fun w' hM => by
                have hp := hR.pre (k := i) (by omega)
                have e1 : (l.take i).length = i := by rw [List.length_take]; omega
                exact index24_fn (getI src k) (by omega) w' (hp.ext hM.ext)) ?_
            intro q hq
            apply HB.fold
            refine HB.pa 9 rfl ?_
            refine HB.done (by repeat (first | exact Keep.nil | refine Keep.blk (by (repeat (first | exact List.Mem.head _ | apply List.Mem.tail)); done) rfl ?_ | refine Keep.grow (by (repeat (first | exact List.Mem.head _ | apply List.Mem.tail)); done) (by assumption) ?_ | refine Keep.base (by assumption) ?_)) (by kernel_rfl) ?_
            exact HX.cut q hq esA (by repeat (first | exact Hs.nil _ | (refine Hs.cons pickA ?_)))
          intro q hq
          have hkm2 : k < src.length := by omega
          cases hq with
          | no e0 h2 =>
            have hno : validN l = false := hbad0 fun ⟨h1, _⟩ => by
              have h3 := h1.srcs (getI src k) (getI_mem hkm2)
              rw [pkOf_mem] at h3
              obtain ⟨n, hn, e⟩ := h3
              obtain ⟨j, hj, rfl⟩ := mem_nd.1 hn
              exact h2 j hj e.symm
            subst e0
            refine hwOV ?_
            repeat refine HC.seq ?_
            refine HC.quietS [(some 87, [7], []), (some 88, [87], [0]), (some 89, [88], [1]), (some 90, [6, 89], [2]), (some 91, [90, 89], [3, 2]), (some 92, [91, 89], [4, 2, 2]), (some 93, [4, 92], [5]), (some 94, [93, 92], [6, 5]), (some 95, [6, 92], [5]), (some 96, [95, 92], [8, 5]), (some 97, [94, 96, 92], [7, 9, 5]), (some 98, [97, 92], [10, 5]), (some 99, [4, 92], [5]), (some 100, [99, 92], [12, 5]), (some 101, [6, 92], [5]), (some 102, [100, 101, 92], [13, 14, 5]), (some 103, [102, 92], [15, 5]), (some 104, [98, 103, 92], [11, 16, 5]), (some 105, [92, 104, 89], [5, 17, 2]), (some 106, [89, 105], [2, 18])] (by kernel_rfl) (by kernel_rfl) (by kernel_rfl) ?_
            repeat' (first | refine HQ.pa ?_ | refine HQ.ga rfl ?_ | refine HQ.na rfl ?_ | refine HQ.nu rfl ?_ | refine HQ.ldb rfl memA rfl rfl ?_)
            refine HQ.nil ?_
            refine hwOV ?_
            exact HX.ret1 rfl rfl fun w' hM => ⟨by rw [hno], hM.ext⟩
          | yes j e0 hj h2 =>
            subst e0
            have hji : j < i := by rw [List.length_take] at hj; omega
            rw [ndAt_takeL hji] at h2
            have hjl : j < l.length := by omega
            have hpj := hb j hjl 2 (zv (ndAt l j).pack) rfl
            have hs1 : ∀ q, q < k + 1 → ∃ j, j < i ∧ getI src q = (ndAt l j).id := fun q hq => by
              by_cases e : q = k
              · exact ⟨j, hji, by rw [e, h2]⟩
              · exact g1 q (by omega)
            have hown : (∃ q, q < k + 1 ∧ ∃ j, j < i ∧ getI src q = (ndAt l j).id ∧ (ndAt l j).pack = pn) ↔ (own = true ∨ (ndAt l j).pack = pn) := by
              rw [g3]
              constructor
              · rintro ⟨q, hq, j', hj', e1, e2⟩
                by_cases e : q = k
                · refine .inr ?_
                  rw [e, ← h2] at e1
                  have h5 := hI.pk hi hji
                  rw [e1, hI.pk hi hj'] at h5
                  rw [← e2]
                  exact (Option.some.inj h5).symm
                · exact .inl ⟨q, by omega, j', hj', e1, e2⟩
              · rintro (⟨q, hq, h⟩ | h)
                · exact ⟨q, by omega, h⟩
                · exact ⟨k, by omega, j, hji, h2.symm, h⟩
            generalize (ndAt l j).pack = pj at hpj hown
            have hjn : ¬ ((j : Nat) : Int) < 0 := by omega
            have hjc : ((j : Nat) : Int) < (l.length : Int) := by omega
            by_cases hk0 : 0 < k
            · have hk0' : (0 : Int) < (k : Int) := by omega
              have hx1 : w.cell? ⟨bs, os + (((k : Nat) : Int) - 1).toNat, none⟩ = some (zv (getI src (k - 1))) := by
                rw [show (((k : Nat) : Int) - 1).toNat = k - 1 by omega]
                exact hsr.cell (ints_getI (l := src) (i := k - 1) (by omega))
              have hs2' : getI src (k - 1) < getI src k → ∀ q, 0 < q → q < k + 1 → getI src (q - 1) < getI src q := fun h q h0 hq => by
                by_cases e : q = k
                · rw [e]; exact h
                · exact g2 q h0 (by omega)
              have hdesc : getI src k ≤ getI src (k - 1) → validN l = false := fun h => hbad0 fun ⟨h1, _⟩ => by
                have h3 := List.pairwise_iff_getElem.1 h1.asc (k - 1) k (by show k - 1 < src.length; omega) hkm2 (by omega)
                have e1 : getI src (k - 1) = src[k - 1]'(by omega) := by unfold getI; simp [show k - 1 < src.length by omega]
                have e2 : getI src k = src[k] := by unfold getI; simp [hkm2]
                rw [e1, e2] at h
                exact absurd h3 (by show ¬ src[k - 1]'(by omega) < src[k]; omega)
              generalize getI src (k - 1) = xp at hx1 hs2' hdesc
              generalize getI src k = xk at hcx hs2' hdesc
              refine hwOV ?_
              repeat refine HC.seq ?_
              refine HC.quietS [(some 87, [7], []), (some 88, [87], [0]), (some 89, [88], [1]), (some 90, [6, 89], [2]), (some 91, [90, 89], [3, 2]), (some 92, [91, 89], [4, 2, 2]), (some 93, [4, 92], [5]), (some 94, [93, 92], [6, 5]), (some 95, [6, 92], [5]), (some 96, [95, 92], [8, 5]), (some 97, [94, 96, 92], [7, 9, 5]), (some 98, [97, 92], [10, 5]), (some 99, [4, 92], [5]), (some 100, [99, 92], [12, 5]), (some 101, [6, 92], [5]), (some 102, [100, 101, 92], [13, 14, 5]), (some 103, [102, 92], [15, 5]), (some 104, [98, 103, 92], [11, 16, 5]), (some 105, [92, 104, 89], [5, 17, 2]), (some 106, [89, 105], [2, 18])] (by kernel_rfl) (by kernel_rfl) (by kernel_rfl) ?_
              repeat' (first | refine HQ.pa ?_ | refine HQ.ga rfl ?_ | refine HQ.na rfl ?_ | refine HQ.nu rfl ?_ | refine HQ.ldb rfl memA rfl rfl ?_)
              refine HQ.ld (a := ⟨bs, os + (((k : Nat) : Int) - 1).toNat, none⟩) rfl (fun w' hM => cell_ext hM.ext hx1) rfl ?_
              repeat' (first | refine HQ.pa ?_ | refine HQ.ga rfl ?_ | refine HQ.na rfl ?_ | refine HQ.nu rfl ?_ | refine HQ.ldb rfl memA rfl rfl ?_)
              refine HQ.ld (a := ⟨bs, os + k, none⟩) rfl (fun w' hM => cell_ext hM.ext hcx) rfl ?_
              by_cases has : xk ≤ xp
              · have hno := hdesc has
                repeat' (first | refine HQ.pa ?_ | refine HQ.ga rfl ?_ | refine HQ.na rfl ?_ | refine HQ.nu rfl ?_ | refine HQ.ldb rfl memA rfl rfl ?_)
                refine HQ.nil ?_
                refine hwOV ?_
                exact HX.ret1 rfl rfl fun w' hM => ⟨by rw [hno], hM.ext⟩
              have hs2 := hs2' (by omega)
              repeat' (first | refine HQ.pa ?_ | refine HQ.ga rfl ?_ | refine HQ.na rfl ?_ | refine HQ.nu rfl ?_ | refine HQ.ldb rfl memA rfl rfl ?_)
              refine HQ.nil ?_
              refine hwOV ?_
              repeat refine HC.seq ?_
              refine HC.quietS [(some 107, [5], []), (some 108, [107], [0]), (some 109, [0, 108], [1]), (some 110, [7, 108], [1]), (some 111, [109, 110, 108], [2, 3, 1]), (some 112, [111, 108], [4, 1]), (some 113, [112, 108], [5, 1]), (some 114, [4, 108], [1]), (some 115, [114, 108], [7, 1]), (some 116, [113, 115, 108], [6, 8, 1]), (some 117, [108, 116], [1, 9]), (some 5, [117], [10, 1, 0, 1, 2, 3, 4, 5, 6, 7, 8, 9, 10])] (by kernel_rfl) (by kernel_rfl) (by kernel_rfl) ?_
              cases own with
              | true =>
                have g4 := hown.2 (.inl rfl)
                repeat' (first | refine HQ.pa ?_ | refine HQ.ga rfl ?_ | refine HQ.na rfl ?_ | refine HQ.nu rfl ?_ | refine HQ.ldb rfl memA rfl rfl ?_)
                refine HQ.nil ?_
                refine hwOV ?_
                exact HX.again (k + 1, true) ⟨hkm, hs1, hs2, ⟨fun _ => g4, fun _ => rfl⟩⟩ (by show m - (k + 1) < m - k; omega) esA (by repeat (first | exact Hs.nil _ | (refine Hs.cons pickA ?_)))
              | false =>
                repeat' (first | refine HQ.pa ?_ | refine HQ.ga rfl ?_ | refine HQ.na rfl ?_ | refine HQ.nu rfl ?_ | refine HQ.ldb rfl memA rfl rfl ?_)
                refine HQ.ld (a := ⟨b0, off0 + j * 4 + 2, none⟩) rfl (fun w' hM => cell_ext hM.ext hpj) rfl ?_
                repeat' (first | refine HQ.pa ?_ | refine HQ.ga rfl ?_ | refine HQ.na rfl ?_ | refine HQ.nu rfl ?_ | refine HQ.ldb rfl memA rfl rfl ?_)
                by_cases hp : pj = pn
                · rw [decide_eq_true hp]
                  have g4 := hown.2 (.inr hp)
                  refine HQ.nil ?_
                  refine hwOV ?_
                  exact HX.again (k + 1, true) ⟨hkm, hs1, hs2, ⟨fun _ => g4, fun _ => rfl⟩⟩ (by show m - (k + 1) < m - k; omega) esA (by repeat (first | exact Hs.nil _ | (refine Hs.cons pickA ?_)))
                · rw [decide_eq_false hp]
                  refine HQ.nil ?_
                  refine hwOV ?_
                  exact HX.again (k + 1, false) ⟨hkm, hs1, hs2, ⟨fun h => Bool.noConfusion h, fun h => (hown.1 h).elim (fun h => Bool.noConfusion h) fun h => absurd h hp⟩⟩ (by show m - (k + 1) < m - k; omega) esA (by repeat (first | exact Hs.nil _ | (refine Hs.cons pickA ?_)))
            have hk0' : ¬ (0 : Int) < (k : Int) := by omega
            have hs2 : ∀ q, 0 < q → q < k + 1 → getI src (q - 1) < getI src q := fun q h0 hq => by omega
            refine hwOV ?_
            repeat refine HC.seq ?_
            refine HC.quietS [(some 87, [7], []), (some 88, [87], [0]), (some 89, [88], [1]), (some 90, [6, 89], [2]), (some 91, [90, 89], [3, 2]), (some 92, [91, 89], [4, 2, 2]), (some 93, [4, 92], [5]), (some 94, [93, 92], [6, 5]), (some 95, [6, 92], [5]), (some 96, [95, 92], [8, 5]), (some 97, [94, 96, 92], [7, 9, 5]), (some 98, [97, 92], [10, 5]), (some 99, [4, 92], [5]), (some 100, [99, 92], [12, 5]), (some 101, [6, 92], [5]), (some 102, [100, 101, 92], [13, 14, 5]), (some 103, [102, 92], [15, 5]), (some 104, [98, 103, 92], [11, 16, 5]), (some 105, [92, 104, 89], [5, 17, 2]), (some 106, [89, 105], [2, 18])] (by kernel_rfl) (by kernel_rfl) (by kernel_rfl) ?_
            repeat' (first | refine HQ.pa ?_ | refine HQ.ga rfl ?_ | refine HQ.na rfl ?_ | refine HQ.nu rfl ?_ | refine HQ.ldb rfl memA rfl rfl ?_)
            refine HQ.nil ?_
            refine hwOV ?_
            repeat refine HC.seq ?_
            refine HC.quietS [(some 107, [5], []), (some 108, [107], [0]), (some 109, [0, 108], [1]), (some 110, [7, 108], [1]), (some 111, [109, 110, 108], [2, 3, 1]), (some 112, [111, 108], [4, 1]), (some 113, [112, 108], [5, 1]), (some 114, [4, 108], [1]), (some 115, [114, 108], [7, 1]), (some 116, [113, 115, 108], [6, 8, 1]), (some 117, [108, 116], [1, 9]), (some 5, [117], [10, 1, 0, 1, 2, 3, 4, 5, 6, 7, 8, 9, 10])] (by kernel_rfl) (by kernel_rfl) (by kernel_rfl) ?_
            cases own with
            | true =>
              have g4 := hown.2 (.inl rfl)
              repeat' (first | refine HQ.pa ?_ | refine HQ.ga rfl ?_ | refine HQ.na rfl ?_ | refine HQ.nu rfl ?_ | refine HQ.ldb rfl memA rfl rfl ?_)
              refine HQ.nil ?_
              refine hwOV ?_
              exact HX.again (k + 1, true) ⟨hkm, hs1, hs2, ⟨fun _ => g4, fun _ => rfl⟩⟩ (by show m - (k + 1) < m - k; omega) esA (by repeat (first | exact Hs.nil _ | (refine Hs.cons pickA ?_)))
            | false =>
              repeat' (first | refine HQ.pa ?_ | refine HQ.ga rfl ?_ | refine HQ.na rfl ?_ | refine HQ.nu rfl ?_ | refine HQ.ldb rfl memA rfl rfl ?_)
              refine HQ.ld (a := ⟨b0, off0 + j * 4 + 2, none⟩) rfl (fun w' hM => cell_ext hM.ext hpj) rfl ?_
              repeat' (first | refine HQ.pa ?_ | refine HQ.ga rfl ?_ | refine HQ.na rfl ?_ | refine HQ.nu rfl ?_ | refine HQ.ldb rfl memA rfl rfl ?_)
              by_cases hp : pj = pn
              · rw [decide_eq_true hp]
                have g4 := hown.2 (.inr hp)
                refine HQ.nil ?_
                refine hwOV ?_
                exact HX.again (k + 1, true) ⟨hkm, hs1, hs2, ⟨fun _ => g4, fun _ => rfl⟩⟩ (by show m - (k + 1) < m - k; omega) esA (by repeat (first | exact Hs.nil _ | (refine Hs.cons pickA ?_)))
              · rw [decide_eq_false hp]
                refine HQ.nil ?_
                refine hwOV ?_
                exact HX.again (k + 1, false) ⟨hkm, hs1, hs2, ⟨fun h => Bool.noConfusion h, fun h => (hown.1 h).elim (fun h => Bool.noConfusion h) fun h => absurd h hp⟩⟩ (by show m - (k + 1) < m - k; omega) esA (by repeat (first | exact Hs.nil _ | (refine Hs.cons pickA ?_)))
        have hkn : ¬ ((k : Nat) : Int) < (m : Int) := by omega
        have e : k = m := by omega
        rw [e] at g1 g2 g3
        cases own with
        | false =>
          have hno : validN l = false := hbad0 fun ⟨h1, _⟩ => by
            rcases h1.own with h2 | h2
            · exact k1 h2
            · obtain ⟨x, hx, h3⟩ := List.any_eq_true.1 h2
              obtain ⟨q, hq, e1⟩ := mem_getI2 hx
              obtain ⟨j, hj, e2⟩ := g1 q (by rw [hm]; exact hq)
              rw [e1, e2, hI.pk hi hj] at h3
              have h4 : (ndAt l j).pack = pn := by simpa using h3
              exact Bool.noConfusion (g3.2 ⟨q, by rw [hm]; exact hq, j, hj, e2, h4⟩)
          refine hwOV ?_
          exact HX.ret1 rfl rfl fun w' hM => ⟨by rw [hno], hM.ext⟩
        | true =>
          have hP : HasP (l.take i) ⟨idn, kn, pn, src⟩ := by
            refine ⟨hok.1, hok.2.1, hok.2.2.1, hok.2.2.2.1, by show src.length ≤ 8; omega, ?_, fun x hx => ?_, .inr ?_, ?_⟩
            · show kn = 1 ↔ src.length = 0
              rw [← hm]
              exact ⟨fun h => absurd h k1, fun h => absurd (by omega) m0⟩
            · obtain ⟨q, hq, e1⟩ := mem_getI2 hx
              obtain ⟨j, hj, e2⟩ := g1 q (by rw [hm]; exact hq)
              rw [e1, e2, hI.pk hi hj]; rfl
            · obtain ⟨q, hq, j, hj, e2, h4⟩ := g3.1 rfl
              refine List.any_eq_true.2 ⟨getI src q, getI_mem (by rw [← hm]; exact hq), ?_⟩
              rw [e2, hI.pk hi hj, h4]
              simp
            · exact asc_adj fun q h0 hq => g2 q h0 (by rw [hm]; exact hq)
          refine hwOV ?_
          exact HX.again (i + 1) ⟨hlt, hnext hP hok.2.2.2.2.1⟩ (by show l.length - (i + 1) < l.length - i; omega) esA (by repeat (first | exact Hs.nil _ | (refine Hs.cons pickA ?_)))
end Go.Sx
/- Chapter 24: the reference's leaves: the walk. -/
namespace Go.Sx
open Go Go.Proofs Go.RowKit
theorem hwO0 {G G2 : Prop} (x : G2) (hwq : Hold G2 → G := by
    intro hQq
    repeat' (first | refine HL.pa ?_ (POp.nilCheck rfl) | apply HL.fold | apply HA.fold | apply HL.nil | apply HX.n_then | apply HC.seq | apply HC.region | refine HL.pa ?_ | refine HL.ga rfl ?_ | refine HL.na rfl ?_ | refine HL.nu rfl rfl ?_ | apply HC.block | apply HC.skip | apply HC.exit | apply HC.ret | apply HX.e_block | refine HX.e_other rfl ?_ | apply HX.e_then | apply HX.e_again | apply HX.n_block | apply HX.r_then | apply HX.r_block | apply HX.r_again | refine HC.cond_yes rfl ?_ | refine HC.cond_no rfl ?_ | refine HL.one (H1.ldb rfl memA rfl rfl ?_) | refine HC.cond rfl (fun hc => ?_) (fun hc => ?_) | refine HC.cond_b rfl (fun hc => ?_) (fun hc => ?_))
    exact hQq.get) : G := hwq ⟨x⟩
attribute [local irreducible] WC WL WX POp Then Again Fn NX W1 WA WO QL RP RA Yld LoopAt HC HL HX HN H1 HA HO HQ HB HP A.blk A.grow A.rd A.obj A.mp AgainH CutH
attribute [local irreducible] A.mq A.mit A.all leafB
set_option maxHeartbeats 2000000 in
theorem leaves24_fn {v g : Value} {l : List Nd} {D : List ByteArray} {U : Nat → Value} (hok : okS l D = true) (w : World) (hR : RdN w v l U) (hS : Rd w g (strs D)) :
    Fn Tryz.prog 17 #[v, g] w fun u w' => ∃ z : Option Addr × Nat, True ∧ u = .tuple #[.slice z.1 l.length z.2, .bool true] ∧ Mm w [A.grow 9 1 z.1 z.2 l.length (strs ((l.zip D).map leafP))] w' := by
  have hv := okS_valid hok
  have hlD := (okS_facts hok).2.1
  have h32 := (okS_facts hok).2.2
  have hll := hv.len
  obtain ⟨a, c, rfl, hc, -⟩ := id hR.shape
  obtain ⟨a2, c2, rfl⟩ : ∃ a' c', g = .slice a' D.length c' := by
    obtain ⟨a', c', h1, -⟩ := id hS
    rw [strs_len] at h1
    exact ⟨a', c', h1⟩
  refine enterH (l := [_, _]) rfl Tryz.ntmps17 rfl ?_
  refine hwO0 ?_
  refine HL.one (H1.callx (u := .bool true) (vs := [_]) rfl rfl (fun w' hM => by
    have h := valid24ref_fn (by omega) (fun i hi => by have := (nd_ok hv hi).len; omega) w' (hR.ext hM.ext)
    rw [validN_iff.2 hv] at h; exact h) ?_)
  have hld : ¬ ((l.length : Nat) : Int) ≠ (D.length : Int) := by omega
  have hld2 : ((l.length : Nat) : Int) = (D.length : Int) := by omega
  refine hwO0 ?_
  refine HC.grow0 9 1 ?_
  refine HC.loop (α := Nat × Option Addr × Nat) (fun q => [(0, .slice a l.length c), (1, .slice a2 D.length c2), (7, .slice q.2.1 q.1 q.2.2), (8, zv (q.1 : Int))]) (fun q => [A.grow 9 1 q.2.1 q.2.2 q.1 (strs (((l.zip D).take q.1).map leafP))]) (fun q => q.1 ≤ l.length) (fun q => l.length - q.1) (0, none, 0) (Nat.zero_le _) esA (by repeat (first | exact Hs.nil _ | (refine Hs.cons pickA ?_))) ?_
  rintro ⟨k, az, cz⟩ hk
  dsimp only at hk ⊢
  by_cases hlt : k < l.length
  · have hn : ((k : Nat) : Int) < (l.length : Int) := by omega
    have hn2 : ((k : Nat) : Int) < (D.length : Int) := by omega
    have hkD : k < D.length := by omega
    obtain ⟨b0, off0, rfl, hb⟩ := hR.cell hlt
    have hcell := hb k hlt
    obtain ⟨b2, off2, rfl⟩ := rd_addr hS hkD
    have hcd := hS.cell (strs_getB hkD)
    have hsd := h32 _ (getB_mem hkD)
    have hsrc := hR.src k hlt
    have hnk := nd_ok hv hlt
    have hst : strs (((l.zip D).take k).map leafP) ++ [.string (leafB (ndAt l k) (getB D k))] = strs (((l.zip D).take (k + 1)).map leafP) := by rw [zip_take hlD hlt, List.map_append, strs_snoc]; rfl
    generalize getB D k = d at hcd hsd hst
    generalize ndAt l k = nd at hcell hsrc hnk hst
    generalize U k = us at hcell hsrc
    have hs0 : ((d.size : Nat) : Int) = 32 := by omega
    refine hwO0 ?_
    refine HL.one (H1.ld0 rfl hcd rfl ?_)
    refine hwO0 ?_
    refine HC.anyC ([(⟨b2, off2 + k, none⟩, .string d)]) rfl ?_
    refine HB.pa 0 rfl ?_
    refine HB.pa 1 rfl ?_
    refine HB.pa 2 rfl ?_
    refine HB.pa 3 rfl ?_
    refine HB.pa 5 rfl ?_
    refine HB.pa 6 rfl ?_
    refine HB.pa 7 rfl ?_
    refine HB.ld 8 rfl rfl memD ?_
    refine HB.all (by repeat (first | exact Keep.nil | refine Keep.blk (by (repeat (first | exact List.Mem.head _ | apply List.Mem.tail)); done) rfl ?_ | refine Keep.grow (by (repeat (first | exact List.Mem.head _ | apply List.Mem.tail)); done) (by assumption) ?_ | refine Keep.base (by assumption) ?_)) [4] (by kernel_rfl) rfl ⟨⟨_, rfl, ?_⟩, trivial⟩
    refine HP.one ?_
    refine H1.ldAggw (vs := ndC nd us) rfl rfl (fun w' hM j u hu => cell_ext hM.ext (hcell j u hu)) rfl ?_
    apply HB.fold
    refine HB.all (by repeat (first | exact Keep.nil | refine Keep.blk (by (repeat (first | exact List.Mem.head _ | apply List.Mem.tail)); done) rfl ?_ | refine Keep.grow (by (repeat (first | exact List.Mem.head _ | apply List.Mem.tail)); done) (by assumption) ?_ | refine Keep.base (by assumption) ?_)) [9] (by kernel_rfl) rfl ⟨⟨_, rfl, ?_⟩, trivial⟩
    refine HP.one ?_
    refine H1.callx (vs := [_, _]) rfl rfl (fun w' hM => leaf24_fn nd us d hnk (by omega) w' (hsrc.ext hM.ext)) ?_
    apply HB.fold
    refine HB.all (by repeat (first | exact Keep.nil | refine Keep.blk (by (repeat (first | exact List.Mem.head _ | apply List.Mem.tail)); done) rfl ?_ | refine Keep.grow (by (repeat (first | exact List.Mem.head _ | apply List.Mem.tail)); done) (by assumption) ?_ | refine Keep.base (by assumption) ?_)) [10] (by kernel_rfl) rfl ⟨⟨_, rfl, ?_⟩, trivial⟩
    refine HP.one ?_
    refine H1.lit (cs := [.string (leafB nd d)]) rfl rfl rfl rfl rfl rfl (fun b10 => ?_)
    apply HB.fold
    refine HB.all (by repeat (first | exact Keep.nil | refine Keep.blk (by (repeat (first | exact List.Mem.head _ | apply List.Mem.tail)); done) rfl ?_ | refine Keep.grow (by (repeat (first | exact List.Mem.head _ | apply List.Mem.tail)); done) (by assumption) ?_ | refine Keep.base (by assumption) ?_)) [11] (by kernel_rfl) rfl ⟨⟨_, rfl, ?_⟩, trivial⟩
    refine HP.one ?_
    refine H1.app1 (u := .string (leafB nd d)) rfl rfl (fun _ _ => by first | ((repeat (first | with_reducible exact Rpl.here | with_reducible apply Rpl.there)); done) | (repeat (first | exact Rpl.here | apply Rpl.there))) memA rfl rfl (by omega) rfl rfl (fun a' c' => ?_)
    rw [hst]
    apply HB.fold
    refine HB.pa 12 rfl ?_
    refine HB.done (by repeat (first | exact Keep.nil | refine Keep.blk (by (repeat (first | exact List.Mem.head _ | apply List.Mem.tail)); done) rfl ?_ | refine Keep.grow (by (repeat (first | exact List.Mem.head _ | apply List.Mem.tail)); done) (by assumption) ?_ | refine Keep.base (by assumption) ?_)) (by kernel_rfl) ?_
    refine hwO0 ?_
    exact HX.again (k + 1, some ⟨a', 0, none⟩, c') hlt (by show l.length - (k + 1) < l.length - k; omega) esA (by repeat (first | exact Hs.nil _ | (refine Hs.cons pickA ?_)))
  have hn : ¬ ((k : Nat) : Int) < (l.length : Int) := by omega
  have e : k = l.length := by omega
  rw [e, show (l.zip D).take l.length = l.zip D from List.take_of_length_le (by rw [List.length_zip]; omega)]
  refine hwO0 ?_
  exact HX.ret2 rfl rfl rfl fun w' hM => ⟨(az, cz), trivial, rfl, hM⟩
end Go.Sx
/- Chapter 24, plain: the same root, the same nodes, or two strings with the same digest. -/
namespace Go.Sx
open Go Go.Proofs Go.RowKit
theorem zip_inj {l m : List Nd} {D E : List ByteArray} (h1 : l.length = D.length) (h2 : m.length = E.length) (e : l.zip D = m.zip E) : l = m ∧ D = E := by
  have a := congrArg (List.map Prod.fst) e
  have b := congrArg (List.map Prod.snd) e
  rw [List.map_fst_zip (by omega), List.map_fst_zip (by omega)] at a
  rw [List.map_snd_zip (by omega), List.map_snd_zip (by omega)] at b
  exact ⟨a, b⟩
theorem leafs_inj : ∀ {p q : List (Nd × ByteArray)}, (∀ x ∈ p, NdOk x.1) → (∀ x ∈ q, NdOk x.1) → p.map leafP = q.map leafP → p = q
  | [], [], _, _, _ => rfl
  | x :: p, y :: q, hp, hq, h => by
    rw [List.map_cons, List.map_cons] at h
    injection h with h1 h2
    obtain ⟨e1, e2⟩ := leafB_inj (hp x (.head _)) (hq y (.head _)) h1
    rw [leafs_inj (fun z hz => hp z (.tail _ hz)) (fun z hz => hq z (.tail _ hz)) h2, show x = y from Prod.ext e1 e2]
  | [], _ :: _, _, _, h => by cases h
  | _ :: _, [], _, _, h => by cases h
theorem zip_ok {l : List Nd} {D : List ByteArray} (h : okS l D = true) : ∀ x ∈ l.zip D, NdOk x.1 ∧ x.2.size = 32 := by
  intro x hx
  have hm := List.of_mem_zip hx
  obtain ⟨i, hi, e⟩ := List.getElem_of_mem hm.1
  have := nd_ok (okS_valid h) hi
  unfold ndAt at this
  rw [List.getD_eq_getElem?_getD, List.getElem?_eq_getElem hi, e] at this
  exact ⟨this, (okS_facts h).2.2 _ hm.2⟩
theorem leafs_size {l : List Nd} {D : List ByteArray} (h : okS l D = true) : ∀ s ∈ (l.zip D).map leafP, s.size ≤ 2000 := by
  intro s hs
  obtain ⟨x, hx, rfl⟩ := List.mem_map.1 hs
  exact leafB_size (zip_ok h x hx).1 (by rw [(zip_ok h x hx).2]; decide)
theorem hashL_size {B : Nat} (hB : 65 ≤ B) : ∀ (n : Nat) (l : List ByteArray), l.length = n → (∀ s ∈ l, s.size + 1 ≤ B) → ∀ x ∈ hashL l, x.size ≤ B := by
  intro n
  induction n using Nat.strongRecOn with
  | ind n ih =>
    intro l hl hs x hx
    by_cases h : 2 ≤ l.length
    · rw [hashL_step h] at hx
      have h1 := leftN_lt h
      have h2 := leftN_pos l.length
      rcases List.mem_append.1 hx with hx | hx
      · rcases List.mem_append.1 hx with hx | hx
        · exact ih _ (by rw [List.length_take]; omega) _ rfl (fun s hh => hs s (List.mem_of_mem_take hh)) x hx
        · exact ih _ (by rw [List.length_drop]; omega) _ rfl (fun s hh => hs s (List.mem_of_mem_drop hh)) x hx
      · cases List.mem_singleton.1 hx
        rw [ByteArray.size_append, ByteArray.size_append, mroot_size, mroot_size]
        exact hB
    · match l, h with
      | [], _ => rw [hashL_nil] at hx; cases List.mem_singleton.1 hx; exact Nat.zero_le _
      | [y], _ =>
        rw [hashL_one] at hx
        cases List.mem_singleton.1 hx
        rw [mkB_size]
        have := hs y (.head _)
        omega
      | _ :: _ :: _, h => exact absurd (by simp) h
theorem bound_plain {l m : List Nd} {D E : List ByteArray} (h1 : okS l D = true) (h2 : okS m E = true) (hl : l.length = m.length) (hr : rootP (l.zip D) = rootP (m.zip E)) :
    (eqNs l m && decide (D = E)) = true ∨ colB (hashL ((l.zip D).map leafP)) (hashL ((m.zip E).map leafP)) = true := by
  unfold rootP at hr
  rw [rootS_eq, rootS_eq] at hr
  have f1 := (okS_facts h1).2.1
  have f2 := (okS_facts h2).2.1
  rcases mroot_col _ _ _ rfl (by rw [List.length_map, List.length_map, List.length_zip, List.length_zip]; omega) hr with h | h
  · obtain ⟨a, b⟩ := zip_inj f1 f2 (leafs_inj (fun x hx => (zip_ok h1 x hx).1) (fun x hx => (zip_ok h2 x hx).1) h)
    exact .inl (by rw [eqNs_iff.2 a, decide_eq_true b]; rfl)
  · exact .inr (colB_iff.2 h)
end Go.Sx
