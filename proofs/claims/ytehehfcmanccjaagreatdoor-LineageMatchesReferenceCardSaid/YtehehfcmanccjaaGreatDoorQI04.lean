/- Chapter 24: Valid: the walk. -/
import Derived.Test.YtehehfcmanccjaaGreatDoorQI03
import Derived.Shelf.Strings.Builder1
import Derived.Shelf.Strings.Builder2
import Derived.Shelf.Strings.OnBuilder
import Derived.Shelf.Small.Bits
import Derived.Shelf.Small.Wraps
import Derived.Shelf.Strings.BuilderF
import Derived.Shelf.Strings.BuilderK
import Derived.Shelf.Strings.Builder2Cap
import Derived.Shelf.Strconv.Itoa0
import Derived.Shelf.Sort.Plain
import Derived.Shelf.Strings.BuilderCap
import Derived.Shelf.Slices.Equal
import Derived.Ground.Names2Prog
import Derived.Shelf.Slices.Clone
import Derived.Shelf.Slices.CompactI
import Derived.Shelf.Slices.SearchI
import Derived.Shelf.Slices.Cells
import Derived.Shelf.Slices.In.SortNone
import Derived.Shelf.Slices.Empties2
import Derived.Test.YtehehfcmanccjaaGreatDoorProg
import Derived.Shelf.SlSortCmp.NoneTotal
import Derived.Laws.OwnMore
import Derived.Shelf.SlGeneric
import Derived.Shelf.Spec.SlicesGrow
import Derived.Ground.Names8Prog
namespace Go.Sx
open Go Go.Proofs Go.RowKit
theorem rd_one {w : World} {v : Value} {l : List Value} (h : Rd w v l) : v.oneCell' = true := by
 obtain ⟨a, c, rfl, -⟩ := h
 rfl
theorem allN_stop {l : List Nd} {k : Nat} (hk : k < l.length) (h : hasN (l.take k) (ndAt l k) = false) : validN l = false := by
 unfold validN; rw [allN_false h hk]; rfl
attribute [local irreducible] WC WL WX POp Then Again Fn NX W1 WA WO QL RP RA Yld LoopAt HC HL HX HN H1 HA HO HQ HB HP A.blk A.grow A.rd A.obj A.mp AgainH CutH
attribute [local irreducible] A.mq A.mit
theorem valid24_fn {v : Value} {l : List Nd} {U : Nat → Value} (hl : l.length ≤ 1000000) (hs : ∀ i, i < l.length → (ndAt l i).src.length ≤ 1000000) (w : World) (hR : RdN w v l U) :
  Fn Tryz.prog 26 #[v] w fun u w' => u = .bool (validN l) ∧ Ext w w' := by
 have hU : ∀ i, i < l.length → (U i).oneCell' = true := fun i hi => rd_one (hR.src i hi)
 obtain ⟨a, c, rfl, hc, hcl⟩ := hR.shape
 refine enterH (l := [_]) rfl Tryz.ntmps26 rfl ?_
 refine hwNB ?_
 refine HL.one (H1.mkmq .i64 rfl (fun bm => ?_))
 refine hwNB ?_
 refine HC.loop (α := Nat) (fun k => [(0, .slice a l.length c), (3, .map (some bm)), (7, .slice a l.length c), (8, zv (l.length : Int)), (9, zv (k : Int))]) (fun k => [A.mq bm .i64 (trM l U k)]) (fun k => k ≤ l.length ∧ allN l k = true) (fun k => l.length - k) 0 ⟨Nat.zero_le _, rfl⟩ esA (Hs.refl _) ?_
 rintro k ⟨hk, hA⟩
 by_cases hlt : k < l.length
 rotate_left
 ·have hn : ¬ ((k : Nat) : Int) < (l.length : Int) := by omega
  obtain rfl : k = l.length := by omega
  by_cases h4 : l.length ≤ 400
  rotate_left
  ·have h4' : ¬ ((l.length : Nat) : Int) ≤ 400 := by omega
   refine hwNB ?_
   exact HX.ret1 rfl rfl fun w' hM => ⟨by unfold validN; rw [decide_eq_false h4]; simp, hM.ext⟩
  have h4' : ((l.length : Nat) : Int) ≤ 400 := by omega
  refine hwNB ?_
  refine HL.one (H1.callx (vs := [_, _]) rfl rfl (fun w' hM => ascN_fn l hl w' (hR.ext hM.ext)) ?_)
  refine hwNB ?_
  exact HX.ret1 rfl rfl fun w' hM => ⟨by unfold validN; rw [hA, decide_eq_true h4]; simp, hM.ext⟩
 have hn : ((k : Nat) : Int) < (l.length : Int) := by omega
 obtain ⟨b, off, rfl, hb⟩ := hR.cell hlt
 have hx := hb k hlt
 refine hwNB ?_
 refine HL.one (H1.ldAggw (b := b) (off := off + k * 4) (vs := ndC (ndAt l k) (U k)) rfl rfl (fun w' hM j u hu => cell_ext hM.ext (hx j u hu)) rfl ?_)
 refine hwNB ?_
 refine HL.one (H1.alloc (cs := ndC ⟨0, 0, 0, []⟩ (.slice none 0 0)) rfl rfl (fun b9 => ?_))
 refine hwNB ?_
 refine HL.one (H1.stAgg (cs := ndC ⟨0, 0, 0, []⟩ (.slice none 0 0)) (vs := ndC (ndAt l k) (U k)) rfl rfl rfl (nd_one (hU k hlt)) rplA rfl ?_)
 refine hwNB ?_
 refine HL.one (H1.ldAgg (vs := ndC (ndAt l k) (U k)) rfl memA rfl (fun i v hv => by rw [Nat.zero_add]; exact hv) rfl ?_)
 refine hwNB ?_
 refine HL.one (H1.callk (α := Unit) (V := fun _ => .bool (hasN (l.take k) (ndAt l k))) (I := fun _ => True) (H' := fun _ => [A.mq bm .i64 (trM l U k), A.blk b9 (ndC (ndAt l k) (U k)) 31]) (vs := [.map (some bm), ndV (ndAt l k) (U k)]) rfl rfl (fun w' hM => (has24_fn (ndAt l k) (U k) (Nat.le_of_lt hlt) hU (hs k hlt) (hR.src k hlt) (hM.sub (Hs.cons (Pick.there Pick.here) (Hs.cons Pick.here (Hs.refl _))))).mono fun u w2 h => h) ?_)
 rintro - -
 cases hh : hasN (l.take k) (ndAt l k) with
 | false =>
  refine hwNB ?_
  exact HX.ret1 rfl rfl fun w' hM => ⟨by rw [allN_stop hlt hh], hM.ext⟩
 | true =>
  refine hwNB ?_
  refine HL.one (H1.ldAgg (vs := ndC (ndAt l k) (U k)) rfl memA rfl (fun i v hv => by rw [Nat.zero_add]; exact hv) rfl ?_)
  refine hwNB ?_
  refine HL.one (H1.mqset (H' := [A.mq bm .i64 (trM l U (k + 1)), A.blk b9 (ndC (ndAt l k) (U k)) 31]) rfl rfl rfl rplA ?_)
  refine hwNB ?_
  exact HX.again (k + 1) ⟨hlt, by show (allN l k && hasN (l.take k) (ndAt l k)) = true; rw [hA, hh]; rfl⟩ (by show l.length - (k + 1) < l.length - k; omega) esA (Hs.cons Pick.here (Hs.refl _).skip)
end Go.Sx
/- Chapter 24: questions about numbers, strings and nodes: the walks of slices.IndexFunc and slices.ContainsFunc. -/
namespace Go.Sx
open Go Go.Proofs Go.RowKit
theorem hwNE {G G2 : Prop} (x : G2) (hwq : Hold G2 → G := by
  intro hQq
  repeat' (first | apply HL.fold | apply HA.fold | apply HL.nil | apply HX.n_then | apply HC.seq | apply HC.region | refine HL.pa ?_ | refine HL.ga rfl ?_ | refine HL.na rfl ?_ | refine HL.nu rfl rfl ?_ | apply HC.block | apply HC.skip | apply HC.exit | apply HC.ret | apply HX.e_block | refine HX.e_other rfl ?_ | apply HX.e_then | apply HX.e_again | apply HX.n_block | apply HX.r_then | apply HX.r_block | apply HX.r_again | refine HC.cond_yes rfl ?_ | refine HC.cond_no rfl ?_ | refine HL.one (H1.ldb rfl memA rfl rfl ?_) | refine HC.cond rfl (fun hc => ?_) (fun hc => ?_) | refine HC.cond_b rfl (fun hc => ?_) (fun hc => ?_))
  exact hQq.get) : G := hwq ⟨x⟩
def PQ {α : Type} (w : World) (fv : Value) (V : α → Value) (ok : α → Prop) (p : α → Bool) : Prop :=
 ∃ (f : FuncId) (pre cap : List Value), fv = .func (.func f) pre.toArray cap.toArray ∧ CallOk Tryz.prog f ∧ ∀ w', Ext w w' → ∀ x, ok x → Fn Tryz.prog f (pre ++ [V x] ++ cap).toArray w' fun v w'' => v = .bool (p x) ∧ Ext w' w''
theorem PQ.ext {α : Type} {w w' : World} {fv : Value} {V : α → Value} {ok : α → Prop} {p : α → Bool} (h : PQ w fv V ok p) (k : Ext w w') : PQ w' fv V ok p := by
 obtain ⟨f, pre, cap, h1, h2, h3⟩ := h
 exact ⟨f, pre, cap, h1, h2, fun w'' hx => h3 w'' (k.trans hx)⟩
section
variable {r : Option Nat} {N : Nat} {ds : List Deferred} {Q : Post} {E : Env} {w0 w : World} {H : List Atom} {next : Act → World → Prop} {g : Option (Nat × Bool)}
variable {d : Nat} {t t' ty e : TypeId} {pos : String} {af : Array Edge} {y z : Operand}
theorem H1.callpq {α : Type} {V : α → Value} {ok : α → Prop} {p : α → Bool} {d : Option Nat} {fv : Value} {x : α} {args : List Operand} {ats : Array TypeId} (hp : ∀ w, Mm w0 H w → PQ w fv V ok p) (hl : ok x) (hd : dOk d N = true) (hx : Env.ev E z = some fv) (ha : Env.evs E args = some [V x])
  (h : HN N ds next (putE d (.bool (p x)) E) w0 H) : H1 Tryz.prog r N ds next ⟨d, .call ⟨.value z, args.toArray, ats⟩, ty, pos, af, g⟩ Q E w0 H := fun w hM => by
 obtain ⟨f, pre, cap, rfl, hf, hc⟩ := hp w hM
 exact W1.enter hd (fun a hr => by
  have hm : Array.map a.eval args.toArray = [V x].toArray := by simp [hr.evs ha]
  simp [execOp, resolve, hm, hr.ev hx, Deferred.ofValue, invoke, hf.run]) (hc w (Ext.refl w) x hl) (by
  rintro v w' ⟨rfl, hx'⟩; exact h _ (hM.more hx'))
end
def FirstN (n : Nat) (p : Nat → Bool) (k : Int) : Prop := (k = -1 ∧ ∀ i, i < n → p i = false) ∨ ∃ j : Nat, k = (j : Int) ∧ j < n ∧ (∀ i, i < j → p i = false) ∧ p j = true
def anyN (n : Nat) (p : Nat → Bool) : Bool := (List.range n).any p
theorem FirstN.any {n : Nat} {p : Nat → Bool} {k : Int} (h : FirstN n p k) : decide (0 ≤ k) = anyN n p := by
 rw [Bool.eq_iff_iff, decide_eq_true_eq]
 unfold anyN
 rw [List.any_eq_true]
 rcases h with ⟨rfl, h⟩ | ⟨j, rfl, hj, -, hp⟩
 ·constructor
  ·intro h0; exact absurd h0 (by decide)
  ·rintro ⟨i, hi, hp⟩
   rw [h i (List.mem_range.1 hi)] at hp; cases hp
 ·exact ⟨fun _ => ⟨j, List.mem_range.2 hj, hp⟩, fun _ => Int.natCast_nonneg j⟩
def getB (l : List ByteArray) (i : Nat) : ByteArray := l.getD i default
theorem getI_mem {l : List Int} {i : Nat} (h : i < l.length) : getI l i ∈ l := by unfold getI; simp [h]
theorem getB_mem {l : List ByteArray} {i : Nat} (h : i < l.length) : getB l i ∈ l := by unfold getB; simp [h]
theorem strs_getB {l : List ByteArray} {i : Nat} (h : i < l.length) : (strs l)[i]? = some (.string (getB l i)) := by unfold strs getB; simp [h]
theorem rd_addr {w : World} {a : Option Addr} {n c j : Nat} {vs : List Value} (hR : Rd w (.slice a n c) vs) (h : j < n) : ∃ b off, a = some ⟨b, off, none⟩ := by
 obtain ⟨a', c', h1, h2, h3⟩ := hR
 cases h1
 rcases h3 with h3 | ⟨b, off, h4, -⟩
 ·subst h3; exact absurd h (Nat.not_lt_zero _)
 ·exact ⟨b, off, h4⟩
theorem anyN_list {α : Type} (l : List α) (f : Nat → α) (p : α → Bool) (h : ∀ i (hi : i < l.length), f i = l[i]) : anyN l.length (fun i => p (f i)) = l.any p := by
 rw [Bool.eq_iff_iff]
 unfold anyN
 rw [List.any_eq_true, List.any_eq_true]
 constructor
 ·rintro ⟨i, hi, hp⟩
  have hi' := List.mem_range.1 hi
  exact ⟨l[i], List.getElem_mem hi', by rw [← h i hi']; exact hp⟩
 ·rintro ⟨x, hx, hp⟩
  obtain ⟨i, hi, rfl⟩ := List.getElem_of_mem hx
  exact ⟨i, List.mem_range.2 hi, by rw [h i hi]; exact hp⟩
theorem anyI (l : List Int) (p : Int → Bool) : anyN l.length (fun i => p (getI l i)) = l.any p := anyN_list l _ p fun i hi => by unfold getI; simp [hi]
theorem anyB (l : List ByteArray) (p : ByteArray → Bool) : anyN l.length (fun i => p (getB l i)) = l.any p := anyN_list l _ p fun i hi => by unfold getB; simp [hi]
attribute [local irreducible] WC WL WX POp Then Again Fn NX W1 WA WO QL RP RA Yld LoopAt HC HL HX HN H1 HA HO HQ HB HP A.blk A.grow A.rd A.obj A.mp AgainH CutH
theorem indexI_fn {a : Option Addr} {c : Nat} {l : List Int} {p : Int → Bool} {fv : Value} (hl : l.length ≤ 1000000) (w : World) (hR : Rd w (.slice a l.length c) (ints l)) (hp : PQ w fv zv (fun x => x ∈ l) p) :
  Fn Tryz.prog 119 #[.slice a l.length c, fv] w fun v w' => ∃ k : Int, FirstN l.length (fun i => p (getI l i)) k ∧ v = zv k ∧ Ext w w' := by
 refine enterH (l := [_, _]) rfl Tryz.ntmps119 rfl ?_
 refine hwNE ?_
 refine HC.loop (α := Nat) (fun j => [(0, .slice a l.length c), (1, fv), (7, zv (l.length : Int)), (8, zv (j : Int))]) (fun _ => []) (fun j => j ≤ l.length ∧ ∀ i, i < j → p (getI l i) = false) (fun j => l.length - j) 0 ⟨Nat.zero_le _, fun i hi => absurd hi (Nat.not_lt_zero _)⟩ esA (Hs.refl _) ?_
 rintro j ⟨hj, hI⟩
 by_cases hlt : j < l.length
 ·have hn : ((j : Nat) : Int) < (l.length : Int) := by omega
  obtain ⟨b, off, rfl⟩ := rd_addr hR hlt
  have hcl := hR.cell (ints_getI hlt)
  refine hwNE ?_
  refine HL.one (H1.ld0 rfl hcl rfl ?_)
  refine hwNE ?_
  refine HL.one (H1.callpq (x := getI l j) (fun w' hM => hp.ext hM.ext) (getI_mem hlt) rfl rfl rfl ?_)
  cases hpr : p (getI l j)
  ·refine hwNE ?_
   exact HX.again (j + 1) ⟨hlt, fun i hi => by
    by_cases e : i = j
    ·rw [e]; exact hpr
    ·exact hI i (by omega)⟩ (by omega) esA (Hs.refl _)
  ·refine hwNE ?_
   exact HX.ret1 rfl rfl fun w' hM => ⟨j, .inr ⟨j, rfl, hlt, hI, hpr⟩, rfl, hM.ext⟩
 have hn : ¬ ((j : Nat) : Int) < (l.length : Int) := by omega
 obtain rfl : j = l.length := by omega
 refine hwNE ?_
 exact HX.ret1 rfl rfl fun w' hM => ⟨-1, .inl ⟨rfl, hI⟩, rfl, hM.ext⟩
theorem contI_fn {a : Option Addr} {c : Nat} {l : List Int} {p : Int → Bool} {fv : Value} (hl : l.length ≤ 1000000) (w : World) (hR : Rd w (.slice a l.length c) (ints l)) (hp : PQ w fv zv (fun x => x ∈ l) p) :
  Fn Tryz.prog 85 #[.slice a l.length c, fv] w fun v w' => v = .bool (anyN l.length fun i => p (getI l i)) ∧ Ext w w' := by
 refine enterH (l := [_, _]) rfl Tryz.ntmps85 rfl ?_
 refine hwNE ?_
 refine HL.one (H1.callp (α := Int) (V := zv) (I := fun k => FirstN l.length (fun i => p (getI l i)) k) (vs := [.slice a l.length c, fv]) rfl rfl (fun w' hM => indexI_fn hl w' (hR.ext hM.ext) (hp.ext hM.ext)) ?_)
 intro k hk
 refine hwNE ?_
 exact HX.ret1 rfl rfl fun w' hM => ⟨congrArg Value.bool hk.any, hM.ext⟩
theorem indexS_fn {a : Option Addr} {c : Nat} {l : List ByteArray} {p : ByteArray → Bool} {fv : Value} (hl : l.length ≤ 1000000) (w : World) (hR : Rd w (.slice a l.length c) (strs l)) (hp : PQ w fv Value.string (fun x => x ∈ l) p) :
  Fn Tryz.prog 120 #[.slice a l.length c, fv] w fun v w' => ∃ k : Int, FirstN l.length (fun i => p (getB l i)) k ∧ v = zv k ∧ Ext w w' := by
 refine enterH (l := [_, _]) rfl Tryz.ntmps120 rfl ?_
 refine hwNE ?_
 refine HC.loop (α := Nat) (fun j => [(0, .slice a l.length c), (1, fv), (7, zv (l.length : Int)), (8, zv (j : Int))]) (fun _ => []) (fun j => j ≤ l.length ∧ ∀ i, i < j → p (getB l i) = false) (fun j => l.length - j) 0 ⟨Nat.zero_le _, fun i hi => absurd hi (Nat.not_lt_zero _)⟩ esA (Hs.refl _) ?_
 rintro j ⟨hj, hI⟩
 by_cases hlt : j < l.length
 ·have hn : ((j : Nat) : Int) < (l.length : Int) := by omega
  obtain ⟨b, off, rfl⟩ := rd_addr hR hlt
  have hcl := hR.cell (strs_getB hlt)
  refine hwNE ?_
  refine HL.one (H1.ld0 rfl hcl rfl ?_)
  refine hwNE ?_
  refine HL.one (H1.callpq (x := getB l j) (fun w' hM => hp.ext hM.ext) (getB_mem hlt) rfl rfl rfl ?_)
  cases hpr : p (getB l j)
  ·refine hwNE ?_
   exact HX.again (j + 1) ⟨hlt, fun i hi => by
    by_cases e : i = j
    ·rw [e]; exact hpr
    ·exact hI i (by omega)⟩ (by omega) esA (Hs.refl _)
  ·refine hwNE ?_
   exact HX.ret1 rfl rfl fun w' hM => ⟨j, .inr ⟨j, rfl, hlt, hI, hpr⟩, rfl, hM.ext⟩
 have hn : ¬ ((j : Nat) : Int) < (l.length : Int) := by omega
 obtain rfl : j = l.length := by omega
 refine hwNE ?_
 exact HX.ret1 rfl rfl fun w' hM => ⟨-1, .inl ⟨rfl, hI⟩, rfl, hM.ext⟩
theorem contS_fn {a : Option Addr} {c : Nat} {l : List ByteArray} {p : ByteArray → Bool} {fv : Value} (hl : l.length ≤ 1000000) (w : World) (hR : Rd w (.slice a l.length c) (strs l)) (hp : PQ w fv Value.string (fun x => x ∈ l) p) :
  Fn Tryz.prog 87 #[.slice a l.length c, fv] w fun v w' => v = .bool (anyN l.length fun i => p (getB l i)) ∧ Ext w w' := by
 refine enterH (l := [_, _]) rfl Tryz.ntmps87 rfl ?_
 refine hwNE ?_
 refine HL.one (H1.callp (α := Int) (V := zv) (I := fun k => FirstN l.length (fun i => p (getB l i)) k) (vs := [.slice a l.length c, fv]) rfl rfl (fun w' hM => indexS_fn hl w' (hR.ext hM.ext) (hp.ext hM.ext)) ?_)
 intro k hk
 refine hwNE ?_
 exact HX.ret1 rfl rfl fun w' hM => ⟨congrArg Value.bool hk.any, hM.ext⟩
theorem indexN_fn {a : Option Addr} {c : Nat} {l : List Nd} {U : Nat → Value} {p : (Nd × Value) → Bool} {fv : Value} (hl : l.length ≤ 1000000) (w : World) (hR : RdN w (.slice a l.length c) l U) (hp : PQ w fv (fun q => ndV q.1 q.2) (fun q => ∃ i, i < l.length ∧ q = (ndAt l i, U i)) p) :
  Fn Tryz.prog 93 #[.slice a l.length c, fv] w fun v w' => ∃ k : Int, FirstN l.length (fun i => p ((fun i => (ndAt l i, U i)) i)) k ∧ v = zv k ∧ Ext w w' := by
 refine enterH (l := [_, _]) rfl Tryz.ntmps93 rfl ?_
 refine hwNE ?_
 refine HC.loop (α := Nat) (fun j => [(0, .slice a l.length c), (1, fv), (7, zv (l.length : Int)), (8, zv (j : Int))]) (fun _ => []) (fun j => j ≤ l.length ∧ ∀ i, i < j → p ((fun i => (ndAt l i, U i)) i) = false) (fun j => l.length - j) 0 ⟨Nat.zero_le _, fun i hi => absurd hi (Nat.not_lt_zero _)⟩ esA (Hs.refl _) ?_
 rintro j ⟨hj, hI⟩
 by_cases hlt : j < l.length
 ·have hn : ((j : Nat) : Int) < (l.length : Int) := by omega
  obtain ⟨b, off, rfl, hb⟩ := hR.cell hlt
  have hcl := hb j hlt
  refine hwNE ?_
  refine HL.one (H1.ldAggw (b := b) (off := off + j * 4) (vs := ndC (ndAt l j) (U j)) rfl rfl (fun w' hM i u hu => cell_ext hM.ext (hcl i u hu)) rfl ?_)
  refine hwNE ?_
  refine HL.one (H1.callpq (x := (fun i => (ndAt l i, U i)) j) (fun w' hM => hp.ext hM.ext) ⟨j, hlt, rfl⟩ rfl rfl rfl ?_)
  cases hpr : p ((fun i => (ndAt l i, U i)) j)
  ·refine hwNE ?_
   exact HX.again (j + 1) ⟨hlt, fun i hi => by
    by_cases e : i = j
    ·rw [e]; exact hpr
    ·exact hI i (by omega)⟩ (by omega) esA (Hs.refl _)
  ·refine hwNE ?_
   exact HX.ret1 rfl rfl fun w' hM => ⟨j, .inr ⟨j, rfl, hlt, hI, hpr⟩, rfl, hM.ext⟩
 have hn : ¬ ((j : Nat) : Int) < (l.length : Int) := by omega
 obtain rfl : j = l.length := by omega
 refine hwNE ?_
 exact HX.ret1 rfl rfl fun w' hM => ⟨-1, .inl ⟨rfl, hI⟩, rfl, hM.ext⟩
theorem contN_fn {a : Option Addr} {c : Nat} {l : List Nd} {U : Nat → Value} {p : (Nd × Value) → Bool} {fv : Value} (hl : l.length ≤ 1000000) (w : World) (hR : RdN w (.slice a l.length c) l U) (hp : PQ w fv (fun q => ndV q.1 q.2) (fun q => ∃ i, i < l.length ∧ q = (ndAt l i, U i)) p) :
  Fn Tryz.prog 55 #[.slice a l.length c, fv] w fun v w' => v = .bool (anyN l.length fun i => p ((fun i => (ndAt l i, U i)) i)) ∧ Ext w w' := by
 refine enterH (l := [_, _]) rfl Tryz.ntmps55 rfl ?_
 refine hwNE ?_
 refine HL.one (H1.callp (α := Int) (V := zv) (I := fun k => FirstN l.length (fun i => p ((fun i => (ndAt l i, U i)) i)) k) (vs := [.slice a l.length c, fv]) rfl rfl (fun w' hM => indexN_fn hl w' (hR.ext hM.ext) (hp.ext hM.ext)) ?_)
 intro k hk
 refine hwNE ?_
 exact HX.ret1 rfl rfl fun w' hM => ⟨congrArg Value.bool hk.any, hM.ext⟩
end Go.Sx
/- Chapter 24: sets of numbers; setOf, derived: the walks. -/
namespace Go.Sx
open Go Go.Proofs Go.RowKit
def liftS (m : List Int) : List (Int × Value) := m.map fun x => (x, .agg #[])
def sAdd (m : List Int) (x : Int) : List Int := if x ∈ m then m else m ++ [x]
theorem mset_liftS (m : List Int) (x : Int) : mset (liftS m) x (.agg #[]) = liftS (sAdd m x) := by
 induction m with
 | nil => rfl
 | cons y m ih =>
  show (if x = y then (x, Value.agg #[]) :: liftS m else (y, .agg #[]) :: mset (liftS m) x (.agg #[])) = _
  by_cases h : x = y
  ·subst h
   unfold sAdd
   rw [if_pos rfl, if_pos (.head _)]; rfl
  ·rw [if_neg h, ih]
   unfold sAdd
   by_cases h2 : x ∈ m
   ·rw [if_pos h2, if_pos (.tail _ h2)]; rfl
   ·rw [if_neg h2, if_neg (by intro h3; rcases List.mem_cons.1 h3 with h3 | h3; exact h h3; exact h2 h3)]; rfl
theorem mget_liftS (m : List Int) (x : Int) : mget (liftS m) x = if x ∈ m then some (.agg #[]) else none := by
 induction m with
 | nil => rfl
 | cons y m ih =>
  show (if x = y then some (Value.agg #[]) else mget (liftS m) x) = _
  by_cases h : x = y
  ·subst h
   rw [if_pos rfl, if_pos (.head _)]
  ·rw [if_neg h, ih]
   by_cases h2 : x ∈ m
   ·rw [if_pos h2, if_pos (.tail _ h2)]
   ·rw [if_neg h2, if_neg (by intro h3; rcases List.mem_cons.1 h3 with h3 | h3; exact h h3; exact h2 h3)]
theorem mem_sAdd {m : List Int} {x y : Int} : y ∈ sAdd m x ↔ y ∈ m ∨ y = x := by
 unfold sAdd
 by_cases h : x ∈ m
 ·rw [if_pos h]
  exact ⟨.inl, fun h2 => h2.elim id fun e => e ▸ h⟩
 ·rw [if_neg h, List.mem_append, List.mem_singleton]
theorem nodup_sAdd {m : List Int} {x : Int} (h : m.Nodup) : (sAdd m x).Nodup := by
 unfold sAdd
 by_cases h2 : x ∈ m
 ·rw [if_pos h2]; exact h
 ·rw [if_neg h2, List.nodup_append]
  exact ⟨h, List.nodup_cons.2 ⟨by simp, List.nodup_nil⟩, fun a ha b hb => by rw [List.mem_singleton.1 hb]; rintro rfl; exact h2 ha⟩
def setL (l : List Int) : Nat → List Int
 | 0 => []
 | i + 1 => sAdd (setL l i) (getI l i)
theorem mem_setL {l : List Int} {x : Int} : ∀ {i : Nat}, i ≤ l.length → (x ∈ setL l i ↔ x ∈ l.take i)
 | 0, _ => by rw [List.take_zero]; rfl
 | i + 1, h => by
  show x ∈ sAdd (setL l i) (getI l i) ↔ _
  rw [mem_sAdd, mem_setL (by omega), getI_take h, List.mem_append, List.mem_singleton]
theorem mem_setA {l : List Int} {x : Int} : x ∈ setL l l.length ↔ x ∈ l := by rw [mem_setL (Nat.le_refl _), List.take_length]
def derL (l : List Nd) (p : Nat → Bool) : Nat → List Int
 | 0 => []
 | i + 1 => if (p i || (ndAt l i).src.any fun x => decide (x ∈ derL l p i)) = true then sAdd (derL l p i) (ndAt l i).id else derL l p i
def SetW (w : World) (b : Nat) (m : List Int) : Prop := ∃ o, w.heap[b]? = some o ∧ mqP .i64 (liftS m) o
theorem SetW.ext {w w' : World} {b : Nat} {m : List Int} (h : SetW w b m) (k : Ext w w') : SetW w' b m := by
 obtain ⟨o, h1, h2⟩ := h
 exact ⟨o, by rw [k.block b (Array.getElem?_eq_some_iff.1 h1).1]; exact h1, h2⟩
theorem Mm.setW {w0 w : World} {H : List Atom} {b : Nat} {m : List Int} (h : Mm w0 H w) (hm : A.mq b .i64 (liftS m) ∈ H) : SetW w b m := h.all _ hm
section
variable {P : Program} {r : Option Nat} {N : Nat} {ds : List Deferred} {ol rest : List Oper} {Q : Post} {E : Env} {w0 : World} {H : List Atom} {next : Act → World → Prop} {g : Option (Nat × Bool)}
variable {d : Nat} {t ty : TypeId} {pos : String} {af : Array Edge} {x y z : Operand}
theorem H1.setget {b : Nat} {k e : TypeId} {m : List Int} {n : Int} {zv : Value} {sz bb : Nat} [ht : UTy P t (.map k e)] [hk : UTy P k (.int .i64)] [hi : ITy P e zv sz bb] (hx : Env.ev E x = some (.map (some b))) (hy : Env.ev E y = some (.int .i64 n))
  (hb : ∀ w, Mm w0 H w → SetW w b m) (hd : Nat.blt d N = true) (h : HN N ds next ((d, .tuple #[(if n ∈ m then some (.agg #[]) else none).getD zv, .bool (decide (n ∈ m))]) :: E) w0 H) : H1 P r N ds next ⟨some d, .lookup t x y true, ty, pos, af, g⟩ Q E w0 H := fun w hM => by
 obtain ⟨o, h1, h2⟩ := hb w hM
 have hs : (if n ∈ m then some (Value.agg #[]) else none).isSome = decide (n ∈ m) := by by_cases hn : n ∈ m <;> simp [hn]
 rw [← hs, ← mget_liftS] at h
 refine W1.run (v := .tuple #[(mget (liftS m) n).getD zv, .bool (mget (liftS m) n).isSome]) (w' := w) (fun a ha' => ?_) rfl hd (h w hM)
 simp only [execOp, ha'.ev hx, ha'.ev hy, Sem.run_bind, run_lookup_mq2 ht.is hk.is h1 h2 n, Result.andThen, Sem.run_pure]
end
attribute [local irreducible] WC WL WX POp Then Again Fn NX W1 WA WO QL RP RA Yld LoopAt HC HL HX HN H1 HA HO HQ HB HP A.blk A.grow A.rd A.obj A.mp AgainH CutH
attribute [local irreducible] A.mq A.mit
theorem setHas_fn {b : Nat} {m : List Int} (n : Int) (w : World) (hS : SetW w b m) :
  Fn Tryz.prog 44 #[.map (some b), zv n] w fun u w' => u = .bool (decide (n ∈ m)) ∧ Ext w w' := by
 refine enterH (l := [_, _]) rfl Tryz.ntmps44 rfl ?_
 refine hwNB ?_
 refine HL.one (H1.setget (n := n) (m := m) rfl rfl (fun w' hM => hS.ext hM.ext) rfl ?_)
 rw [show (if n ∈ m then some (Value.agg #[]) else none).getD (.agg #[]) = .agg #[] by by_cases h : n ∈ m <;> simp [h]]
 refine hwNB ?_
 refine HL.one (H1.alloc (cs := []) rfl rfl (fun b9 => ?_))
 refine hwNB ?_
 refine HL.one (H1.stAgg (cs := []) (vs := []) rfl rfl rfl (by intro v hv; cases hv) rplA rfl ?_)
 refine hwNB ?_
 exact HX.ret1 rfl rfl fun w' hM => ⟨rfl, hM.ext⟩
theorem setPQ {b : Nat} {m : List Int} {w : World} {ok : Int → Prop} (hS : SetW w b m) : PQ w (.func (.func 44) #[.map (some b)] #[]) zv ok (fun x => decide (x ∈ m)) :=
 ⟨_, [.map (some b)], [], rfl, inferInstance, fun w' hx x _ => setHas_fn x w' (hS.ext hx)⟩
theorem setOf_fn {v : Value} {l : List Int} (hl : l.length ≤ 1000000) (w : World) (hR : Rd w v (ints l)) :
  Fn Tryz.prog 39 #[v] w fun u w' => ∃ b : Nat, True ∧ u = .map (some b) ∧ Mm w [A.mq b .i64 (liftS (setL l l.length))] w' := by
 obtain ⟨a, c, rfl, hcl⟩ : ∃ a c, v = .slice a l.length c ∧ l.length ≤ c := by
  obtain ⟨a, c, h1, h2, -⟩ := hR
  rw [ints_len] at h1 h2
  exact ⟨a, c, h1, h2⟩
 refine enterH (l := [_]) rfl Tryz.ntmps39 rfl ?_
 refine hwNB ?_
 refine HL.one (H1.mkmq .i64 rfl (fun bm => ?_))
 refine hwNB ?_
 refine HC.loop (α := Nat) (fun k => [(3, .map (some bm)), (7, .slice a l.length c), (8, zv (l.length : Int)), (9, zv (k : Int))]) (fun k => [A.mq bm .i64 (liftS (setL l k))]) (fun k => k ≤ l.length) (fun k => l.length - k) 0 (Nat.zero_le _) esA (Hs.refl _) ?_
 intro k hk
 by_cases hlt : k < l.length
 rotate_left
 ·have hn : ¬ ((k : Nat) : Int) < (l.length : Int) := by omega
  obtain rfl : k = l.length := by omega
  refine hwNB ?_
  exact HX.ret1 rfl rfl fun w' hM => ⟨bm, trivial, rfl, hM⟩
 have hn : ((k : Nat) : Int) < (l.length : Int) := by omega
 obtain ⟨b, off, rfl⟩ := rd_addr hR hlt
 have hb := hR.cell (ints_getI hlt)
 refine hwNB ?_
 refine HL.one (H1.ld0 rfl hb rfl ?_)
 refine hwNB ?_
 refine HL.build (parts := []) (pv := []) (cs := []) rfl rfl rfl ?_
 refine hwNB ?_
 refine HL.one (H1.mqset (H' := [A.mq bm .i64 (liftS (setL l (k + 1)))]) rfl rfl rfl (by rw [mset_liftS]; exact Rpl.here) ?_)
 refine hwNB ?_
 exact HX.again (k + 1) hlt (by show l.length - (k + 1) < l.length - k; omega) esA (Hs.refl _)
theorem derived_fn {v fv : Value} {l : List Nd} {U : Nat → Value} {p : Nd × Value → Bool} (hl : l.length ≤ 1000000) (hs : ∀ i, i < l.length → (ndAt l i).src.length ≤ 1000000) (w : World) (hR : RdN w v l U) (hp : PQ w fv (fun q => ndV q.1 q.2) (fun q => ∃ i, i < l.length ∧ q = (ndAt l i, U i)) p) :
  Fn Tryz.prog 42 #[v, fv] w fun u w' => ∃ b : Nat, True ∧ u = .map (some b) ∧ Mm w [A.mq b .i64 (liftS (derL l (fun i => p (ndAt l i, U i)) l.length))] w' := by
 have hU : ∀ i, i < l.length → (U i).oneCell' = true := fun i hi => rd_one (hR.src i hi)
 obtain ⟨a, c, rfl, hc, hcl⟩ := hR.shape
 refine enterH (l := [_, _]) rfl Tryz.ntmps42 rfl ?_
 refine hwNB ?_
 refine HL.one (H1.mkmq .i64 rfl (fun bm => ?_))
 refine hwNB ?_
 refine HC.loop (α := Nat) (fun k => [(1, fv), (5, .map (some bm)), (9, .slice a l.length c), (10, zv (l.length : Int)), (11, zv (k : Int))]) (fun k => [A.mq bm .i64 (liftS (derL l (fun i => p (ndAt l i, U i)) k))]) (fun k => k ≤ l.length) (fun k => l.length - k) 0 (Nat.zero_le _) esA (Hs.refl _) ?_
 intro k hk
 by_cases hlt : k < l.length
 rotate_left
 ·have hn : ¬ ((k : Nat) : Int) < (l.length : Int) := by omega
  obtain rfl : k = l.length := by omega
  refine hwNB ?_
  exact HX.ret1 rfl rfl fun w' hM => ⟨bm, trivial, rfl, hM⟩
 have hn : ((k : Nat) : Int) < (l.length : Int) := by omega
 obtain ⟨b, off, rfl, hb⟩ := hR.cell hlt
 have hx := hb k hlt
 have hsr := hR.src k hlt
 have hsl := hs k hlt
 have hUk := hU k hlt
 have hder : derL l (fun i => p (ndAt l i, U i)) (k + 1) = if (p (ndAt l k, U k) || (ndAt l k).src.any fun x => decide (x ∈ derL l (fun i => p (ndAt l i, U i)) k)) = true then sAdd (derL l (fun i => p (ndAt l i, U i)) k) (ndAt l k).id else derL l (fun i => p (ndAt l i, U i)) k := rfl
 refine hwNB ?_
 refine HL.one (H1.ldAggw (b := b) (off := off + k * 4) (vs := ndC (ndAt l k) (U k)) rfl rfl (fun w' hM j u hu => cell_ext hM.ext (hx j u hu)) rfl ?_)
 refine hwNB ?_
 refine HL.one (H1.alloc (cs := ndC ⟨0, 0, 0, []⟩ (.slice none 0 0)) rfl rfl (fun b9 => ?_))
 refine hwNB ?_
 refine HL.one (H1.stAgg (cs := ndC ⟨0, 0, 0, []⟩ (.slice none 0 0)) (vs := ndC (ndAt l k) (U k)) rfl rfl rfl (nd_one hUk) rplA rfl ?_)
 refine hwNB ?_
 refine HL.one (H1.ldAgg (vs := ndC (ndAt l k) (U k)) rfl memA rfl (fun i v hv => by rw [Nat.zero_add]; exact hv) rfl ?_)
 refine hwNB ?_
 refine HL.one (H1.callpq (x := (ndAt l k, U k)) (fun w' hM => hp.ext hM.ext) ⟨k, hlt, rfl⟩ rfl rfl rfl ?_)
 cases hpk : p (ndAt l k, U k) with
 | true =>
  rw [hpk, Bool.true_or, if_pos rfl] at hder
  refine hwNB ?_
  refine HL.build (parts := []) (pv := []) (cs := []) rfl rfl rfl ?_
  refine hwNB ?_
  refine HL.one (H1.mqset (H' := [A.blk b9 (ndC (ndAt l k) (U k)) 31, A.mq bm .i64 (liftS (derL l (fun i => p (ndAt l i, U i)) (k + 1)))]) rfl rfl rfl (by rw [mset_liftS, ← hder]; exact Rpl.there Rpl.here) ?_)
  refine hwNB ?_
  exact HX.again (k + 1) hlt (by show l.length - (k + 1) < l.length - k; omega) esA (Hs.refl _).skip
 | false =>
  rw [hpk, Bool.false_or] at hder
  refine hwNB ?_
  refine HL.one (H1.callx (vs := [U k, _]) rfl rfl (fun w' hM => by
   obtain ⟨a4, c4, e4, h5, -⟩ := id hsr
   have hz := ints_len (ndAt l k).src
   rw [hz] at e4
   rw [e4] at hsr ⊢
   exact contI_fn hsl w' (hsr.ext hM.ext) (setPQ (hM.setW memA))) ?_)
  rw [anyI _ (fun x => decide (x ∈ derL l (fun i => p (ndAt l i, U i)) k))]
  cases hq : (ndAt l k).src.any fun x => decide (x ∈ derL l (fun i => p (ndAt l i, U i)) k) with
  | true =>
   rw [hq, if_pos rfl] at hder
   refine hwNB ?_
   refine HL.build (parts := []) (pv := []) (cs := []) rfl rfl rfl ?_
   refine hwNB ?_
   refine HL.one (H1.mqset (H' := [A.blk b9 (ndC (ndAt l k) (U k)) 31, A.mq bm .i64 (liftS (derL l (fun i => p (ndAt l i, U i)) (k + 1)))]) rfl rfl rfl (by rw [mset_liftS, ← hder]; exact Rpl.there Rpl.here) ?_)
   refine hwNB ?_
   exact HX.again (k + 1) hlt (by show l.length - (k + 1) < l.length - k; omega) esA (Hs.refl _).skip
  | false =>
   rw [hq, if_neg (by decide)] at hder
   rw [← hder]
   refine hwNB ?_
   exact HX.again (k + 1) hlt (by show l.length - (k + 1) < l.length - k; omega) esA (Hs.refl _).skip
end Go.Sx
/-
 DERIVED: THE SHELF's CONTRACTS AT THIS DUMP, IN PLAIN WORDS (tools/lay-plain.mjs out of 'TryzShelf.lean', which tools/lay-shelf.mjs wrote): THE SAME DECLARATIONS UNDER THE SAME NAMES: 'import', 'namespace', 'open', 'def', 'theorem' AND NOTHING ELSE: no command of the shelf's: FOR A HAND-IN. Each laying: the table of numbers ('.._ren') and one theorem, a field a fact of the dump's own or the kernel's comparison; each contract: ONE APPLICATION.
-/
namespace Go.Proofs
open Go.Shelf
def Tryz.lays169_ren : Go.Shelf.Ren := ⟨fun | 169 => 154 | n => n, fun | 70 => 201 | 9 => 9 | 0 => 0 | 72 => 203 | 37 => 116 | 127 => 233 | 3 => 3 | 5 => 5 | n => n, fun | n => n⟩
def Tryz.lays241_ren : Go.Shelf.Ren := ⟨fun | 241 => 202 | 277 => 204 | n => n, fun | 70 => 201 | 3 => 3 | 0 => 0 | 72 => 203 | 37 => 116 | 5 => 5 | n => n, fun | n => n⟩
def Tryz.lays165_ren : Go.Shelf.Ren := ⟨fun | 165 => 197 | 240 => 200 | 241 => 202 | 276 => 203 | 277 => 204 | n => n, fun | 70 => 201 | 3 => 3 | 0 => 0 | 4 => 4 | 9 => 9 | 20 => 20 | 72 => 203 | 37 => 116 | 164 => 242 | 5 => 5 | n => n, fun | n => n⟩
def Tryz.lays156_ren : Go.Shelf.Ren := ⟨fun | 156 => 171 | 165 => 197 | 166 => 190 | 169 => 154 | 240 => 200 | 241 => 202 | 276 => 203 | 277 => 204 | n => n, fun | 31 => 25 | 9 => 9 | 3 => 3 | 4 => 4 | 0 => 0 | 20 => 20 | 72 => 203 | 76 => 231 | 70 => 201 | 37 => 116 | 75 => 230 | 127 => 233 | 164 => 242 | 5 => 5 | 80 => 85 | n => n, fun | n => n⟩
theorem Tryz.lays156 : Go.Proofs.Lays.n156 Tryz.prog Tryz.lays156_ren := {
 mixed := by kernel_rfl
 f156 := Tryz.func171.trans (congrArg some (by kernel_rfl))
 f165 := Tryz.func197.trans (congrArg some (by kernel_rfl))
 f166 := Tryz.func190.trans (congrArg some (by kernel_rfl))
 f169 := Tryz.func154.trans (congrArg some (by kernel_rfl))
 f240 := Tryz.func200.trans (congrArg some (by kernel_rfl))
 f241 := Tryz.func202.trans (congrArg some (by kernel_rfl))
 f276 := Tryz.func203.trans (congrArg some (by kernel_rfl))
 f277 := Tryz.func204.trans (congrArg some (by kernel_rfl))
 t0 := Tryz.underlying0
 a0 := Tryz.isAgg0
 z0 := Tryz.sizeOf0
 v0 := Tryz.zeroValue0
 t3 := Tryz.underlying3
 a3 := Tryz.isAgg3
 z3 := Tryz.sizeOf3
 v3 := Tryz.zeroValue3
 t4 := Tryz.underlying4
 a4 := Tryz.isAgg4
 z4 := Tryz.sizeOf4
 v4 := Tryz.zeroValue4
 t9 := Tryz.underlying9
 a9 := Tryz.isAgg9
 z9 := Tryz.sizeOf9
 v9 := Tryz.zeroValue9
 t20 := Tryz.underlying20
 a20 := Tryz.isAgg20
 z20 := Tryz.sizeOf20
 v20 := Tryz.zeroValue20
 t31 := Tryz.underlying25
 a31 := Tryz.isAgg25
 z31 := Tryz.sizeOf25
 v31 := Tryz.zeroValue25
 t37 := Tryz.underlying116
 a37 := Tryz.isAgg116
 z37 := Tryz.sizeOf116
 v37 := Tryz.zeroValue116
 t70 := Tryz.underlying201
 a70 := Tryz.isAgg201
 z70 := Tryz.sizeOf201
 v70 := Tryz.zeroValue201
 t72 := Tryz.underlying203
 a72 := Tryz.isAgg203
 z72 := Tryz.sizeOf203
 v72 := Tryz.zeroValue203
 t75 := Tryz.underlying230
 a75 := Tryz.isAgg230
 z75 := Tryz.sizeOf230
 v75 := Tryz.zeroValue230
 t76 := Tryz.underlying231
 a76 := Tryz.isAgg231
 z76 := Tryz.sizeOf231
 v76 := Tryz.zeroValue231
 t127 := Tryz.underlying233
 a127 := Tryz.isAgg233
 z127 := Tryz.sizeOf233
 v127 := Tryz.zeroValue233
 t164 := Tryz.underlying242
 a164 := Tryz.isAgg242
 z164 := Tryz.sizeOf242
 v164 := Tryz.zeroValue242 }
theorem Tryz.Builder_Extra_156 : Builder.Extra Tryz.prog Tryz.lays156_ren := {
 sizeBuilder := by kernel_rfl
 liesBuilder := by kernel_rfl
 t5 := Tryz.underlying5
 a5 := Tryz.isAgg5
 z5 := Tryz.sizeOf5
 v5 := Tryz.zeroValue5
 infoByte := by kernel_rfl
 cellsByte := by kernel_rfl
 sizeByte := by kernel_rfl
 neB5 := by decide }
open Go.RowKit in
theorem Tryz.strings_Join (bk o c : Nat) (xs : List ByteArray) (sep : ByteArray) (w : World) (hcells : ∀ (j : Nat) x, xs[j]? = some x → w.cell? ⟨bk, o + j, none⟩ = some (.string x)) (hbk : bk < w.heap.size) (hN : xs.length ≤ 140737488355328) (hcap : xs.length ≤ c) (hlen : (Lib.join (xs.map (·.data.toList)) sep.data.toList).length ≤ 140737488355328) :
  Calls Tryz.prog 171 #[.slice (some ⟨bk, o, none⟩) xs.length c, .string sep] w fun e w' => e = .returned (.string ⟨(Lib.join (xs.map (·.data.toList)) sep.data.toList).toArray⟩) ∧ Below w.heap.size w w' := Any.strings_Join Tryz.lays156 Tryz.Builder_Extra_156 bk o c xs sep w hcells hbk hN hcap hlen
def Tryz.lays128_ren : Go.Shelf.Ren := ⟨fun | 128 => 143 | n => n, fun | 51 => 114 | 3 => 3 | 4 => 4 | 46 => 119 | 5 => 5 | 9 => 9 | n => n, fun | n => n⟩
def Tryz.lays125_ren : Go.Shelf.Ren := ⟨fun | 125 => 118 | 128 => 143 | 129 => 144 | n => n, fun | 46 => 119 | 3 => 3 | 51 => 114 | 53 => 150 | 4 => 4 | 5 => 5 | 9 => 9 | n => n, fun | n => n⟩
def Tryz.lays215_ren : Go.Shelf.Ren := ⟨fun | 215 => 133 | n => n, fun | 3 => 3 | 4 => 4 | n => n, fun | n => n⟩
def Tryz.lays122_ren : Go.Shelf.Ren := ⟨fun | 122 => 98 | 215 => 133 | n => n, fun | 3 => 3 | 4 => 4 | n => n, fun | n => n⟩
theorem Tryz.lays122 : Go.Proofs.Lays.n122 Tryz.prog Tryz.lays122_ren := {
 mixed := by kernel_rfl
 f122 := Tryz.func98.trans (congrArg some (by kernel_rfl))
 f215 := Tryz.func133.trans (congrArg some (by kernel_rfl))
 t3 := Tryz.underlying3
 a3 := Tryz.isAgg3
 z3 := Tryz.sizeOf3
 v3 := Tryz.zeroValue3
 t4 := Tryz.underlying4
 a4 := Tryz.isAgg4
 z4 := Tryz.sizeOf4
 v4 := Tryz.zeroValue4 }
open Go.RowKit in
theorem Tryz.cmp_Compare_int (x y : Int) (w : World) :
  Calls Tryz.prog 98 #[.int .i64 x, .int .i64 y] w fun e w' => e = .returned (.int .i64 (Lib.compareInt x y)) ∧ w' = w := Any.cmp_Compare_int Tryz.lays122 x y w
def Tryz.lays129_ren : Go.Shelf.Ren := ⟨fun | 129 => 144 | n => n, fun | 53 => 150 | 3 => 3 | 4 => 4 | 46 => 119 | 5 => 5 | 9 => 9 | n => n, fun | n => n⟩
def Tryz.lays189_ren : Go.Shelf.Ren := ⟨fun | 189 => 83 | 125 => 118 | 257 => 117 | 128 => 143 | 129 => 144 | 294 => 134 | 295 => 135 | 296 => 136 | 297 => 137 | 298 => 138 | 299 => 139 | 216 => 140 | 300 => 141 | 301 => 142 | 328 => 164 | 329 => 165 | 330 => 166 | 331 => 167 | 332 => 168 | 215 => 133 | 343 => 196 | n => n, fun | 28 => 28 | 3 => 3 | 46 => 119 | 0 => 0 | 51 => 114 | 53 => 150 | 4 => 4 | 183 => 170 | 182 => 169 | 131 => 101 | 5 => 5 | 9 => 9 | 218 => 213 | 222 => 199 | 228 => 238 | 229 => 139 | n => n, fun | n => n⟩
theorem Tryz.lays189 : Go.Proofs.Lays.n189 Tryz.prog Tryz.lays189_ren := {
 mixed := by kernel_rfl
 f125 := Tryz.func118.trans (congrArg some (by kernel_rfl))
 f128 := Tryz.func143.trans (congrArg some (by kernel_rfl))
 f129 := Tryz.func144.trans (congrArg some (by kernel_rfl))
 f189 := Tryz.func83.trans (congrArg some (by kernel_rfl))
 f215 := Tryz.func133.trans (congrArg some (by kernel_rfl))
 f216 := Tryz.func140.trans (congrArg some (by kernel_rfl))
 f257 := Tryz.func117.trans (congrArg some (by kernel_rfl))
 f294 := Tryz.func134.trans (congrArg some (by kernel_rfl))
 f295 := Tryz.func135.trans (congrArg some (by kernel_rfl))
 f296 := Tryz.func136.trans (congrArg some (by kernel_rfl))
 f297 := Tryz.func137.trans (congrArg some (by kernel_rfl))
 f298 := Tryz.func138.trans (congrArg some (by kernel_rfl))
 f299 := Tryz.func139.trans (congrArg some (by kernel_rfl))
 f300 := Tryz.func141.trans (congrArg some (by kernel_rfl))
 f301 := Tryz.func142.trans (congrArg some (by kernel_rfl))
 f328 := Tryz.func164.trans (congrArg some (by kernel_rfl))
 f329 := Tryz.func165.trans (congrArg some (by kernel_rfl))
 f330 := Tryz.func166.trans (congrArg some (by kernel_rfl))
 f331 := Tryz.func167.trans (congrArg some (by kernel_rfl))
 f332 := Tryz.func168.trans (congrArg some (by kernel_rfl))
 f343 := Tryz.func196.trans (congrArg some (by kernel_rfl))
 t0 := Tryz.underlying0
 a0 := Tryz.isAgg0
 z0 := Tryz.sizeOf0
 v0 := Tryz.zeroValue0
 t3 := Tryz.underlying3
 a3 := Tryz.isAgg3
 z3 := Tryz.sizeOf3
 v3 := Tryz.zeroValue3
 t4 := Tryz.underlying4
 a4 := Tryz.isAgg4
 z4 := Tryz.sizeOf4
 v4 := Tryz.zeroValue4
 t5 := Tryz.underlying5
 a5 := Tryz.isAgg5
 z5 := Tryz.sizeOf5
 v5 := Tryz.zeroValue5
 t9 := Tryz.underlying9
 a9 := Tryz.isAgg9
 z9 := Tryz.sizeOf9
 v9 := Tryz.zeroValue9
 t28 := Tryz.underlying28
 a28 := Tryz.isAgg28
 z28 := Tryz.sizeOf28
 v28 := Tryz.zeroValue28
 t46 := Tryz.underlying119
 a46 := Tryz.isAgg119
 z46 := Tryz.sizeOf119
 v46 := Tryz.zeroValue119
 t51 := Tryz.underlying114
 a51 := Tryz.isAgg114
 z51 := Tryz.sizeOf114
 v51 := Tryz.zeroValue114
 t53 := Tryz.underlying150
 a53 := Tryz.isAgg150
 z53 := Tryz.sizeOf150
 v53 := Tryz.zeroValue150
 t131 := Tryz.underlying101
 a131 := Tryz.isAgg101
 z131 := Tryz.sizeOf101
 v131 := Tryz.zeroValue101
 t182 := Tryz.underlying169
 a182 := Tryz.isAgg169
 z182 := Tryz.sizeOf169
 v182 := Tryz.zeroValue169
 t183 := Tryz.underlying170
 a183 := Tryz.isAgg170
 z183 := Tryz.sizeOf170
 v183 := Tryz.zeroValue170
 t218 := Tryz.underlying213
 a218 := Tryz.isAgg213
 z218 := Tryz.sizeOf213
 v218 := Tryz.zeroValue213
 t222 := Tryz.underlying199
 a222 := Tryz.isAgg199
 z222 := Tryz.sizeOf199
 v222 := Tryz.zeroValue199
 t228 := Tryz.underlying238
 a228 := Tryz.isAgg238
 z228 := Tryz.sizeOf238
 v228 := Tryz.zeroValue238
 t229 := Tryz.underlying139
 a229 := Tryz.isAgg139
 z229 := Tryz.sizeOf139
 v229 := Tryz.zeroValue139 }
open Go.Sort Go.RowKit in
theorem Tryz.slices_Sort_int (blk off cap : Nat) (zs : List Int) (w : World) (hH : Holds (Value.int .i64) w blk off zs.toArray) (hblk : blk < w.heap.size) (hsz : zs.length < 4611686018427387904) :
  Calls Tryz.prog 83 #[.slice (some ⟨blk, off, none⟩) zs.length cap] w fun e w' =>
   e = .returned (.tuple #[]) ∧ ∃ n os, w' = grow (putRow (Value.int .i64) (Sort.ahead w n) blk off (zs.mergeSort fun x y => decide (x ≤ y)).toArray) os := Any.slices_Sort_int Tryz.lays189 blk off cap zs w hH hblk hsz
def Tryz.lays111_ren : Go.Shelf.Ren := ⟨fun | 111 => 69 | n => n, fun | 28 => 28 | 3 => 3 | 4 => 4 | 0 => 0 | n => n, fun | n => n⟩
theorem Tryz.lays111 : Go.Proofs.Lays.n111 Tryz.prog Tryz.lays111_ren := {
 mixed := by kernel_rfl
 f111 := Tryz.func69.trans (congrArg some (by kernel_rfl))
 t0 := Tryz.underlying0
 a0 := Tryz.isAgg0
 z0 := Tryz.sizeOf0
 v0 := Tryz.zeroValue0
 t3 := Tryz.underlying3
 a3 := Tryz.isAgg3
 z3 := Tryz.sizeOf3
 v3 := Tryz.zeroValue3
 t4 := Tryz.underlying4
 a4 := Tryz.isAgg4
 z4 := Tryz.sizeOf4
 v4 := Tryz.zeroValue4
 t28 := Tryz.underlying28
 a28 := Tryz.isAgg28
 z28 := Tryz.sizeOf28
 v28 := Tryz.zeroValue28 }
open Go.RowKit Go.Lib in
theorem Tryz.slices_Equal_int (b1 o1 n c b2 o2 m d : Nat) (xs ys : List Int) (w : World) (hx : n ≤ xs.length) (hy : m ≤ ys.length) (hbig : n ≤ 9223372036854775807) (hbig2 : m ≤ 9223372036854775807) (hc1 : ∀ j, j < xs.length → w.cell? ⟨b1, o1 + j, none⟩ = some (.int .i64 (xs.getD j 0))) (hc2 : ∀ j, j < ys.length → w.cell? ⟨b2, o2 + j, none⟩ = some (.int .i64 (ys.getD j 0))) :
  Calls Tryz.prog 69 #[.slice (some ⟨b1, o1, none⟩) n c, .slice (some ⟨b2, o2, none⟩) m d] w fun e w' => e = .returned (.bool (xs.take n == ys.take m)) ∧ ∃ q, w' = w.drewN q := Any.slices_Equal_int Tryz.lays111 b1 o1 n c b2 o2 m d xs ys w hx hy hbig hbig2 hc1 hc2
open Go.RowKit Go.Lib in
theorem Tryz.slices_Equal_int_empty (a1 a2 : Option Addr) (c m d : Nat) (w : World) (hbig2 : m ≤ 9223372036854775807) :
  Calls Tryz.prog 69 #[.slice a1 0 c, .slice a2 m d] w fun e w' => e = .returned (.bool (decide (m = 0))) ∧ w' = w := Any.slices_Equal_int_empty Tryz.lays111 a1 a2 c m d w hbig2
def Tryz.lays193_ren : Go.Shelf.Ren := ⟨fun | 193 => 70 | n => n, fun | 31 => 25 | 9 => 9 | 4 => 4 | 3 => 3 | 0 => 0 | n => n, fun | n => n⟩
theorem Tryz.lays193 : Go.Proofs.Lays.n193 Tryz.prog Tryz.lays193_ren := {
 mixed := by kernel_rfl
 f193 := Tryz.func70.trans (congrArg some (by kernel_rfl))
 t0 := Tryz.underlying0
 a0 := Tryz.isAgg0
 z0 := Tryz.sizeOf0
 v0 := Tryz.zeroValue0
 t3 := Tryz.underlying3
 a3 := Tryz.isAgg3
 z3 := Tryz.sizeOf3
 v3 := Tryz.zeroValue3
 t4 := Tryz.underlying4
 a4 := Tryz.isAgg4
 z4 := Tryz.sizeOf4
 v4 := Tryz.zeroValue4
 t9 := Tryz.underlying9
 a9 := Tryz.isAgg9
 z9 := Tryz.sizeOf9
 v9 := Tryz.zeroValue9
 t31 := Tryz.underlying25
 a31 := Tryz.isAgg25
 z31 := Tryz.sizeOf25
 v31 := Tryz.zeroValue25 }
open Go.RowKit Go.Lib in
theorem Tryz.slices_Equal_string (b1 o1 n c b2 o2 m d : Nat) (xs ys : List ByteArray) (w : World) (hx : n ≤ xs.length) (hy : m ≤ ys.length) (hbig : n ≤ 9223372036854775807) (hbig2 : m ≤ 9223372036854775807) (hc1 : ∀ j, j < xs.length → w.cell? ⟨b1, o1 + j, none⟩ = some (.string (xs.getD j ByteArray.empty))) (hc2 : ∀ j, j < ys.length → w.cell? ⟨b2, o2 + j, none⟩ = some (.string (ys.getD j ByteArray.empty))) :
  Calls Tryz.prog 70 #[.slice (some ⟨b1, o1, none⟩) n c, .slice (some ⟨b2, o2, none⟩) m d] w fun e w' => e = .returned (.bool (decide (xs.take n = ys.take m))) ∧ ∃ q, w' = w.drewN q := Any.slices_Equal_string Tryz.lays193 b1 o1 n c b2 o2 m d xs ys w hx hy hbig hbig2 hc1 hc2
open Go.RowKit Go.Lib in
theorem Tryz.slices_Equal_string_empty (a1 a2 : Option Addr) (c m d : Nat) (w : World) (hbig2 : m ≤ 9223372036854775807) :
  Calls Tryz.prog 70 #[.slice a1 0 c, .slice a2 m d] w fun e w' => e = .returned (.bool (decide (m = 0))) ∧ w' = w := Any.slices_Equal_string_empty Tryz.lays193 a1 a2 c m d w hbig2
def Tryz.laysNm215_ren : Go.Shelf.Ren := ⟨fun | 15 => 92 | n => n, fun | 22 => 28 | 3 => 3 | 4 => 4 | n => n, fun | n => n⟩
theorem Tryz.laysNm215 : Go.Proofs.Lays2.n15 Tryz.prog Tryz.laysNm215_ren := {
 mixed := by kernel_rfl
 f15 := Tryz.func92.trans (congrArg some (by kernel_rfl))
 t3 := Tryz.underlying3
 a3 := Tryz.isAgg3
 z3 := Tryz.sizeOf3
 v3 := Tryz.zeroValue3
 t4 := Tryz.underlying4
 a4 := Tryz.isAgg4
 z4 := Tryz.sizeOf4
 v4 := Tryz.zeroValue4
 t22 := Tryz.underlying28
 a22 := Tryz.isAgg28
 z22 := Tryz.sizeOf28
 v22 := Tryz.zeroValue28
 i3 := by kernel_rfl }
open Go.RowKit Go.Lib in
theorem Tryz.slices_Clone_int (b off n c : Nat) (zs : List Int) (w : World) (hz : n ≤ zs.length) (hbig : n * 8 ≤ 140737488355328) (hc : ∀ j, j < zs.length → w.cell? ⟨b, off + j, none⟩ = some (.int .i64 (zs.getD j 0))) :
  Calls Tryz.prog 92 #[.slice (some ⟨b, off, none⟩) n c] w fun e w' => ∃ v', e = .returned v' ∧ w'.ownsRow w.heap.size 3 1 v' n ((zs.take n).map (Value.int .i64)) ∧ v' ≠ .slice none 0 0 ∧ Below w.heap.size w w' := Any.slices_Clone_int Tryz.laysNm215 b off n c zs w hz hbig hc
open Go.RowKit Go.Lib in
theorem Tryz.slices_Clone_int_nil (n c : Nat) (w : World) :
  Calls Tryz.prog 92 #[.slice none n c] w fun e w' => e = .returned (.slice none 0 0) ∧ w' = w := Any.slices_Clone_int_nil Tryz.laysNm215 n c w
open Go.RowKit Go.Lib in
theorem Tryz.slices_Clone_int_zero (a : Addr) (c : Nat) (w : World) :
  Calls Tryz.prog 92 #[.slice (some a) 0 c] w fun e w' => ∃ v', e = .returned v' ∧ w'.ownsRow w.heap.size 3 1 v' 0 [] ∧ v' ≠ .slice none 0 0 ∧ Below w.heap.size w w' := Any.slices_Clone_int_zero Tryz.laysNm215 a c w
def Tryz.laysNm220_ren : Go.Shelf.Ren := ⟨fun | 20 => 111 | n => n, fun | 22 => 28 | 3 => 3 | 4 => 4 | 0 => 0 | n => n, fun | n => n⟩
theorem Tryz.laysNm220 : Go.Proofs.Lays2.n20 Tryz.prog Tryz.laysNm220_ren := {
 mixed := by kernel_rfl
 f20 := Tryz.func111.trans (congrArg some (by kernel_rfl))
 t0 := Tryz.underlying0
 a0 := Tryz.isAgg0
 z0 := Tryz.sizeOf0
 v0 := Tryz.zeroValue0
 t3 := Tryz.underlying3
 a3 := Tryz.isAgg3
 z3 := Tryz.sizeOf3
 v3 := Tryz.zeroValue3
 t4 := Tryz.underlying4
 a4 := Tryz.isAgg4
 z4 := Tryz.sizeOf4
 v4 := Tryz.zeroValue4
 t22 := Tryz.underlying28
 a22 := Tryz.isAgg28
 z22 := Tryz.sizeOf28
 v22 := Tryz.zeroValue28
 i3 := by kernel_rfl }
open Go.RowKit Go.Lib Go.Sort in
theorem Tryz.slices_Compact_int (blk off cap : Nat) (zs : List Int) (w : World) (hH : Holds (Value.int .i64) w blk off zs.toArray) (hsz : zs.length ≤ 9223372036854775807) (hcap : zs.length ≤ cap) :
  Calls Tryz.prog 111 #[.slice (some ⟨blk, off, none⟩) zs.length cap] w fun e w' => e = .returned (.slice (some ⟨blk, off, none⟩) (Lib.compact zs).length cap) ∧ ∃ q, w' = putRow (Value.int .i64) (Sort.ahead w q) blk off (Lib.compact zs ++ List.replicate (zs.length - (Lib.compact zs).length) 0).toArray := Any.slices_Compact_int Tryz.laysNm220 blk off cap zs w hH hsz hcap
open Go.RowKit Go.Lib Go.Sort in
theorem Tryz.slices_Compact_int_empty (a : Option Addr) (cap : Nat) (w : World) :
  Calls Tryz.prog 111 #[.slice a 0 cap] w fun e w' => e = .returned (.slice a 0 cap) ∧ w' = w := Any.slices_Compact_int_empty Tryz.laysNm220 a cap w
def Tryz.laysNm237_ren : Go.Shelf.Ren := ⟨fun | 37 => 133 | n => n, fun | 3 => 3 | 4 => 4 | n => n, fun | n => n⟩
def Tryz.laysNm231_ren : Go.Shelf.Ren := ⟨fun | 31 => 140 | 37 => 133 | n => n, fun | 3 => 3 | 4 => 4 | n => n, fun | n => n⟩
open Go.RowKit Go.Sort in
theorem Tryz.slices_Sort_int_none (p : Option Addr) (cap : Nat) (w : World) :
  Calls Tryz.prog 83 #[.slice p 0 cap] w fun e w' => e = .returned (.tuple #[]) ∧ w' = w := Any.slices_Sort_int_none Tryz.lays189 p cap w
open Go.RowKit Go.Lib in
theorem Tryz.slices_Equal_int_lens (a1 a2 : Option Addr) (n c m d : Nat) (w : World) (hnm : n ≠ m) :
  Calls Tryz.prog 69 #[.slice a1 n c, .slice a2 m d] w fun e w' => e = .returned (.bool false) ∧ w' = w := Any.slices_Equal_int_lens Tryz.lays111 a1 a2 n c m d w hnm
open Go.RowKit Go.Lib in
theorem Tryz.slices_Equal_string_lens (a1 a2 : Option Addr) (n c m d : Nat) (w : World) (hnm : n ≠ m) :
  Calls Tryz.prog 70 #[.slice a1 n c, .slice a2 m d] w fun e w' => e = .returned (.bool false) ∧ w' = w := Any.slices_Equal_string_lens Tryz.lays193 a1 a2 n c m d w hnm
end Go.Proofs
/- Sorting by a function that is given: worlds that are known but for draws and new blocks. -/
namespace Go.Sx
open Go Go.Proofs Go.RowKit
def Gr (W w : World) : Prop := ∃ q os, w = Go.Sort.grow (W.drewN q) os
theorem Gr.refl (W : World) : Gr W W := ⟨0, #[], by simp [Go.Sort.grow, World.drewN]⟩
theorem Gr.trans {W w w' : World} (h : Gr W w) (k : Gr w w') : Gr W w' := by
 obtain ⟨q, os, rfl⟩ := h
 obtain ⟨q', os', rfl⟩ := k
 exact ⟨q + q', os ++ os', by simp [Go.Sort.grow, World.drewN, Array.append_assoc, Nat.add_assoc]⟩
theorem Gr.alloc {W w : World} (h : Gr W w) (o : Obj) : Gr W (w.alloc o) := h.trans ⟨0, #[o], by rw [Go.Sort.alloc_eq_grow]; rfl⟩
theorem Gr.drew {W w : World} (h : Gr W w) : Gr W w.drew := h.trans ⟨1, #[], by show w.drew = { w with heap := w.heap ++ #[], drawn := w.drawn + 1 }; rw [Array.append_empty]; rfl⟩
theorem WC.anyE {P : Program} {N : Nat} {ds : List Deferred} {Q : Post} {E : Env} {w : World} [hm : Mixed P] {id : Nat} {l : List Oper} {fuel : Nat} (hf : l.length = fuel) (h : WA P N ds l fuel (Array.replicate l.length false) Q E w.drew) :
  WC P none N ds (.region id l.toArray true) Q E w := fun a ha =>
 wpIn_region_any hm.is (by subst hf; simpa using h a ha)
theorem compareG (x y : Int) (W : World) : Fn Tryz.prog 98 #[zv x, zv y] W fun v w' => v = zv (Lib.compareInt x y) ∧ Gr W w' :=
 Calls.mono (Tryz.cmp_Compare_int x y W) (by
  rintro e w' ⟨rfl, rfl⟩
  exact ⟨_, rfl, rfl, Gr.refl _⟩)
theorem Gr.ext {W w : World} (h : Gr W w) : Ext W w := by
 obtain ⟨q, os, rfl⟩ := h
 refine ⟨rfl, rfl, rfl, by simp [Go.Sort.grow, World.drewN], fun k hk => ?_⟩
 show (W.heap ++ os)[k]? = _
 rw [Array.getElem?_append, if_pos hk]
theorem arr_at {F : Array Value} {i : Nat} (h : i < F.size) : F.toList[i]? = some F[i]! := by rw [Array.getElem?_toList, Array.getElem?_eq_getElem h, getElem!_pos F i h]
theorem putCells_id (F cur : Array Value) (h : F.size ≤ cur.size) : (Go.Sort.putCells id 0 F cur).toList.take F.size = F.toList := by
 apply List.ext_getElem?
 intro i
 rw [List.getElem?_take]
 by_cases hi : i < F.size
 ·have hi2 : i < cur.size := by omega
  simp [Go.Sort.putCells, hi2, hi]
 ·rw [if_neg hi, List.getElem?_eq_none (by rw [Array.length_toList]; omega)]
end Go.Sx
/-
 The layer with atoms: maps whose keys are strings.
-/
namespace Go.Sx
open Go Go.RowKit
theorem ba_beq (a b : ByteArray) : (a == b) = decide (a = b) := by
 rw [Bool.eq_iff_iff, Go.MapKept.bytes_beq, decide_eq_true_eq]
def msetS : List (ByteArray × Value) → ByteArray → Value → List (ByteArray × Value)
 | [], x, v => [(x, v)]
 | (y, u) :: l, x, v => if x = y then (x, v) :: l else (y, u) :: msetS l x v
def mgetS : List (ByteArray × Value) → ByteArray → Option Value
 | [], _ => none
 | (y, u) :: l, x => if x = y then some u else mgetS l x
def midxS : List (ByteArray × Value) → ByteArray → Option (Nat × Value)
 | [], _ => none
 | (y, u) :: l, x => if x = y then some (0, u) else (midxS l x).map fun p => (p.1 + 1, p.2)
theorem findNow_str (x : ByteArray) : ∀ (es : List MapEntry) (l : List (ByteArray × Value)) (i : Nat), es.map (fun e => (e.key, e.val)) = l.map (fun p => (Value.string p.1, p.2)) →
  Instr.findNow (.string) (.string x) es i = some ((midxS l x).map fun p => (p.1 + i, p.2))
 | [], [], i, _ => rfl
 | [], _ :: _, _, h => by simp at h
 | _ :: _, [], _, h => by simp at h
 | e :: es, (y, u) :: l, i, h => by
  simp only [List.map_cons, List.cons.injEq, Prod.mk.injEq] at h
  obtain ⟨⟨h1, h2⟩, h3⟩ := h
  unfold Instr.findNow
  rw [h1]
  simp only [Instr.sameNow, midxS]
  rw [ba_beq]
  by_cases hxy : x = y
  ·subst hxy
   simp [h2]
  ·rw [decide_eq_false hxy, if_neg hxy]
   simp only
   rw [findNow_str x es l (i + 1) h3]
   cases midxS l x with
   | none => rfl
   | some p => simp; omega
theorem midxS_none {l : List (ByteArray × Value)} {x : ByteArray} (v : Value) (h : midxS l x = none) : msetS l x v = l ++ [(x, v)] := by
 induction l with
 | nil => rfl
 | cons p l ih =>
  obtain ⟨y, u⟩ := p
  simp only [midxS] at h
  by_cases hxy : x = y
  ·rw [if_pos hxy] at h; cases h
  ·rw [if_neg hxy] at h
   simp only [msetS, if_neg hxy, List.cons_append]
   rw [ih (by simpa using h)]
theorem midxS_some {l : List (ByteArray × Value)} {x : ByteArray} (v : Value) {i : Nat} {u : Value} (h : midxS l x = some (i, u)) : msetS l x v = l.set i (x, v) ∧ i < l.length ∧ l[i]? = some (x, u) := by
 induction l generalizing i u with
 | nil => cases h
 | cons p l ih =>
  obtain ⟨y, u'⟩ := p
  simp only [midxS] at h
  by_cases hxy : x = y
  ·rw [if_pos hxy] at h
   cases h
   simp [msetS, hxy]
  ·rw [if_neg hxy] at h
   rw [Option.map_eq_some_iff] at h
   obtain ⟨⟨j, u2⟩, h1, h2⟩ := h
   cases h2
   obtain ⟨h3, h4, h5⟩ := ih h1
   simp only [msetS, if_neg hxy, h3]
   exact ⟨by simp, by simpa using h4, by simpa using h5⟩
theorem run_checkKey_str {P : Program} {w : World} {k : TypeId} (hk : P.underlying k = some (.string)) (e : Bool) (n : Nat) (x : ByteArray) : (Instr.checkKey e (n + 1) k (.string x)).run P w = .ok () w := by
 unfold Instr.checkKey
 simp only [Sem.run_bind, run_underlying hk, Result.andThen]
 rfl
theorem run_keyStaysS {P : Program} {w : World} (x : ByteArray) : (Instr.keyThatStays (.string x) (.string x)).run P w = .ok (.string x) w := by
 have : Instr.sameBits 10000 (.string x) (.string x) = true := by unfold Instr.sameBits; rw [ba_beq, decide_eq_true rfl]
 unfold Instr.keyThatStays
 rw [this]; rfl
theorem run_findKey_str {P : Program} {w : World} {k : TypeId} (hk : P.underlying k = some (.string)) (x : ByteArray) (es : List MapEntry) (l : List (ByteArray × Value)) (hes : es.map (fun e => (e.key, e.val)) = l.map (fun p => (Value.string p.1, p.2))) :
  (Instr.findKey k (.string x) es).run P w = .ok (midxS l x) w := by
 unfold Instr.findKey
 simp only [Sem.run_bind, run_underlying hk, Result.andThen, findNow_str x es l 0 hes, Sem.run_pure]
 cases midxS l x <;> rfl
theorem midxS_get (l : List (ByteArray × Value)) (x : ByteArray) : (midxS l x).map (·.2) = mgetS l x := by
 induction l with
 | nil => rfl
 | cons p l ih =>
  obtain ⟨y, u⟩ := p
  simp only [midxS, mgetS]
  split
  ·rfl
  ·rw [← ih]; cases midxS l x <;> rfl
structure MS (l : List (ByteArray × Value)) (es : Array MapEntry) (clk : Nat) : Prop where
 ents : es.toList.map (fun e => (e.key, e.val)) = l.map fun p => (Value.string p.1, p.2)
 born : ∀ e ∈ es.toList, e.born < clk
 nd : (es.toList.map (·.born)).Nodup
theorem MS.nil : MS [] #[] 0 := ⟨rfl, by simp, by simp⟩
theorem MS.ent {l : List (ByteArray × Value)} {es : Array MapEntry} {clk : Nat} (h : MS l es clk) {e : MapEntry} (he : e ∈ es.toList) : ∃ p ∈ l, e.key = .string p.1 ∧ e.val = p.2 := by
 have h1 : (e.key, e.val) ∈ es.toList.map (fun e => (e.key, e.val)) := List.mem_map.2 ⟨e, he, rfl⟩
 rw [h.ents] at h1
 obtain ⟨p, hp, e1⟩ := List.mem_map.1 h1
 simp only [Prod.mk.injEq] at e1
 exact ⟨p, hp, e1.1.symm, e1.2.symm⟩
theorem MS.of {l : List (ByteArray × Value)} {es : Array MapEntry} {clk : Nat} (h : MS l es clk) {p : ByteArray × Value} (hp : p ∈ l) : ∃ e ∈ es.toList, e.key = .string p.1 ∧ e.val = p.2 := by
 have h1 : (Value.string p.1, p.2) ∈ l.map fun p => (Value.string p.1, p.2) := List.mem_map.2 ⟨p, hp, rfl⟩
 rw [← h.ents] at h1
 obtain ⟨e, he, e1⟩ := List.mem_map.1 h1
 simp only [Prod.mk.injEq] at e1
 exact ⟨e, he, e1.1, e1.2⟩
def msP (l : List (ByteArray × Value)) (o : Obj) : Prop := ∃ es clk, o = .map es clk ∧ MS l es clk
def A.ms (b : Nat) (l : List (ByteArray × Value)) : Atom := A.obj b (msP l)
section
variable {P : Program} {w : World} {t k e : TypeId} {b : Nat} {l : List (ByteArray × Value)} {o : Obj} {z : Value} {sz bb : Nat}
theorem run_lookup_ms2 (ht : P.underlying t = some (.map k e)) (hk : P.underlying k = some (.string)) [hi : ITy P e z sz bb] (hb : w.heap[b]? = some o) (ho : msP l o) (x : ByteArray) :
  (Instr.lookup t (.map (some b)) (.string x) true).run P w = .ok (.tuple #[(mgetS l x).getD z, .bool (mgetS l x).isSome]) w := by
 obtain ⟨es, clk, rfl, h⟩ := ho
 have hf := run_findKey_str (P := P) (w := w) hk x es.toList l h.ents
 unfold Instr.lookup
 simp only [Sem.run_bind, run_underlying ht, Result.andThen, run_getMap hb, Sem.run_pure, run_checkKey_str hk _ 9999 x, hf]
 rw [← midxS_get]
 cases midxS l x with
 | none => simp [run_zeroValue (h := hi)]
 | some p => simp
theorem run_mapUpdate_ms (ht : P.underlying t = some (.map k e)) (hk : P.underlying k = some (.string)) (hb : w.heap[b]? = some o) (ho : msP l o) (x : ByteArray) (v : Value) :
  ∃ o', (Instr.mapUpdate t (.map (some b)) (.string x) v).run P w = .ok () (w.putObj b o') ∧ msP (msetS l x v) o' := by
 obtain ⟨es, clk, rfl, h⟩ := ho
 have hes := h.ents
 have hf := run_findKey_str (P := P) (w := w) hk x es.toList l hes
 have hlen : es.size = l.length := by have := congrArg List.length hes; simpa using this
 cases hm : midxS l x with
 | none =>
  refine ⟨.map (es.push { key := .string x, val := v, born := clk }) (clk + 1), ?_, ?_⟩
  ·rw [hm] at hf
   unfold Instr.mapUpdate
   simp only [Sem.run_bind, run_underlying ht, Result.andThen, run_getMap hb, run_checkKey_str hk _ 9999 x, hf, run_setMap _ hb]
  ·refine ⟨_, _, rfl, ?_, ?_, ?_⟩
   ·rw [midxS_none v hm]
    simp [hes]
   ·intro y hy
    rw [Array.toList_push] at hy
    rcases List.mem_append.1 hy with hy | hy
    ·exact Nat.lt_succ_of_lt (h.born y hy)
    ·rw [List.mem_singleton] at hy; subst hy; exact Nat.lt_succ_self _
   ·rw [Array.toList_push, List.map_append]
    refine List.nodup_append.2 ⟨h.nd, by simp, fun a ha c hc e => ?_⟩
    obtain ⟨y, hy, rfl⟩ := List.mem_map.1 ha
    simp only [List.map_cons, List.map_nil, List.mem_singleton] at hc
    have := h.born y hy
    omega
 | some p =>
  obtain ⟨i, u⟩ := p
  obtain ⟨h1, h2, h3⟩ := midxS_some v hm
  have hi : i < es.size := by omega
  have hkey : es[i].key = .string x := by
   have := congrArg (fun l => l[i]?) hes
   simp [h3, hi] at this
   exact this.1
  have hb2 : (es.modify i fun e => { e with key := .string x, val := v }).toList.map (·.born) = es.toList.map (·.born) := by
   apply List.ext_getElem?
   intro j
   simp only [List.getElem?_map, Array.getElem?_toList]
   rw [Array.getElem?_modify]
   by_cases e : i = j
   ·subst e; simp [hi]
   ·simp [e]
  refine ⟨.map (es.modify i fun e => { e with key := .string x, val := v }) clk, ?_, ?_⟩
  ·rw [hm] at hf
   have hk2 : ((es[i]?).map (·.key)).getD (.string x) = .string x := by simp [hi, hkey]
   unfold Instr.mapUpdate
   simp only [Sem.run_bind, run_underlying ht, Result.andThen, run_getMap hb, run_checkKey_str hk _ 9999 x, hf, hk2, run_keyStaysS, run_setMap _ hb]
  ·refine ⟨_, _, rfl, ?_, ?_, ?_⟩
   ·rw [h1]
    apply List.ext_getElem?
    intro j
    have hj := congrArg (fun l => l[j]?) hes
    simp only [List.getElem?_map, Array.getElem?_toList] at hj ⊢
    rw [Array.getElem?_modify, List.getElem?_set]
    by_cases e : i = j
    ·subst e
     simp [hi, h2]
    ·simp only [if_neg e]
     exact hj
   ·intro y hy
    have h4 : y.born ∈ (es.modify i fun e => { e with key := .string x, val := v }).toList.map (·.born) := List.mem_map.2 ⟨y, hy, rfl⟩
    rw [hb2] at h4
    obtain ⟨y0, h5, h6⟩ := List.mem_map.1 h4
    rw [← h6]; exact h.born y0 h5
   ·rw [hb2]; exact h.nd
end
section
variable {P : Program} {r : Option Nat} {N : Nat} {ds : List Deferred} {ol rest : List Oper} {Q : Post} {E : Env} {w0 : World} {H : List Atom} {next : Act → World → Prop} {g : Option (Nat × Bool)}
variable {d : Nat} {t ty : TypeId} {pos : String} {af : Array Edge} {x y z : Operand}
theorem H1.mkms (hd : Nat.blt d N = true) (h : ∀ b, HN N ds next ((d, .map (some b)) :: E) w0 (A.ms b [] :: H)) : H1 P r N ds next ⟨some d, .makeMap t none, ty, pos, af, g⟩ Q E w0 H := fun w hM =>
 W1.run (v := .map (some w.heap.size)) (w' := w.alloc (.map #[] 0)) (fun _ _ => rfl) rfl hd (h _ _ (by
  refine (hM.more (Ext.alloc w _)).cons ⟨_, World.alloc_heap_new w _, _, _, rfl, MS.nil⟩ (by simp [A.ms, A.obj]) fun b hb => ?_
  have hb' : b = w.heap.size := by simpa [A.ms, A.obj] using hb
  subst hb'
  refine ⟨fun hm => ?_, hM.ext.size, by simp⟩
  have := (hM.rng _ hm).2
  omega))
theorem H1.msget2 {b : Nat} {k e : TypeId} {l : List (ByteArray × Value)} {n : ByteArray} {zv : Value} {sz bb : Nat} [ht : UTy P t (.map k e)] [hk : UTy P k (.string)] [hi : ITy P e zv sz bb] (hx : Env.ev E x = some (.map (some b))) (hy : Env.ev E y = some (.string n))
  (hm : A.ms b l ∈ H) (hd : Nat.blt d N = true) (h : HN N ds next ((d, .tuple #[(mgetS l n).getD zv, .bool (mgetS l n).isSome]) :: E) w0 H) : H1 P r N ds next ⟨some d, .lookup t x y true, ty, pos, af, g⟩ Q E w0 H := fun w hM => by
 obtain ⟨o, h1, h2⟩ : ∃ o, w.heap[b]? = some o ∧ msP l o := hM.all _ hm
 refine W1.run (v := .tuple #[(mgetS l n).getD zv, .bool (mgetS l n).isSome]) (w' := w) (fun a ha' => ?_) rfl hd (h w hM)
 simp only [execOp, ha'.ev hx, ha'.ev hy, Sem.run_bind, run_lookup_ms2 ht.is hk.is h1 h2 n, Result.andThen, Sem.run_pure]
theorem H1.msset {b : Nat} {k e : TypeId} {l : List (ByteArray × Value)} {n : ByteArray} {v : Value} {H' : List Atom} [ht : UTy P t (.map k e)] [hk : UTy P k (.string)] (hx : Env.ev E x = some (.map (some b))) (hy : Env.ev E y = some (.string n)) (hz : Env.ev E z = some v)
  (hr : Rpl (A.ms b l) (A.ms b (msetS l n v)) H H') (h : HN N ds next E w0 H') : H1 P r N ds next ⟨none, .mapUpdate t x y z, ty, pos, af, g⟩ Q E w0 H := fun w hM => by
 obtain ⟨o, hb, ho⟩ : ∃ o, w.heap[b]? = some o ∧ msP l o := hM.all _ hr.mem
 obtain ⟨o', hrun, ho'⟩ := run_mapUpdate_ms (P := P) ht.is hk.is hb ho n v
 have hlt := (Array.getElem?_eq_some_iff.1 hb).1
 refine W1.skip (w' := w.putObj b o') (fun a ha => ?_) rfl rfl (h _ (hM.turn hr rfl rfl rfl (by simp) (fun k _ hk' => ?_) ⟨o', World.putObj_heap_same hlt, ho'⟩ (by simp [A.ms, A.obj]) fun b' hb' => .inl hb'))
 ·simp only [execOp, ha.ev hx, ha.ev hy, ha.ev hz, Sem.run_bind, hrun, Result.andThen, Sem.run_pure]
 ·exact World.putObj_heap_other (by simpa [A.ms, A.obj] using hk')
end
theorem Mm.head {w0 w : World} {a a' : Atom} {H : List Atom} (h : Mm w0 (a :: H) w) (hfp : a'.fp = a.fp) (hp : a'.p w) : Mm w0 (a' :: H) w := by
 refine ⟨h.ext, fun x hx => ?_, ?_, fun b hb => ?_⟩
 ·rcases List.mem_cons.1 hx with rfl | hx
  ·exact hp
  ·exact h.all x (List.mem_cons_of_mem _ hx)
 ·have := h.nd
  rw [fps_cons] at this ⊢
  rwa [hfp]
 ·refine h.rng b ?_
  rw [fps_cons] at hb ⊢
  rwa [hfp] at hb
def A.mx (b : Nat) (es : Array MapEntry) (clk : Nat) : Atom := A.obj b fun o => o = .map es clk
theorem Mm.mx {w0 w : World} {b clk : Nat} {es : Array MapEntry} {H : List Atom} (h : Mm w0 H w) (hm : A.mx b es clk ∈ H) : w.heap[b]? = some (.map es clk) := by
 obtain ⟨o, h1, rfl⟩ : ∃ o, w.heap[b]? = some o ∧ o = .map es clk := h.all _ hm
 exact h1
theorem stamp_inj : ∀ {es : List MapEntry}, (es.map (·.born)).Nodup → ∀ {e e' : MapEntry}, e ∈ es → e' ∈ es → e.born = e'.born → e = e'
 | [], _, _, _, he, _, _ => absurd he (by simp)
 | x :: es, h, e, e', he, he', hb => by
  rw [List.map_cons, List.nodup_cons] at h
  rcases List.mem_cons.1 he with h1 | h1 <;> rcases List.mem_cons.1 he' with h2 | h2
  ·rw [h1, h2]
  ·exact absurd (List.mem_map.2 ⟨e', h2, by rw [← hb, h1]⟩) h.1
  ·exact absurd (List.mem_map.2 ⟨e, h1, by rw [hb, h2]⟩) h.1
  ·exact stamp_inj h.2 h1 h2 hb
theorem map_eraseIdx {α β : Type} (f : α → β) : ∀ (l : List α) (i : Nat), (l.map f).eraseIdx i = (l.eraseIdx i).map f
 | [], _ => rfl
 | _ :: _, 0 => rfl
 | a :: l, i + 1 => by
  simp only [List.map_cons, List.eraseIdx_cons_succ]
  rw [map_eraseIdx f l i]
theorem mleft_erase (es : Array MapEntry) (i : Nat) (seen : Array Nat) : mleft (es.eraseIdxIfInBounds i) seen ≤ mleft es seen := by
 unfold mleft
 rw [Array.toList_eraseIdxIfInBounds]
 exact ((List.eraseIdx_sublist _ i).filter _).length_le
end Go.Sx
/-
 The layer with atoms: many atoms as one; append of a list that may be nil.
-/
namespace Go.Sx
open Go Go.RowKit
def A.all (K : List Atom) : Atom := ⟨fps K, fun w => ∀ x ∈ K, x.p w, fun w w' hs h hp x hx => x.loc w w' hs (fun b hb => h b (mem_fps hx hb)) (hp x hx)⟩
theorem Mm.pack {w0 w : World} {K H : List Atom} (h : Mm w0 (K ++ H) w) : Mm w0 (A.all K :: H) w := by
 refine ⟨h.ext, fun x hx => ?_, ?_, fun b hb => ?_⟩
 ·rcases List.mem_cons.1 hx with rfl | hx
  ·exact fun y hy => h.all y (List.mem_append_left _ hy)
  ·exact h.all x (List.mem_append_right _ hx)
 ·have := h.nd; rwa [fps_append] at this
 ·refine h.rng b ?_
  rw [fps_append]; exact hb
theorem Mm.pack1 {w0 w : World} {K : List Atom} (h : Mm w0 K w) : Mm w0 [A.all K] w := Mm.pack (H := []) (by simpa using h)
theorem Mm.unpack {w0 w : World} {K H : List Atom} (h : Mm w0 (A.all K :: H) w) : Mm w0 (K ++ H) w := by
 refine ⟨h.ext, fun x hx => ?_, ?_, fun b hb => h.rng b ?_⟩
 ·rcases List.mem_append.1 hx with hx | hx
  ·exact h.all (A.all K) (List.Mem.head _) x hx
  ·exact h.all x (List.Mem.tail _ hx)
 ·have := h.nd; rw [fps_append]; exact this
 ·rw [fps_append] at hb; exact hb
theorem Mm.allNil {w0 w : World} {H : List Atom} (h : Mm w0 H w) : Mm w0 (A.all [] :: H) w := Mm.pack (K := []) h
theorem Mm.allAdd {w0 w : World} {a : Atom} {K H : List Atom} (h : Mm w0 (a :: A.all K :: H) w) : Mm w0 (A.all (K ++ [a]) :: H) w := by
 refine Mm.pack ?_
 have h1 : Mm w0 (A.all K :: a :: H) w := h.perm (List.Perm.swap _ _ _)
 have h2 := h1.unpack
 simpa using h2
theorem run_append_none {P : Program} {w : World} (base : Nat) (t ty e : TypeId) (i : TypeInfo) (size : Nat) (ht : P.underlying t = some (.slice e)) (hi : P.info? e = some i)
  (v : Value) (n c : Nat) (xs : List Value) (hown : w.ownsRow base e size v n xs) :
  (Builtin.append_ #[t, t] ty #[v, .slice none 0 c]).run P w = .ok v w := by
 rcases hown.2 with ⟨rfl, rfl⟩ | ⟨g, cap, cur, rfl, _, _, hnc, _⟩
 ·simp [Builtin.append_, run_underlying ht, sizeOf, typeInfo, hi, Builtin.lenOf, Builtin.firstCells]
 ·simp [Builtin.append_, run_underlying ht, sizeOf, typeInfo, hi, Builtin.lenOf, Builtin.firstCells, hnc, storeCells]
theorem Rpl.same {x : Atom} {H H' : List Atom} (h : Rpl x x H H') : H = H' := by
 generalize hy : x = y at h
 induction h with
 | here => rfl
 | there _ ih => rw [ih]
theorem H1.appR {P : Program} {r : Option Nat} {N : Nat} {ds : List Deferred} {Q : Post} {E : Env} {w0 : World} {H : List Atom} {next : Act → World → Prop} {g : Option (Nat × Bool)}
  {d : Nat} {t ty : TypeId} {pos : String} {af : Array Edge} {x y : Operand}
  {e : TypeId} {z : Value} {bb n c c2 : Nat} {a ao : Option Addr} {xs vs : List Value} {H' : Option Addr → Nat → List Atom} [h : UTy P t (.slice e)] [hi : ITy P e z 1 bb] (hzs : z.cells.size = 1)
  (hx : Env.ev E x = some (.slice a n c)) (hy : Env.ev E y = some (.slice ao vs.length c2)) (hr : ∀ a' c', Rpl (A.grow e 1 a c n xs) (A.grow e 1 a' c' (n + vs.length) (xs ++ vs)) H (H' a' c'))
  (hR : ∀ w, Mm w0 H w → Rd w (.slice ao vs.length c2) vs) (h1 : ∀ u ∈ vs, u.oneCell' = true) (hnm : n + vs.length ≤ 1000000) (hb : bb ≤ 1000) (hd : Nat.blt d N = true)
  (ha0 : n = 0 ∨ ∃ b, a = some ⟨b, 0, none⟩) (hn : ∀ a' c', (n + vs.length = 0 ∨ ∃ b, a' = some ⟨b, 0, none⟩) → HN N ds next ((d, .slice a' (n + vs.length) c') :: E) w0 (H' a' c')) :
  H1 P r N ds next ⟨some d, .call ⟨.builtin .append, #[x, y], #[t, t]⟩, ty, pos, af, g⟩ Q E w0 H := by
 cases ao with
 | some ad =>
  refine H1.app hzs (by decide) hx hy hr (by simp) (fun w hM => ?_) h1 hnm hb hd hn
  intro j u hu
  obtain ⟨a', c', h2, h3, h4⟩ := hR w hM
  cases h2
  rcases h4 with rfl | ⟨b, off, h5, h6, h7⟩
  ·simp at hu
  ·cases h5; rw [add_lit]; exact h7 j u hu
 | none =>
  intro w hM
  obtain ⟨a', c', h2, h3, h4⟩ := hR w hM
  cases h2
  have e0 : vs = [] := by
   rcases h4 with h4 | ⟨b, off, h5, -⟩
   ·exact h4
   ·cases h5
  subst e0
  obtain ⟨i, hi1, hi2, hi3, hi4⟩ := hi.parts
  have hsame : H = H' a c := Rpl.same (x := A.grow e 1 a c n xs) (by have := hr a c; simpa using this)
  have hown := hM.own (hr a c).mem
  refine W1.run (v := .slice a n c) (w' := w) (fun ac ha => ?_) rfl hd (by have := hn a c ha0 w (hsame ▸ hM); rwa [List.length_nil, Nat.add_zero] at this)
  have hrun := run_append_none (P := P) 0 t ty e i 1 h.is hi1 (.slice a n c) n c2 xs hown
  simp only [List.length_nil] at hy
  simp only [execOp, resolve, invoke, Go.builtin, Sem.run_bind, Sem.run_pure, Result.andThen, List.map_toArray, List.map_cons, List.map_nil, ha.ev hx, ha.ev hy, hrun]
theorem HO.drop_a {P : Program} {N : Nat} {ds : List Deferred} {ol : List Oper} {Q : Post} {E : Env} {w0 : World} {H : List Atom} {fuel : Nat} {listed : Array Bool} {ty : TypeId} {pos : String} {af : Array Edge} {op : Op} {d : Option Nat} {i j : Nat} {want b : Bool} (hj : guardE ol E j = some b)
  (h : HA P N ds ol fuel (listed.setIfInBounds i true) Q (putE d undef E) w0 H)
  (hb : b = !want := by
   first | with_reducible rfl | assumption | (simp only [Bool.not_true, Bool.not_false]; done) | (simp only [decide_eq_true_eq, decide_eq_false_iff_not, Bool.not_true, Bool.not_false, not_true_eq_false, not_false_eq_true, reduceCtorEq]; first | done | assumption | omega)) (hd : dOk d N = true := by exact rfl) : HO P N ds ol fuel listed i ⟨d, op, ty, pos, af, some (j, want)⟩ Q E w0 H := fun w hM a ha => by
 have hy := guardE_spec hj ha
 have hne : ((some (!want) : Option Bool) == some want) = false := by cases want <;> rfl
 simp only [Region.wanted, hy, hb, hne, Bool.false_eq_true, if_false]
 exact h w hM _ (ha.putO hd undef)
section
variable {l : List (Addr × Value)} {w0 : World} {H : List Atom}
variable {P : Program} {N : Nat} {ds : List Deferred} {ol : List Oper} {Q : Post} {E : Env} {fuel : Nat} {listed : Array Bool} {ty : TypeId} {pos : String} {af : Array Edge}
theorem HP.drop_a {op : Op} {d : Option Nat} {i j : Nat} {want b : Bool} (hj : guardE ol E j = some b) (h : HB l P N ds ol fuel (listed.setIfInBounds i true) Q (putE d undef E) w0 H)
  (hb : b = !want := by
   first | with_reducible rfl | assumption | (simp only [Bool.not_true, Bool.not_false]; done) | (simp only [decide_eq_true_eq, decide_eq_false_iff_not, Bool.not_true, Bool.not_false, not_true_eq_false, not_false_eq_true, reduceCtorEq]; first | done | assumption | omega))
  (hd : dOk d N = true := by exact rfl) : HP l P N ds ol fuel listed i ⟨d, op, ty, pos, af, some (j, want)⟩ Q E w0 H := fun w hM a ha => by
 have hy := guardE_spec hj ha
 have hne : ((some (!want) : Option Bool) == some want) = false := by cases want <;> rfl
 simp only [Region.wanted, hy, hb, hne, Bool.false_eq_true, if_false]
 exact h w hM _ (ha.putO hd undef)
end
end Go.Sx
/- slices.Sort and slices.Compact at numbers. -/
namespace Go.Sx
open Go Go.Proofs Go.RowKit
def srtI (l : List Int) : List Int := l.mergeSort fun x y => decide (x ≤ y)
theorem srtI_perm (l : List Int) : (srtI l).Perm l := List.mergeSort_perm _ _
theorem srtI_len (l : List Int) : (srtI l).length = l.length := (srtI_perm l).length_eq
theorem srtI_pw (l : List Int) : (srtI l).Pairwise (· ≤ ·) := by
 have := List.pairwise_mergeSort (le := fun x y : Int => decide (x ≤ y)) (by intro a b c; simp only [decide_eq_true_eq]; omega) (by intro a b; simp only [Bool.or_eq_true, decide_eq_true_eq]; omega) l
 exact this.imp fun h => by simpa using h
def numL (l : List Int) : List Int := Lib.compact (srtI l)
theorem compact_mem {m : List Int} (x : Int) : x ∈ Lib.compact m ↔ x ∈ m := by
 unfold Lib.compact Lib.compactUpTo
 rw [List.mem_map]
 constructor
 ·rintro ⟨j, hj, rfl⟩
  have hlt := List.mem_range.1 (List.mem_filter.1 hj).1
  simp [hlt]
 ·intro h
  obtain ⟨i, hi, hx⟩ := List.getElem_of_mem h
  suffices H : ∀ n i (hi : i < m.length), i ≤ n → m[i] = x → ∃ j, j ∈ (List.range m.length).filter (Lib.keeps m.toArray) ∧ m.toArray[j]! = x from H i i hi (Nat.le_refl _) hx
  intro n
  induction n with
  | zero =>
   intro i hi h0 hx
   obtain rfl : i = 0 := by omega
   exact ⟨0, List.mem_filter.2 ⟨List.mem_range.2 hi, by unfold Lib.keeps; simp⟩, by simp [hi, hx]⟩
  | succ n ih =>
   intro i hi hn hx
   by_cases hk : Lib.keeps m.toArray i = true
   ·exact ⟨i, List.mem_filter.2 ⟨List.mem_range.2 hi, hk⟩, by simp [hi, hx]⟩
   ·unfold Lib.keeps at hk
    rw [decide_eq_true_eq, not_or, Decidable.not_not] at hk
    have hi1 : i - 1 < m.length := by omega
    refine ih (i - 1) hi1 (by omega) ?_
    have := hk.2
    simp [hi, hi1] at this
    rw [← this]; exact hx
theorem compact_lt {m : List Int} (h : m.Pairwise (· ≤ ·)) : (Lib.compact m).Pairwise (· < ·) := by
 unfold Lib.compact Lib.compactUpTo
 rw [List.pairwise_map]
 refine ((List.pairwise_lt_range (n := m.length)).filter (Lib.keeps m.toArray)).imp_of_mem fun {i j} hi hj hij => ?_
 have hi1 := List.mem_range.1 (List.mem_filter.1 hi).1
 have hj1 := List.mem_filter.1 hj
 have hj2 := List.mem_range.1 hj1.1
 have hk := hj1.2
 unfold Lib.keeps at hk
 rw [decide_eq_true_eq] at hk
 have hj3 : j - 1 < m.length := by omega
 have hne : m[j] ≠ m[j - 1] := by
  rcases hk with hk | hk
  ·omega
  ·simpa [hj2, hj3] using hk
 have h1 := List.pairwise_iff_getElem.1 h (j - 1) j hj3 hj2 (by omega)
 have h2 : m[i] ≤ m[j - 1] := by
  by_cases e : i = j - 1
  ·subst e; exact Int.le_refl _
  ·exact List.pairwise_iff_getElem.1 h i (j - 1) hi1 hj3 (by omega)
 simp only [List.getElem!_toArray, List.getElem!_eq_getElem?_getD, List.getElem?_eq_getElem hi1, List.getElem?_eq_getElem hj2, Option.getD_some]
 omega
theorem mem_numL {l : List Int} {x : Int} : x ∈ numL l ↔ x ∈ l := by unfold numL; rw [compact_mem, (srtI_perm l).mem_iff]
theorem numL_lt (l : List Int) : (numL l).Pairwise (· < ·) := compact_lt (srtI_pw l)
theorem putCells_take (ys : List Int) (cur : Array Value) (h : ys.length ≤ cur.size) : (Go.Sort.putCells (Value.int .i64) 0 ys.toArray cur).toList.take ys.length = ints ys := by
 apply List.ext_getElem?
 intro i
 rw [List.getElem?_take]
 by_cases hi : i < ys.length
 ·rw [if_pos hi, ints_get hi]
  have hi2 : i < cur.size := by omega
  simp [Go.Sort.putCells, hi2, at', zv, hi]
 ·rw [if_neg hi, List.getElem?_eq_none (by rw [ints_len]; omega)]
theorem sortI_fn {w0 w : World} {H H' : List Atom} {a : Option Addr} {c : Nat} {l : List Int} (hM : Mm w0 H w) (hr : Rpl (A.grow 3 1 a c l.length (ints l)) (A.grow 3 1 a c l.length (ints (srtI l))) H H') (hl : l.length ≤ 1000000) :
  Fn Tryz.prog 83 #[.slice a l.length c] w fun v w' => v = .tuple #[] ∧ Mm w0 H' w' := by
 by_cases h0 : l = []
 ·subst h0
  refine Calls.mono (Tryz.slices_Sort_int_none a c w) ?_
  rintro e w' ⟨rfl, rfl⟩
  have hs : srtI [] = [] := by simp [srtI]
  rw [hs] at hr
  exact ⟨_, rfl, rfl, Rpl.same hr ▸ hM⟩
 have hne : l.length ≠ 0 := fun e => h0 (List.eq_nil_of_length_eq_zero e)
 have hown := hM.own hr.mem
 obtain ⟨b, cur, rfl, hg, hnc, hcm, hcs⟩ : ∃ b cur, a = some ⟨b, 0, none⟩ ∧ w.heap[b]? = some (.cells cur 3 (0, 0)) ∧ l.length ≤ c ∧ c ≤ maxLen ∧ cur.size = c * 1 := by
  rcases hown.2 with ⟨-, h2⟩ | ⟨g, cap, cur, hv, -, hg, hnc, hcm, hcs, -⟩
  ·exact absurd h2 hne
  ·cases hv; exact ⟨g, cur, rfl, hg, hnc, hcm, hcs⟩
 have hlt := (Array.getElem?_eq_some_iff.1 hg).1
 have hcell : ∀ j, j < l.length → w.cell? ⟨b, j, none⟩ = some (zv (at' l j)) := fun j hj => ownsRow_cell hown (ints_get hj)
 refine Calls.mono (Tryz.slices_Sort_int b 0 c l w (fun j hj => ?_) hlt (by omega)) ?_
 ·have hj' : j < l.length := by simpa using hj
  rw [Nat.zero_add, hcell j hj']
  refine ⟨?_, by simp [World.frozen?, hg]⟩
  simp [at', hj', zv, getElem!_pos]
 ·rintro e w' ⟨rfl, n, os, rfl⟩
  have hs : (Go.Sort.putRow (Value.int .i64) (Go.Sort.ahead w n) b 0 (srtI l).toArray).heap.size = w.heap.size := by simp [Go.Sort.putRow, Go.Sort.mapBlock, Go.Sort.ahead]
  refine ⟨_, rfl, rfl, hM.turn hr rfl rfl rfl ?_ (fun k hk hkb => ?_) ?_ (by simp [A.grow, Value.ownBlock]) (fun b' hb' => .inl (by simpa [A.grow, Value.ownBlock] using hb'))⟩
  ·simp [Go.Sort.grow, Go.Sort.putRow, Go.Sort.mapBlock, Go.Sort.ahead]
  ·have hkb' : ¬ b = k := fun e => hkb (by subst e; simp [A.grow, Value.ownBlock])
   show ((Go.Sort.putRow (Value.int .i64) (Go.Sort.ahead w n) b 0 (srtI l).toArray).heap ++ os)[k]? = _
   rw [Array.getElem?_append, if_pos (by rw [hs]; exact hk)]
   show (w.heap.modify b _)[k]? = _
   rw [Array.getElem?_modify, if_neg hkb']
  ·have hls := srtI_len l
   refine ⟨by simp [ints, hls], .inr ⟨b, c, Go.Sort.putCells (Value.int .i64) 0 (srtI l).toArray cur, rfl, Nat.zero_le _, ?_, hnc, hcm, by simp [Go.Sort.putCells, hcs], ?_⟩⟩
   ·have hm : (Go.Sort.putRow (Value.int .i64) (Go.Sort.ahead w n) b 0 (srtI l).toArray).heap[b]? = some (.cells (Go.Sort.putCells (Value.int .i64) 0 (srtI l).toArray cur) 3 (0, 0)) := by
     simp [Go.Sort.putRow, Go.Sort.mapBlock, Go.Sort.ahead, Array.getElem?_modify, hg, Go.Sort.onCells]
    show (Go.Sort.grow (Go.Sort.putRow (Value.int .i64) (Go.Sort.ahead w n) b 0 (srtI l).toArray) os).heap[b]? = _
    rw [Go.Sort.grow]
    simp only [Array.getElem?_append]
    rw [if_pos (by rw [hs]; exact hlt), hm]
   ·rw [Nat.mul_one, ← hls]
    exact putCells_take _ _ (by omega)
theorem compactI_fn {w0 w : World} {H H' : List Atom} {a : Option Addr} {c : Nat} {l : List Int} (hM : Mm w0 H w) (hr : Rpl (A.grow 3 1 a c l.length (ints l)) (A.grow 3 1 a c (Lib.compact l).length (ints (Lib.compact l))) H H') (hl : l.length ≤ 1000000) :
  Fn Tryz.prog 111 #[.slice a l.length c] w fun v w' => v = .slice a (Lib.compact l).length c ∧ Mm w0 H' w' := by
 by_cases h0 : l = []
 ·subst h0
  refine Calls.mono (Tryz.slices_Compact_int_empty a c w) ?_
  rintro e w' ⟨rfl, rfl⟩
  exact ⟨_, rfl, rfl, Rpl.same hr ▸ hM⟩
 have hne : l.length ≠ 0 := fun e => h0 (List.eq_nil_of_length_eq_zero e)
 have hown := hM.own hr.mem
 obtain ⟨b, cur, rfl, hg, hnc, hcm, hcs⟩ : ∃ b cur, a = some ⟨b, 0, none⟩ ∧ w.heap[b]? = some (.cells cur 3 (0, 0)) ∧ l.length ≤ c ∧ c ≤ maxLen ∧ cur.size = c * 1 := by
  rcases hown.2 with ⟨-, h2⟩ | ⟨g, cap, cur, hv, -, hg, hnc, hcm, hcs, -⟩
  ·exact absurd h2 hne
  ·cases hv; exact ⟨g, cur, rfl, hg, hnc, hcm, hcs⟩
 have hlt := (Array.getElem?_eq_some_iff.1 hg).1
 have hcell : ∀ j, j < l.length → w.cell? ⟨b, j, none⟩ = some (zv (at' l j)) := fun j hj => ownsRow_cell hown (ints_get hj)
 have hle : (Lib.compact l).length ≤ l.length := Lib.compact_length_le l
 refine Calls.mono (Tryz.slices_Compact_int b 0 c l w (fun j hj => ?_) (by omega) hnc) ?_
 ·have hj' : j < l.length := by simpa using hj
  rw [Nat.zero_add, hcell j hj']
  refine ⟨?_, by simp [World.frozen?, hg]⟩
  simp [at', hj', zv, getElem!_pos]
 ·rintro e w' ⟨rfl, q, rfl⟩
  obtain ⟨ys, hys⟩ : ∃ ys, ys = Lib.compact l ++ List.replicate (l.length - (Lib.compact l).length) 0 := ⟨_, rfl⟩
  have hyl : ys.length = l.length := by rw [hys, List.length_append, List.length_replicate]; omega
  rw [← hys]
  refine ⟨_, rfl, rfl, hM.turn hr rfl rfl rfl (by simp [Go.Sort.putRow, Go.Sort.mapBlock, Go.Sort.ahead]) (fun k hk hkb => ?_) ?_ (by simp [A.grow, Value.ownBlock]) (fun b' hb' => .inl (by simpa [A.grow, Value.ownBlock] using hb'))⟩
  ·have hkb' : ¬ b = k := fun e => hkb (by subst e; simp [A.grow, Value.ownBlock])
   show (w.heap.modify b _)[k]? = _
   rw [Array.getElem?_modify, if_neg hkb']
  ·refine ⟨by simp [ints], .inr ⟨b, c, Go.Sort.putCells (Value.int .i64) 0 ys.toArray cur, rfl, Nat.zero_le _, ?_, by omega, hcm, by simp [Go.Sort.putCells, hcs], ?_⟩⟩
   ·simp [Go.Sort.putRow, Go.Sort.mapBlock, Go.Sort.ahead, Array.getElem?_modify, hg, Go.Sort.onCells]
   ·have h1 := putCells_take ys cur (by omega)
    have h2 : (Go.Sort.putCells (Value.int .i64) 0 ys.toArray cur).toList.take ((Lib.compact l).length * 1) = ((Go.Sort.putCells (Value.int .i64) 0 ys.toArray cur).toList.take ys.length).take (Lib.compact l).length := by
     rw [List.take_take, Nat.mul_one, Nat.min_eq_left (by omega)]
    rw [h2, h1, hys, ints_app, ← ints_len (Lib.compact l), List.take_left]
end Go.Sx
/- Chapter 24: the numbers of a set in their order; Derived: the walks. -/
namespace Go.Sx
open Go Go.Proofs Go.RowKit
theorem hwNG {G G2 : Prop} (x : G2) (hwq : Hold G2 → G := by
  intro hQq
  repeat' (first | refine HL.pa ?_ (POp.pnil1 rfl rfl) | refine HL.pa ?_ (POp.pnil0 rfl rfl) | refine HL.pa ?_ (POp.nilCheck rfl) | apply HL.fold | apply HA.fold | apply HL.nil | apply HX.n_then | apply HC.seq | apply HC.region | refine HL.pa ?_ | refine HL.ga rfl ?_ | refine HL.na rfl ?_ | refine HL.nu rfl rfl ?_ | apply HC.block | apply HC.skip | apply HC.exit | apply HC.ret | apply HX.e_block | refine HX.e_other rfl ?_ | apply HX.e_then | apply HX.e_again | apply HX.n_block | apply HX.r_then | apply HX.r_block | apply HX.r_again | refine HC.cond_yes rfl ?_ | refine HC.cond_no rfl ?_ | refine HL.one (H1.ldb rfl memA rfl rfl ?_) | refine HC.cond rfl (fun hc => ?_) (fun hc => ?_) | refine HC.cond_b rfl (fun hc => ?_) (fun hc => ?_))
  exact hQq.get) : G := hwq ⟨x⟩
structure KeyS (m : List Int) (es : Array MapEntry) (seen : Array Nat) (ks : List Int) : Prop where
 nd : ks.Nodup
 sub : ∀ k ∈ ks, k ∈ m
 vis : ∀ e ∈ es.toList, e.born ∈ seen → ∀ k, e.key = zv k → k ∈ ks
 back : ∀ k ∈ ks, ∃ e ∈ es.toList, e.key = zv k ∧ e.born ∈ seen
theorem nodupI_len : ∀ {l m : List Int}, l.Nodup → (∀ x ∈ l, x ∈ m) → l.length ≤ m.length
 | [], _, _, _ => Nat.zero_le _
 | a :: l, m, h, hs => by
  rw [List.nodup_cons] at h
  have h1 := nodupI_len (m := m.erase a) h.2 fun x hx => (List.mem_erase_of_ne (fun (e : x = a) => h.1 (by rw [← e]; exact hx))).2 (hs x (List.mem_cons_of_mem _ hx))
  rw [List.length_erase_of_mem (hs a (List.mem_cons_self ..))] at h1
  have h2 := List.length_pos_of_mem (hs a (List.mem_cons_self ..))
  rw [List.length_cons]; omega
theorem permI_of_nodup {l m : List Int} (h1 : l.Nodup) (h2 : m.Nodup) (h : ∀ x, x ∈ l ↔ x ∈ m) : l.Perm m := by
 rw [List.perm_iff_count]
 intro a
 rw [h1.count, h2.count]
 by_cases ha : a ∈ l
 ·rw [if_pos ha, if_pos ((h a).1 ha)]
 ·rw [if_neg ha, if_neg fun hm => ha ((h a).2 hm)]
theorem srtI_congr {l m : List Int} (h : l.Perm m) : srtI l = srtI m :=
 List.Perm.eq_of_pairwise (fun _ _ _ _ h1 h2 => Int.le_antisymm h1 h2) (srtI_pw l) (srtI_pw m) (((srtI_perm l).trans h).trans (srtI_perm m).symm)
theorem zv_inj {a b : Int} (h : (zv a : Value) = zv b) : a = b := by cases h; rfl
theorem ints_snocS (l : List Int) (x : Int) : ints l ++ [zv x] = ints (l ++ [x]) := by simp [ints]
theorem keyS_at {m : List Int} {es : Array MapEntry} (h : es.toList.map (fun e => (e.key, e.val)) = (liftS m).map fun p => (Value.int .i64 p.1, p.2)) {i : Nat} {e : MapEntry} (hi : es.toList[i]? = some e) {k : Int} (hk : e.key = zv k) : m[i]? = some k := by
 have := congrArg (fun l => l[i]?) h
 simp only [List.getElem?_map, hi, Option.map_some] at this
 unfold liftS at this
 cases hm : m[i]? with
 | none => rw [List.getElem?_map, hm] at this; cases this
 | some x =>
  rw [List.getElem?_map, hm] at this
  simp only [Option.map_some, Option.some.injEq, Prod.mk.injEq] at this
  rw [hk] at this
  rw [zv_inj this.1]
attribute [local irreducible] WC WL WX POp Then Again Fn NX W1 WA WO QL RP RA Yld LoopAt HC HL HX HN H1 HA HO HQ HB HP A.blk A.grow A.rd A.obj A.mp AgainH CutH
attribute [local irreducible] A.mq A.mit A.dfr A.loop
theorem keys24_fn (bm : Nat) (w : World) : Fn Tryz.prog 41 #[.map (some bm)] w fun u w' => ∃ b1 : Nat, True ∧ u = .func (.func 84) #[] #[.pointer (some ⟨b1, 0, none⟩)] ∧ Mm w [A.blk b1 [.map (some bm)] 73] w' := by
 refine enterH (l := [_]) rfl Tryz.ntmps41 rfl ?_
 refine hwNG ?_
 refine HL.one (H1.box rfl rfl rfl (fun b1 => ?_))
 refine hwNG ?_
 exact HX.ret1 rfl rfl fun w' hM => ⟨b1, trivial, rfl, hM⟩
set_option maxHeartbeats 1000000 in
theorem keysA_fn {w0 : World} {K0 K1 : Atom} {b1 b2 bm lp clk : Nat} {es : Array MapEntry} {m : List Int} (hb : w0.cell? ⟨b1, 0, none⟩ = some (.map (some bm))) (hmap : w0.heap[bm]? = some (.map es clk)) (hms : MQ .i64 (liftS m) es clk) (hk : m.Nodup)
  (hy : ∀ R (ks : List Int) (p : Int) (z : Option Addr × Nat), ks.length < m.length → ∀ w, Mm w0 (K0 :: K1 :: A.blk b2 [.slice z.1 ks.length z.2] 28 :: A.grow 3 1 z.1 z.2 ks.length (ints ks) :: R) w →
   Yld Tryz.prog lp [zv p] w fun b w' => b = true ∧ ∃ z' : Option Addr × Nat, True ∧ Mm w0 (K0 :: K1 :: A.blk b2 [.slice z'.1 (ks ++ [p]).length z'.2] 28 :: A.grow 3 1 z'.1 z'.2 (ks ++ [p]).length (ints (ks ++ [p])) :: R) w') :
  ∀ w, Mm w0 (K0 :: K1 :: A.blk b2 [.slice none 0 0] 28 :: A.grow 3 1 none 0 0 [] :: []) w →
   Fn Tryz.prog 84 (.func (.yield lp) #[] #[] :: [.pointer (some ⟨b1, 0, none⟩)]).toArray w fun _ w' => ∃ z : List Int × Option Addr × Nat, z.1.Perm m ∧ Mm w0 (K0 :: K1 :: A.blk b2 [.slice z.2.1 z.1.length z.2.2] 28 :: A.grow 3 1 z.2.1 z.2.2 z.1.length (ints z.1) :: []) w' := by
 intro w hM
 have hmw : ∀ {H} {w' : World}, Mm w0 H w' → w'.heap[bm]? = some (.map es clk) := fun hM' => by
  rw [hM'.ext.block bm (Array.getElem?_eq_some_iff.1 hmap).1]; exact hmap
 refine enterK (l := [_, _]) hM rfl Tryz.ntmps84 rfl ?_
 refine hwNG ?_
 refine HL.one (H1.ld0 rfl hb rfl ?_)
 refine hwNG ?_
 refine HL.one (H1.mqrange (es := es) (clk := clk) rfl (fun w' hM => hmw hM) rfl (fun it => ?_))
 refine hwNG ?_
 refine HC.loop (α := Array Nat × List Int × Option Addr × Nat) (fun _ => [(0, .func (.yield lp) #[] #[]), (5, .pointer (some ⟨it, 0, none⟩))])
  (fun z => K0 :: K1 :: A.blk b2 [.slice z.2.2.1 z.2.1.length z.2.2.2] 28 :: A.grow 3 1 z.2.2.1 z.2.2.2 z.2.1.length (ints z.2.1) :: [A.mit it bm clk z.1]) (fun z => KeyS m es z.1 z.2.1) (fun z => mleft es z.1) (#[], [], (none, 0)) ⟨List.nodup_nil, (fun _ h => by cases h), fun e _ hs => absurd hs (by simp), fun _ h => by cases h⟩ esA (Hs.cons (Pick.there Pick.here) (Hs.cons (Pick.there Pick.here) (Hs.cons (Pick.there Pick.here) (Hs.cons (Pick.there Pick.here) (Hs.refl _))))) ?_
 rintro ⟨seen, ks, z⟩ hI
 dsimp only at hI ⊢
 refine hwNG ?_
 refine HL.one (H1.mqnext (H' := fun s => K0 :: K1 :: A.blk b2 [.slice z.1 ks.length z.2] 28 :: A.grow 3 1 z.1 z.2 ks.length (ints ks) :: [A.mit it bm clk s]) rfl (fun w' hM => hmw hM) hms.born (fun s => Rpl.there (Rpl.there (Rpl.there (Rpl.there Rpl.here)))) rfl (fun hall => ?_) (fun e he hne => ?_))
 ·refine hwNG ?_
  refine HX.end0 rfl fun w' hM => ⟨(ks, z), permI_of_nodup hI.nd hk fun x => ⟨hI.sub x, fun hx => ?_⟩, hM.sub (Hs.cons Pick.here (Hs.cons Pick.here (Hs.cons Pick.here (Hs.cons Pick.here (Hs.refl _).skip))))⟩
  obtain ⟨e, he, h1, -⟩ := hms.of (List.mem_map.2 ⟨x, hx, rfl⟩)
  exact hI.vis e he (hall e he) x h1
 obtain ⟨q, hq, hkey, hval⟩ := hms.ent he
 obtain ⟨p, hp, rfl⟩ := List.mem_map.1 hq
 dsimp only at hkey hval
 have hnew : p ∉ ks := fun h => by
  obtain ⟨e', he', h1, h2⟩ := hI.back p h
  have : e' = e := by
   obtain ⟨i, hi⟩ := List.mem_iff_getElem?.1 he
   obtain ⟨j, hj⟩ := List.mem_iff_getElem?.1 he'
   have n1 := keyS_at hms.ents hi hkey
   have n2 := keyS_at hms.ents hj h1
   have hlt : i < m.length := (List.getElem?_eq_some_iff.1 n1).1
   have e2 := (List.getElem?_inj hlt hk).1 (n1.trans n2.symm)
   subst e2
   rw [hi] at hj
   exact (Option.some.inj hj).symm
  subst this
  exact hne h2
 have hlen : ks.length < m.length := by
  have h1 : (ks ++ [p]).Nodup := by
   refine List.nodup_append.2 ⟨hI.nd, by simp, fun a ha c hc e => ?_⟩
   rw [List.mem_singleton] at hc
   subst hc; subst e; exact hnew ha
  have h2 : ∀ x ∈ ks ++ [p], x ∈ m := fun x hx => by
   rcases List.mem_append.1 hx with hx | hx
   ·exact hI.sub x hx
   ·rw [List.mem_singleton] at hx; rw [hx]; exact hp
  have h3 := nodupI_len h1 h2
  rw [List.length_append] at h3
  exact h3
 rw [hkey, hval]
 refine hwNG ?_
 refine HL.one (H1.mqentry (e := e) rfl (fun w' hM => hmw hM) he hms.nd (.tail _ (.tail _ (.tail _ (.tail _ (.head _))))) rfl ?_)
 rw [hkey, hval]
 refine hwNG ?_
 refine HL.one (H1.yield (vs := [zv p]) rfl rfl rfl (hy [A.mit it bm clk (seen.push e.born)] ks p z hlen) ?_)
 rintro z' -
 refine hwNG ?_
 refine HX.again (seen.push e.born, ks ++ [p], z') ⟨?_, fun k hk' => ?_, fun e' he' hs' k hk' => ?_, fun k hk' => ?_⟩ (mleft_lt he hne) esA (Hs.refl _)
 ·refine List.nodup_append.2 ⟨hI.nd, by simp, fun a ha c hc e => ?_⟩
  rw [List.mem_singleton] at hc
  subst hc; subst e; exact hnew ha
 ·rcases List.mem_append.1 hk' with hx | hx
  ·exact hI.sub k hx
  ·rw [List.mem_singleton] at hx; rw [hx]; exact hp
 ·rcases Array.mem_push.1 hs' with h1 | h1
  ·exact List.mem_append_left _ (hI.vis e' he' h1 k hk')
  ·have e1 : e' = e := stamp_inj hms.nd he' he h1
   subst e1
   rw [hkey] at hk'
   exact List.mem_append_right _ (by rw [← zv_inj hk']; exact List.mem_singleton.2 rfl)
 ·rcases List.mem_append.1 hk' with hx | hx
  ·obtain ⟨e', h1, h2, h3⟩ := hI.back k hx
   exact ⟨e', h1, h2, Array.mem_push.2 (.inl h3)⟩
  ·rw [List.mem_singleton] at hx
   subst hx
   exact ⟨e, he, hkey, Array.mem_push.2 (.inr rfl)⟩
set_option maxHeartbeats 1000000 in
theorem appendSeq24_fn {b1 bm clk : Nat} {es : Array MapEntry} {m : List Int} (w : World) (hb : w.cell? ⟨b1, 0, none⟩ = some (.map (some bm))) (hmap : w.heap[bm]? = some (.map es clk)) (hms : MQ .i64 (liftS m) es clk) (hk : m.Nodup) (hl : m.length ≤ 400000) :
  Fn Tryz.prog 116 #[.slice none 0 0, .func (.func 84) #[] #[.pointer (some ⟨b1, 0, none⟩)]] w fun u w' => ∃ z : List Int × Option Addr × Nat, z.1.Perm m ∧ u = .slice z.2.1 z.1.length z.2.2 ∧ Mm w [A.grow 3 1 z.2.1 z.2.2 z.1.length (ints z.1)] w' := by
 refine enterMH (l := [_, _]) rfl Tryz.ntmps116 rfl ?_
 refine hwNG ?_
 refine HL.one (H1.box rfl rfl rfl (fun b2 => ?_))
 refine hwNG ?_
 refine HC.grow0 3 1 ?_
 refine HC.sub [(2, .pointer (some ⟨b2, 0, none⟩)), (6, .func (.func 84) #[] #[.pointer (some ⟨b1, 0, none⟩)])] [A.blk b2 [.slice none 0 0] 28, A.grow 3 1 none 0 0 []] ?_ esA (Hs.cons (Pick.there Pick.here) (Hs.cons Pick.here (Hs.nil _)))
 refine HC.rangeFunc (α := List Int × Option Addr × Nat) (lb := [.pointer (some ⟨b1, 0, none⟩)]) (fun z => [A.blk b2 [.slice z.2.1 z.1.length z.2.2] 28, A.grow 3 1 z.2.1 z.2.2 z.1.length (ints z.1)]) (fun z => z.1.Perm m) rfl ?_ ?_
 ·intro D lp L hL w1 hM1
  refine (keysA_fn (b2 := b2) (m := m) hb hmap hms hk ?_ w1 hM1).mono fun v w2 h => ?_
  ·rintro R ks p ⟨aq, cq⟩ hlt
   dsimp only
   have hsn := ints_snocS ks p
   refine Yld.ofH hL memA rfl rfl ?_
   dsimp only [List.zip_cons_cons, List.zip_nil_right, putAll]
   refine hwNG ?_
   refine HX.ra hL rplA ?_
   refine hwNG ?_
   refine HL.one (H1.lit (cs := [zv p]) rfl rfl rfl rfl rfl rfl (fun b9 => ?_))
   refine hwNG ?_
   refine HL.one (H1.app1 (u := zv p) rfl rfl (fun _ _ => by first | ((repeat (first | with_reducible exact Rpl.here | with_reducible apply Rpl.there)); done) | (repeat (first | exact Rpl.here | apply Rpl.there))) memA rfl rfl (by omega) rfl rfl (fun a' c' => ?_))
   rw [hsn, show ks.length + 1 = (ks ++ [p]).length from by rw [List.length_append]; rfl]
   refine hwNG ?_
   refine HL.one (H1.st (b := b2) rfl rfl (by intro _ h; cases h) (by intro _ h; cases h) rplA (by exact Nat.zero_lt_one) ?_)
   refine hwNG ?_
   refine HX.rp_n hL rplA fun w' hM => ⟨rfl, (some ⟨a', 0, none⟩, c'), trivial, ?_⟩
   exact hM.tail
  ·obtain ⟨⟨ks, z⟩, h1, h2⟩ := h
   exact ⟨(ks, z), h1, h2⟩
 ·rintro D ⟨ks, az, cz⟩ hp
  dsimp only at hp ⊢
  refine hwNG ?_
  exact HX.retM1 rfl rfl Pick.here fun w' hM => ⟨(ks, az, cz), hp, rfl, hM.tail⟩
theorem collect24_fn {b1 bm clk : Nat} {es : Array MapEntry} {m : List Int} (w : World) (hb : w.cell? ⟨b1, 0, none⟩ = some (.map (some bm))) (hmap : w.heap[bm]? = some (.map es clk)) (hms : MQ .i64 (liftS m) es clk) (hk : m.Nodup) (hl : m.length ≤ 400000) :
  Fn Tryz.prog 82 #[.func (.func 84) #[] #[.pointer (some ⟨b1, 0, none⟩)]] w fun u w' => ∃ z : List Int × Option Addr × Nat, z.1.Perm m ∧ u = .slice z.2.1 z.1.length z.2.2 ∧ Mm w [A.grow 3 1 z.2.1 z.2.2 z.1.length (ints z.1)] w' := by
 refine enterH (l := [_]) rfl Tryz.ntmps82 rfl ?_
 refine hwNG ?_
 refine HL.one (H1.callz (vs := [.slice none 0 0, .func (.func 84) #[] #[.pointer (some ⟨b1, 0, none⟩)]]) rfl rfl (fun w' hM => appendSeq24_fn w' (cell_ext hM.ext hb) (by rw [hM.ext.block bm (Array.getElem?_eq_some_iff.1 hmap).1]; exact hmap) hms hk hl) ?_)
 rintro ⟨ks, a2, c2⟩ hp
 dsimp only
 refine hwNG ?_
 exact HX.ret1 rfl rfl fun w' hM => ⟨(ks, a2, c2), hp, rfl, hM⟩
theorem sorted24_fn {b1 bm clk : Nat} {es : Array MapEntry} {m : List Int} (w : World) (hb : w.cell? ⟨b1, 0, none⟩ = some (.map (some bm))) (hmap : w.heap[bm]? = some (.map es clk)) (hms : MQ .i64 (liftS m) es clk) (hk : m.Nodup) (hl : m.length ≤ 400000) :
  Fn Tryz.prog 40 #[.func (.func 84) #[] #[.pointer (some ⟨b1, 0, none⟩)]] w fun u w' => ∃ z : Option Addr × Nat, True ∧ u = .slice z.1 (srtI m).length z.2 ∧ Mm w [A.grow 3 1 z.1 z.2 (srtI m).length (ints (srtI m))] w' := by
 refine enterH (l := [_]) rfl Tryz.ntmps40 rfl ?_
 refine hwNG ?_
 refine HL.one (H1.callz (vs := [.func (.func 84) #[] #[.pointer (some ⟨b1, 0, none⟩)]]) rfl rfl (fun w' hM => collect24_fn w' (cell_ext hM.ext hb) (by rw [hM.ext.block bm (Array.getElem?_eq_some_iff.1 hmap).1]; exact hmap) hms hk hl) ?_)
 rintro ⟨ks, a2, c2⟩ hp
 dsimp only at hp ⊢
 have hkl := hp.length_eq
 have hsrt : srtI ks = srtI m := srtI_congr hp
 refine hwNG ?_
 refine HL.one (H1.callk (α := Unit) (V := fun _ => .tuple #[]) (I := fun _ => True) (H' := fun _ => [A.grow 3 1 a2 c2 ks.length (ints (srtI ks))]) (vs := [.slice a2 ks.length c2]) rfl rfl (fun w' hM => (sortI_fn hM Rpl.here (by omega)).mono fun v w2 h => ⟨(), trivial, h⟩) ?_)
 rintro - -
 rw [hsrt, show ks.length = (srtI m).length by rw [srtI_len, hkl]]
 refine hwNG ?_
 exact HX.ret1 rfl rfl fun w' hM => ⟨(a2, c2), trivial, rfl, hM⟩
end Go.Sx
/- Chapter 24: Derived: the walk. -/
namespace Go.Sx
open Go Go.Proofs Go.RowKit
theorem derL_congr {l : List Nd} {p q : Nat → Bool} (h : ∀ i, i < l.length → p i = q i) : ∀ {i : Nat}, i ≤ l.length → derL l p i = derL l q i
 | 0, _ => rfl
 | i + 1, hi => by
  show (if _ then _ else _) = (if _ then _ else _)
  rw [h i hi, derL_congr h (i := i) (by omega)]
theorem derL_nodup (l : List Nd) (p : Nat → Bool) : ∀ i, (derL l p i).Nodup
 | 0 => List.nodup_nil
 | i + 1 => by
  show (if _ then _ else _ : List Int).Nodup
  split
  ·exact nodup_sAdd (derL_nodup l p i)
  ·exact derL_nodup l p i
theorem sAdd_len (m : List Int) (x : Int) : (sAdd m x).length ≤ m.length + 1 := by
 unfold sAdd
 split
 ·omega
 ·rw [List.length_append]; exact Nat.le_refl _
theorem derL_len (l : List Nd) (p : Nat → Bool) : ∀ i, (derL l p i).length ≤ i
 | 0 => Nat.le_refl _
 | i + 1 => by
  show (if _ then _ else _ : List Int).length ≤ _
  split
  ·exact Nat.le_trans (sAdd_len _ _) (Nat.succ_le_succ (derL_len l p i))
  ·exact Nat.le_trans (derL_len l p i) (Nat.le_succ _)
def derA (l : List Nd) (f : List Int) : List Int := if validN l then srtI (derL l (fun i => decide ((ndAt l i).id ∈ f)) l.length) else []
attribute [local irreducible] WC WL WX POp Then Again Fn NX W1 WA WO QL RP RA Yld LoopAt HC HL HX HN H1 HA HO HQ HB HP A.blk A.grow A.rd A.obj A.mp AgainH CutH
attribute [local irreducible] A.mq A.mit
theorem der1_fn {b bs : Nat} {m : List Int} (n : Nd) (v : Value) (w : World) (hb : w.cell? ⟨b, 0, none⟩ = some (.map (some bs))) (hS : SetW w bs m) :
  Fn Tryz.prog 43 #[ndV n v, .pointer (some ⟨b, 0, none⟩)] w fun u w' => u = .bool (decide (n.id ∈ m)) ∧ Ext w w' := by
 refine enterH (l := [_, _]) rfl Tryz.ntmps43 rfl ?_
 refine hwNB ?_
 refine HL.one (H1.boxAgg (cs := [zv n.id, zv n.kind, zv n.pack, v]) rfl rfl (fun b1 => ?_))
 refine hwNB ?_
 refine HL.one (H1.ld0 rfl hb rfl ?_)
 refine hwNB ?_
 refine HL.one (H1.callx (vs := [_, _]) rfl rfl (fun w' hM => setHas_fn n.id w' (hS.ext hM.ext)) ?_)
 refine hwNB ?_
 exact HX.ret1 rfl rfl fun w' hM => ⟨rfl, hM.ext⟩
theorem derivedA_fn {v vf : Value} {l : List Nd} {f : List Int} {U : Nat → Value} (hl : l.length ≤ 400000) (hs : ∀ i, i < l.length → (ndAt l i).src.length ≤ 1000000) (hf : f.length ≤ 1000000) (w : World) (hR : RdN w v l U) (hF : Rd w vf (ints f)) :
  Fn Tryz.prog 13 #[v, vf] w fun u w' => ∃ z : Option Addr × Nat, True ∧ u = .slice z.1 (derA l f).length z.2 ∧ Mm w [A.grow 3 1 z.1 z.2 (derA l f).length (ints (derA l f))] w' := by
 refine enterH (l := [_, _]) rfl Tryz.ntmps13 rfl ?_
 refine HC.grow0 3 1 ?_
 refine hwNB ?_
 refine HL.one (H1.callx (vs := [_]) rfl rfl (fun w' hM => valid24_fn (by omega) hs w' (hR.ext hM.ext)) ?_)
 cases hv : validN l with
 | false =>
  have hd : derA l f = [] := by unfold derA; rw [hv]; rfl
  rw [hd]
  refine hwNB ?_
  exact HX.ret1 rfl rfl fun w' hM => ⟨(none, 0), trivial, rfl, hM⟩
 | true =>
  have hd : derA l f = srtI (derL l (fun i => decide ((ndAt l i).id ∈ f)) l.length) := by unfold derA; rw [hv, if_pos rfl]
  have hc : derL l (fun i => decide ((ndAt l i).id ∈ setL f f.length)) l.length = derL l (fun i => decide ((ndAt l i).id ∈ f)) l.length := derL_congr (fun i _ => by simp [mem_setA]) (Nat.le_refl _)
  have hn := derL_nodup l (fun i => decide ((ndAt l i).id ∈ f)) l.length
  have hln := derL_len l (fun i => decide ((ndAt l i).id ∈ f)) l.length
  rw [hd]
  refine hwNB ?_
  refine HL.one (H1.callz (vs := [vf]) rfl rfl (fun w' hM => setOf_fn hf w' (hF.ext hM.ext)) ?_)
  rintro bs -
  refine hwNB ?_
  refine HL.one (H1.alloc (cs := [.map none]) rfl rfl (fun b5 => ?_))
  refine hwNB ?_
  refine HL.one (H1.st (b := b5) rfl rfl (by intro _ h; cases h) (by intro _ h; cases h) rplA (by exact Nat.zero_lt_one) ?_)
  refine hwNB ?_
  refine HL.one (H1.callz (vs := [v, _]) rfl rfl (fun w' hM => derived_fn (p := fun q => decide (q.1.id ∈ setL f f.length)) (by omega) hs w' (hR.ext hM.ext) ⟨_, [], [.pointer (some ⟨b5, 0, none⟩)], rfl, inferInstance, fun w2 hx q _ => der1_fn q.1 q.2 w2 (cell_ext hx ((hM.blk (b := b5) memA).cell rfl)) ((hM.setW memA).ext hx)⟩) ?_)
  rintro bm -
  dsimp only
  rw [hc]
  refine hwNB ?_
  refine HL.one (H1.callz (vs := [_]) rfl rfl (fun w' hM => keys24_fn bm w') ?_)
  rintro b1 -
  refine hwNB ?_
  refine HL.one (H1.callz (vs := [_]) rfl rfl (fun w' hM => by
   obtain ⟨o, h1, es, clk, rfl, h2⟩ := hM.setW (b := bm) (m := derL l (fun i => decide ((ndAt l i).id ∈ f)) l.length) memA
   exact sorted24_fn w' ((hM.blk (b := b1) memA).cell rfl) h1 h2 hn (by omega)) ?_)
  rintro z -
  refine hwNB ?_
  exact HX.ret1 rfl rfl fun w' hM => ⟨z, trivial, rfl, hM.sub (Hs.cons Pick.here (Hs.refl _).skip.skip.skip.skip.skip)⟩
end Go.Sx
/- Chapter 24: states: isValid, ids: the walks. -/
namespace Go.Sx
open Go Go.Proofs Go.RowKit
def okS (l : List Nd) (D : List ByteArray) : Bool := validN l && decide (l.length = D.length) && D.all fun d => decide (d.size = 32)
theorem okS_facts {l : List Nd} {D : List ByteArray} (h : okS l D = true) : validN l = true ∧ l.length = D.length ∧ ∀ d ∈ D, d.size = 32 := by
 unfold okS at h
 rw [Bool.and_eq_true, Bool.and_eq_true, decide_eq_true_eq, List.all_eq_true] at h
 exact ⟨h.1.1, h.1.2, fun d hd => of_decide_eq_true (h.2 d hd)⟩
theorem any_not {D : List ByteArray} : (D.any fun d => decide (d.size ≠ 32)) = !(D.all fun d => decide (d.size = 32)) := by
 induction D with
 | nil => rfl
 | cons d D ih =>
  rw [List.any_cons, List.all_cons, ih]
  by_cases h : d.size = 32 <;> simp [h]
attribute [local irreducible] WC WL WX POp Then Again Fn NX W1 WA WO QL RP RA Yld LoopAt HC HL HX HN H1 HA HO HQ HB HP A.blk A.grow A.rd A.obj A.mp AgainH CutH
attribute [local irreducible] A.mq A.mit
theorem isWrong_fn (d : ByteArray) (_ : d.size ≤ 1000000) (w : World) : Fn Tryz.prog 86 #[.string d] w fun u w' => u = .bool (decide (d.size ≠ 32)) ∧ Ext w w' := by
 refine enterH (l := [_]) rfl Tryz.ntmps86 rfl ?_
 by_cases h : d.size = 32
 ·have h' : ((d.size : Nat) : Int) = 32 := by omega
  refine hwNB ?_
  exact HX.ret1 rfl rfl fun w' hM => ⟨by simp [h], hM.ext⟩
 ·have h' : ¬ ((d.size : Nat) : Int) = 32 := by omega
  refine hwNB ?_
  exact HX.ret1 rfl rfl fun w' hM => ⟨by simp [h, h'], hM.ext⟩
theorem stValid_fn {v g : Value} {l : List Nd} {D : List ByteArray} {U : Nat → Value} (hl : l.length ≤ 400000) (hs : ∀ i, i < l.length → (ndAt l i).src.length ≤ 1000000) (hD : D.length ≤ 1000000) (hDs : ∀ d ∈ D, d.size ≤ 1000000) (w : World) (hR : RdN w v l U) (hG : Rd w g (strs D)) :
  Fn Tryz.prog 45 #[.agg #[v, g]] w fun u w' => u = .bool (okS l D) ∧ Ext w w' := by
 obtain ⟨a, c, rfl, hc, -⟩ := id hR.shape
 obtain ⟨a2, c2, rfl, hc2⟩ : ∃ a c, g = .slice a D.length c ∧ D.length ≤ c := by
  obtain ⟨a, c, h1, h2, -⟩ := id hG
  have hz : (strs D).length = D.length := by simp [strs]
  rw [hz] at h1 h2
  exact ⟨a, c, h1, h2⟩
 refine enterH (l := [_]) rfl Tryz.ntmps45 rfl ?_
 refine hwNB ?_
 refine HL.one (H1.boxAgg (cs := [.slice a l.length c, .slice a2 D.length c2]) rfl rfl (fun b1 => ?_))
 refine hwNB ?_
 refine HL.one (H1.callx (vs := [_]) rfl rfl (fun w' hM => valid24_fn (by omega) hs w' (hR.ext hM.ext)) ?_)
 cases hv : validN l with
 | false =>
  refine hwNB ?_
  exact HX.ret1 rfl rfl fun w' hM => ⟨by unfold okS; rw [hv]; rfl, hM.ext⟩
 | true =>
  by_cases he : l.length = D.length
  rotate_left
  ·have he' : ¬ ((l.length : Nat) : Int) = ((D.length : Nat) : Int) := by omega
   refine hwNB ?_
   exact HX.ret1 rfl rfl fun w' hM => ⟨by unfold okS; rw [decide_eq_false he, Bool.and_false]; rfl, hM.ext⟩
  have he' : ((l.length : Nat) : Int) = ((D.length : Nat) : Int) := by omega
  refine hwNB ?_
  refine HL.one (H1.callx (vs := [_, _]) rfl rfl (fun w' hM => contS_fn (p := fun d => decide (d.size ≠ 32)) hD w' (hG.ext hM.ext) ⟨_, [], [], rfl, inferInstance, fun w2 hx d hd => isWrong_fn d (hDs d hd) w2⟩) ?_)
  rw [anyB D (fun d => decide (d.size ≠ 32)), any_not]
  refine hwNB ?_
  exact HX.ret1 rfl rfl fun w' hM => ⟨by unfold okS; rw [hv, decide_eq_true he, Bool.not_not]; rfl, hM.ext⟩
def idsN (l : List Nd) : List Int := l.map Nd.id
theorem idsN_take {l : List Nd} {k : Nat} (h : k < l.length) : idsN (l.take k) ++ [(ndAt l k).id] = idsN (l.take (k + 1)) := by
 rw [ndAt_take h]; simp [idsN]
theorem ids_fn {v g : Value} {l : List Nd} {U : Nat → Value} (hl : l.length ≤ 400000) (w : World) (hR : RdN w v l U) (_ : g.oneCell' = true) :
  Fn Tryz.prog 56 #[.agg #[v, g]] w fun u w' => ∃ z : Option Addr × Nat, True ∧ u = .slice z.1 l.length z.2 ∧ Mm w [A.grow 3 1 z.1 z.2 l.length (ints (idsN l))] w' := by
 have hU : ∀ i, i < l.length → (U i).oneCell' = true := fun i hi => rd_one (hR.src i hi)
 obtain ⟨a, c, rfl, hc, -⟩ := id hR.shape
 refine enterH (l := [_]) rfl Tryz.ntmps56 rfl ?_
 refine HC.grow0 3 1 ?_
 refine hwNB ?_
 refine HL.one (H1.boxAgg (cs := [.slice a l.length c, g]) rfl rfl (fun b1 => ?_))
 refine hwNB ?_
 refine HC.loop (α := Nat × Option Addr × Nat) (fun q => [(2, .slice q.2.1 q.1 q.2.2), (6, .slice a l.length c), (7, zv (l.length : Int)), (8, zv (q.1 : Int))]) (fun q => [A.grow 3 1 q.2.1 q.2.2 q.1 (ints (idsN (l.take q.1)))]) (fun q => q.1 ≤ l.length) (fun q => l.length - q.1) (0, none, 0) (Nat.zero_le _) esA (Hs.cons (Pick.there Pick.here) (Hs.refl _).skip) ?_
 rintro ⟨k, a1, c1⟩ hk
 dsimp only at hk ⊢
 by_cases hlt : k < l.length
 rotate_left
 ·have hn : ¬ ((k : Nat) : Int) < (l.length : Int) := by omega
  obtain rfl : k = l.length := by omega
  rw [List.take_length]
  refine hwNB ?_
  exact HX.ret1 rfl rfl fun w' hM => ⟨(a1, c1), trivial, rfl, hM⟩
 have hn : ((k : Nat) : Int) < (l.length : Int) := by omega
 obtain ⟨b, off, rfl, hb⟩ := hR.cell hlt
 have hx := hb k hlt
 have ht := idsN_take hlt
 have hUk := hU k hlt
 generalize ndAt l k = n at hx ht
 refine hwNB ?_
 refine HL.one (H1.ldAggw (b := b) (off := off + k * 4) (vs := ndC n (U k)) rfl rfl (fun w' hM j u hu => cell_ext hM.ext (hx j u hu)) rfl ?_)
 refine hwNB ?_
 refine HL.one (H1.alloc (cs := ndC ⟨0, 0, 0, []⟩ (.slice none 0 0)) rfl rfl (fun b9 => ?_))
 refine hwNB ?_
 refine HL.one (H1.stAgg (cs := ndC ⟨0, 0, 0, []⟩ (.slice none 0 0)) (vs := ndC n (U k)) rfl rfl rfl (nd_one hUk) rplA rfl ?_)
 refine hwNB ?_
 refine HL.one (H1.lit (cs := [zv n.id]) rfl rfl rfl rfl rfl rfl (fun b8 => ?_))
 refine hwNB ?_
 refine HL.one (H1.app1 (u := zv n.id) rfl rfl (fun _ _ => by first | ((repeat (first | with_reducible exact Rpl.here | with_reducible apply Rpl.there)); done) | (repeat (first | exact Rpl.here | apply Rpl.there))) memA rfl rfl (by omega) rfl rfl (fun a' c' => ?_))
 rw [ints_snocS, ht]
 refine hwNB ?_
 exact HX.again (k + 1, some ⟨a', 0, none⟩, c') hlt (by show l.length - (k + 1) < l.length - k; omega) esA (Hs.cons (Pick.there (Pick.there Pick.here)) (Hs.refl _).skip.skip)
end Go.Sx
/- The library's Clone and Equal at numbers, as the walks use them. -/
namespace Go.Sx
open Go Go.Proofs Go.RowKit
theorem rd_clone {w : World} {b off c : Nat} {l : List Int} (hR : Rd w (.slice (some ⟨b, off, none⟩) l.length c) (ints l)) : ∀ j, j < l.length → w.cell? ⟨b, off + j, none⟩ = some (.int .i64 (l.getD j 0)) := fun _ hj => hR.cell (ints_get hj)
theorem Mm.ownFresh {w w' : World} {e : TypeId} {sz n c : Nat} {a : Option Addr} {xs : List Value} (hx : Ext w w') (h : w'.ownsRow w.heap.size e sz (.slice a n c) n xs) : Mm w [A.grow e sz a c n xs] w' := by
 refine (Mm.nil hx).cons ⟨h.1, ?_⟩ ?_ fun b hb => ?_
 ·rcases h.2 with h2 | ⟨g, cap, cur, hv, -, rest⟩
  ·exact .inl h2
  ·exact .inr ⟨g, cap, cur, hv, Nat.zero_le _, rest⟩
 ·show (Option.toList _).Nodup
  cases (Value.slice a n c).ownBlock <;> simp
 ·have hb' : (Value.slice a n c).ownBlock = some b := by simpa [A.grow] using hb
  have := h.lt b hb'
  exact ⟨by simp [fps], this.1, this.2⟩
theorem own_shape {w : World} {base : Nat} {e : TypeId} {sz n : Nat} {v : Value} {xs : List Value} (h : w.ownsRow base e sz v n xs) : ∃ a c, v = .slice a n c ∧ (n = 0 ∨ ∃ b, a = some ⟨b, 0, none⟩) := by
 rcases h.2 with ⟨rfl, rfl⟩ | ⟨g, cap, cur, rfl, -⟩
 ·exact ⟨none, 0, rfl, .inl rfl⟩
 ·exact ⟨_, cap, rfl, .inr ⟨g, rfl⟩⟩
theorem clone_fn (v : Value) (l : List Int) (hl : l.length ≤ 1000000) (w : World) (hR : Rd w v (ints l)) :
  Fn Tryz.prog 92 #[v] w fun u w' => ∃ z : Option Addr × Nat, (l.length = 0 ∨ ∃ b, z.1 = some ⟨b, 0, none⟩) ∧ u = .slice z.1 l.length z.2 ∧ Mm w [A.grow 3 1 z.1 z.2 l.length (ints l)] w' := by
 obtain ⟨a, c, rfl, hc⟩ := hR.isInts
 by_cases hne : l = []
 ·subst hne
  cases a with
  | none =>
   refine Calls.mono (Tryz.slices_Clone_int_nil 0 c w) ?_
   rintro e w' ⟨rfl, rfl⟩
   exact ⟨_, rfl, (none, 0), .inl rfl, rfl, (Mm.refl _).grow0 _ _⟩
  | some a =>
   refine Calls.mono (Tryz.slices_Clone_int_zero a c w) ?_
   rintro e w' ⟨v', rfl, h1, h2, h3⟩
   obtain ⟨a', c', rfl, ha⟩ := own_shape h1
   exact ⟨_, rfl, (a', c'), ha, rfl, Mm.ownFresh h3 h1⟩
 ·obtain ⟨b, off, rfl, hb⟩ := hR.iat hne
  refine Calls.mono (Tryz.slices_Clone_int b off l.length c l w (Nat.le_refl _) (by omega) (rd_clone hR)) ?_
  rintro e w' ⟨v', rfl, h1, h2, h3⟩
  rw [List.take_length] at h1
  obtain ⟨a', c', rfl, ha⟩ := own_shape h1
  exact ⟨_, rfl, (a', c'), ha, rfl, Mm.ownFresh h3 h1⟩
theorem equal_fn (v u : Value) (l m : List Int) (hl : l.length ≤ 1000000) (hm : m.length ≤ 1000000) (w : World) (hR : Rd w v (ints l)) (hS : Rd w u (ints m)) :
  Fn Tryz.prog 69 #[v, u] w fun u w' => u = .bool (decide (l = m)) ∧ Ext w w' := by
 obtain ⟨a, c, rfl, hc⟩ := hR.isInts
 obtain ⟨a', c', rfl, hc'⟩ := hS.isInts
 by_cases hlen : l.length = m.length
 ·by_cases hne : l = []
  ·subst hne
   have hm0 : m = [] := List.eq_nil_of_length_eq_zero hlen.symm
   subst hm0
   refine Calls.mono (Tryz.slices_Equal_int_empty a a' c 0 c' w (by omega)) ?_
   rintro e w' ⟨rfl, rfl⟩
   exact ⟨_, rfl, by simp, Ext.refl _⟩
  ·obtain ⟨b, off, rfl, hb⟩ := hR.iat hne
   obtain ⟨b', off', rfl, hb'⟩ := hS.iat (by intro e; subst e; exact hne (List.eq_nil_of_length_eq_zero hlen))
   refine Calls.mono (Tryz.slices_Equal_int b off l.length c b' off' m.length c' l m w (Nat.le_refl _) (Nat.le_refl _) (by omega) (by omega) (rd_clone hR) (rd_clone hS)) ?_
   rintro e w' ⟨rfl, q, rfl⟩
   rw [List.take_length, List.take_length]
   refine ⟨_, rfl, ?_, ?_⟩
   ·by_cases e : l = m <;> simp [e]
   ·exact ⟨rfl, rfl, rfl, Nat.le_refl _, fun _ _ => rfl⟩
 ·refine Calls.mono (Tryz.slices_Equal_int_lens a a' l.length c m.length c' w hlen) ?_
  rintro e w' ⟨rfl, rfl⟩
  refine ⟨_, rfl, ?_, Ext.refl _⟩
  have : ¬ l = m := fun e => hlen (by rw [e])
  simp [this]
end Go.Sx
/-
 DERIVED: THE SHELF's CONTRACTS AT THIS DUMP, IN PLAIN WORDS (tools/lay-plain.mjs out of 'TryzShelf3.lean', which tools/lay-shelf.mjs wrote): THE SAME DECLARATIONS UNDER THE SAME NAMES: 'import', 'namespace', 'open', 'def', 'theorem' AND NOTHING ELSE: no command of the shelf's: FOR A HAND-IN. Each laying: the table of numbers ('.._ren') and one theorem, a field a fact of the dump's own or the kernel's comparison; each contract: ONE APPLICATION.
-/
namespace Go.Proofs
open Go.Shelf
def Tryz.growP_ren : Go.Shelf.Ren := ⟨fun | 4 => 145 | n => n, fun | 22 => 28 | 25 => 3 | 3 => 3 | 4 => 4 | 9 => 9 | 20 => 20 | 0 => 0 | n => n, fun | n => n⟩
theorem Tryz.growP : Go.Proofs.Lays8.n4 Tryz.prog Tryz.growP_ren := {
 mixed := by kernel_rfl
 f4 := ⟨Tryz.f145.name, by decide, Tryz.func145.trans (congrArg some (by kernel_rfl))⟩
 t0 := Tryz.underlying0
 a0 := Tryz.isAgg0
 z0 := Tryz.sizeOf0
 v0 := Tryz.zeroValue0
 t3 := Tryz.underlying3
 a3 := Tryz.isAgg3
 z3 := Tryz.sizeOf3
 v3 := Tryz.zeroValue3
 t4 := Tryz.underlying4
 a4 := Tryz.isAgg4
 z4 := Tryz.sizeOf4
 v4 := Tryz.zeroValue4
 t9 := Tryz.underlying9
 a9 := Tryz.isAgg9
 z9 := Tryz.sizeOf9
 v9 := Tryz.zeroValue9
 t20 := Tryz.underlying20
 a20 := Tryz.isAgg20
 z20 := Tryz.sizeOf20
 v20 := Tryz.zeroValue20
 t22 := Tryz.underlying28
 a22 := Tryz.isAgg28
 z22 := Tryz.sizeOf28
 v22 := Tryz.zeroValue28 }
end Go.Proofs
/- Chapter 24: slices.Grow and slices.Concat at numbers: the walks. -/
namespace Go.Sx
open Go Go.Proofs Go.RowKit
theorem growI_fn (n : Nat) (h0 : 0 < n) (hn : n ≤ 1000000) (w : World) : Fn Tryz.prog 145 #[.slice none 0 0, zv (n : Int)] w fun u w' => ∃ z : Nat × Nat, True ∧ u = .slice (some ⟨z.1, 0, none⟩) 0 z.2 ∧ Mm w [A.grow 3 1 (some ⟨z.1, 0, none⟩) z.2 0 []] w' := by
 obtain ⟨i0, hi0, hz, hs, hb⟩ := ITy.parts (h := (inferInstance : ITy Tryz.prog 3 (.int .i64 0) 1 8))
 have hc : Calls Tryz.prog 145 #[.slice none 0 0, zv (n : Int)] w _ := Any8.slices_Grow_grow Tryz.growP i0 (.int .i64 0) hi0 hz (by omega) none 0 0 n [] w (Nat.le_refl _) (by omega) (by rw [hb]; omega) (by omega) (by rw [Nat.zero_mul]; rfl) (fun _ => rfl) (fun a h => by cases h)
 have hge := grownCap_ge w (0 + n) 0 (Tryz.growP_ren.t 25)
 have hle := grownCap_le_maxLen w (0 + n) 0 (Tryz.growP_ren.t 25) (by unfold maxLen; omega)
 generalize grownCap w (0 + n) 0 (Tryz.growP_ren.t 25) = k at hc hge hle
 refine Calls.mono hc ?_
 rintro e w' ⟨rfl, rfl⟩
 refine ⟨_, rfl, (w.heap.size, k), trivial, rfl, Mm.ownFresh ((Ext.drew w).trans (Ext.alloc _ _)) ⟨rfl, .inr ⟨w.heap.size, k, #[] ++ Builtin.zeroCells (Value.int .i64 0).cells (0 + n - 0) ++ Builtin.zeroCells (Value.int .i64 0).cells (k - (0 + n)), rfl, Nat.le_refl _, ?_, Nat.zero_le _, hle, ?_, by simp⟩⟩⟩
 ·exact Array.getElem?_push_size (xs := w.drew.heap)
 ·simp [size_zeroCells, Value.cells]; omega
def catL (L : Nat → List Int) : Nat → List Int
 | 0 => []
 | k + 1 => catL L k ++ L k
theorem catL_le (L : Nat → List Int) {k n : Nat} (h : k ≤ n) : (catL L k).length ≤ (catL L n).length := by
 induction h with
 | refl => exact Nat.le_refl _
 | step _ ih =>
  refine Nat.le_trans ih ?_
  show _ ≤ (catL L _ ++ L _).length
  rw [List.length_append]; exact Nat.le_add_right _ _
theorem catL_step (L : Nat → List Int) {k n : Nat} (h : k < n) : (catL L k).length + (L k).length ≤ (catL L n).length := by
 have := catL_le L (show k + 1 ≤ n from h)
 rw [show catL L (k + 1) = catL L k ++ L k from rfl, List.length_append] at this
 exact this
attribute [local irreducible] WC WL WX POp Then Again Fn NX W1 WA WO QL RP RA Yld LoopAt HC HL HX HN H1 HA HO HQ HB HP A.blk A.grow A.rd A.obj A.mp AgainH CutH
attribute [local irreducible] A.mq A.mit
theorem concat_fn {b off n c : Nat} {V : Nat → Value} {L : Nat → List Int} (hn : n ≤ 1000000) (h0 : 0 < (catL L n).length) (hl : (catL L n).length ≤ 1000000) (w : World) (hv : ∀ i, i < n → w.cell? ⟨b, off + i, none⟩ = some (V i)) (hR : ∀ i, i < n → Rd w (V i) (ints (L i))) :
  Fn Tryz.prog 121 #[.slice (some ⟨b, off, none⟩) n c] w fun u w' => ∃ z : Option Addr × Nat, True ∧ u = .slice z.1 (catL L n).length z.2 ∧ Mm w [A.grow 3 1 z.1 z.2 (catL L n).length (ints (catL L n))] w' := by
 refine enterH (l := [_]) rfl Tryz.ntmps121 rfl ?_
 refine hwNB ?_
 refine HC.loop (α := Nat) (fun k => [(0, .slice (some ⟨b, off, none⟩) n c), (3, zv ((catL L k).length : Int)), (9, .slice (some ⟨b, off, none⟩) n c), (10, zv (n : Int)), (11, zv (k : Int))]) (fun _ => []) (fun k => k ≤ n) (fun k => n - k) 0 (Nat.zero_le _) esA (Hs.refl _) ?_
 intro k hk
 by_cases hlt : k < n
 ·have hk' : ((k : Nat) : Int) < (n : Int) := by omega
  have hvk := hv k hlt
  obtain ⟨a1, c1, e1, h5, -⟩ := id (hR k hlt)
  rw [ints_len] at e1
  rw [e1] at hvk
  have hst := catL_step L hlt
  have hlen : (catL L (k + 1)).length = (catL L k).length + (L k).length := by rw [show catL L (k + 1) = catL L k ++ L k from rfl, List.length_append]
  have hneg : ¬ ((catL L k).length : Int) + ((L k).length : Int) < 0 := by omega
  refine hwNB ?_
  refine HL.one (H1.ld0 rfl hvk rfl ?_)
  refine hwNB ?_
  exact HX.again (k + 1) hlt (by show n - (k + 1) < n - k; omega) (by rw [hlen, Int.natCast_add]; repeat (first | exact trivial | refine ⟨rfl, ?_⟩)) (Hs.refl _)
 have hk' : ¬ ((k : Nat) : Int) < (n : Int) := by omega
 obtain rfl : k = n := by omega
 refine hwNB ?_
 refine HL.one (H1.callz (vs := [_, _]) rfl rfl (fun w' hM => growI_fn _ h0 hl w') ?_)
 rintro ⟨gb, gc⟩ -
 dsimp only
 refine hwNB ?_
 refine HC.loop (α := Nat × Option Addr × Nat) (fun q => [(6, .slice q.2.1 (catL L q.1).length q.2.2), (25, .slice (some ⟨b, off, none⟩) k c), (26, zv (k : Int)), (27, zv (q.1 : Int))]) (fun q => [A.grow 3 1 q.2.1 q.2.2 (catL L q.1).length (ints (catL L q.1))]) (fun q => q.1 ≤ k ∧ ((catL L q.1).length = 0 ∨ ∃ b, q.2.1 = some ⟨b, 0, none⟩)) (fun q => k - q.1) (0, some ⟨gb, 0, none⟩, gc) ⟨Nat.zero_le _, .inr ⟨gb, rfl⟩⟩ esA (Hs.refl _) ?_
 rintro ⟨j, a2, c2⟩ ⟨hj, ha2⟩
 dsimp only at hj ha2 ⊢
 by_cases hlt : j < k
 ·have hk' : ((j : Nat) : Int) < (k : Int) := by omega
  have hvk := hv j hlt
  have hRj := hR j hlt
  obtain ⟨a1, c1, e1, h5, -⟩ := id hRj
  rw [e1] at hvk hRj
  have hst := catL_step L hlt
  have hil := ints_len (L j)
  have hcat : ints (catL L j) ++ ints (L j) = ints (catL L (j + 1)) := by unfold ints; rw [← List.map_append]; rfl
  have hlen : (catL L j).length + (ints (L j)).length = (catL L (j + 1)).length := by rw [hil, show catL L (j + 1) = catL L j ++ L j from rfl, List.length_append]
  refine hwNB ?_
  refine HL.one (H1.ld0 rfl hvk rfl ?_)
  refine hwNB ?_
  refine HL.one (H1.appR (vs := ints (L j)) rfl rfl rfl (fun _ _ => by first | ((repeat (first | with_reducible exact Rpl.here | with_reducible apply Rpl.there)); done) | (repeat (first | exact Rpl.here | apply Rpl.there))) (fun w' hM => hRj.ext hM.ext) (ints_one _) (by omega) (by decide) rfl ha2 (fun a' c' ha' => ?_))
  rw [hcat]
  rw [hlen] at ha' ⊢
  refine hwNB ?_
  exact HX.again (j + 1, a', c') ⟨hlt, ha'⟩ (by show k - (j + 1) < k - j; omega) esA (Hs.refl _)
 have hk' : ¬ ((j : Nat) : Int) < (k : Int) := by omega
 obtain rfl : j = k := by omega
 refine hwNB ?_
 exact HX.ret1 rfl rfl fun w' hM => ⟨(a2, c2), trivial, rfl, hM⟩
end Go.Sx
/- Plain, chapter 24: what is derived from nodes; what is left of nodes. -/
namespace Go.Sx
open Go Go.RowKit
structure ValidP (l : List Nd) : Prop where
 len : l.length ≤ 400
 asc : ∀ i j, i < j → j < l.length → (ndAt l i).id < (ndAt l j).id
 node : ∀ i, i < l.length → hasN (l.take i) (ndAt l i) = true
theorem allN_iff {l : List Nd} : ∀ {i : Nat}, allN l i = true ↔ ∀ j, j < i → hasN (l.take j) (ndAt l j) = true
 | 0 => ⟨fun _ j hj => by omega, fun _ => rfl⟩
 | i + 1 => by
  show (allN l i && hasN (l.take i) (ndAt l i)) = true ↔ _
  rw [Bool.and_eq_true, allN_iff]
  constructor
  ·rintro ⟨h1, h2⟩ j hj
   by_cases e : j = i
   ·subst e; exact h2
   ·exact h1 j (by omega)
  ·intro h
   exact ⟨fun j hj => h j (by omega), h i (by omega)⟩
theorem ndAt_get {l : List Nd} {i : Nat} (h : i < l.length) : l[i]? = some (ndAt l i) := by unfold ndAt; simp [h]
theorem ascI_iff {l : List Nd} : AscI (l.map Nd.id) ↔ ∀ i j, i < j → j < l.length → (ndAt l i).id < (ndAt l j).id := by
 unfold AscI
 rw [List.pairwise_iff_getElem]
 constructor
 ·intro h i j hij hj
  have := h i j (by simp; omega) (by simp; omega) hij
  simpa [ndAt, hj, show i < l.length by omega] using this
 ·intro h i j hi hj hij
  rw [List.length_map] at hi hj
  have := h i j hij hj
  simpa [ndAt, hj, hi] using this
theorem validN_iff {l : List Nd} : validN l = true ↔ ValidP l := by
 unfold validN
 rw [Bool.and_eq_true, Bool.and_eq_true, decide_eq_true_eq, decide_eq_true_eq, allN_iff, ascI_iff]
 exact ⟨fun h => ⟨h.1.2, h.2, h.1.1⟩, fun h => ⟨⟨h.node, h.len⟩, h.asc⟩⟩
theorem ValidP.inj {l : List Nd} (h : ValidP l) {i j : Nat} (hi : i < l.length) (hj : j < l.length) (e : (ndAt l i).id = (ndAt l j).id) : i = j := by
 rcases Nat.lt_trichotomy i j with h1 | h1 | h1
 ·have := h.asc i j h1 hj; omega
 ·exact h1
 ·have := h.asc j i h1 hi; omega
theorem pkOf_some {x p : Int} : ∀ {l : List Nd}, pkOf l x = some p → ∃ i, i < l.length ∧ x = (ndAt l i).id ∧ p = (ndAt l i).pack
 | [], h => by cases h
 | n :: l, h => by
  unfold pkOf at h
  cases hp : pkOf l x with
  | some q =>
   rw [hp] at h
   cases h
   obtain ⟨i, h1, h2, h3⟩ := pkOf_some hp
   exact ⟨i + 1, by simpa using h1, h2, h3⟩
  | none =>
   rw [hp] at h
   dsimp only at h
   split at h
   ·cases h; exact ⟨0, by simp, by assumption, rfl⟩
   ·cases h
structure HasP (l : List Nd) (n : Nd) : Prop where
 id : idOk n.id
 pack : idOk n.pack
 kind1 : 1 ≤ n.kind
 kind5 : n.kind ≤ 5
 len : n.src.length ≤ 8
 dep : n.kind = 1 ↔ n.src.length = 0
 srcs : srcsOk l n.src
 own : n.kind = 1 ∨ ownB l n.pack n.src = true
 asc : AscI n.src
theorem hasN_iff {l : List Nd} {n : Nd} : hasN l n = true ↔ HasP l n := by
 unfold hasN
 simp only [Bool.and_eq_true, decide_eq_true_eq, Bool.or_eq_true, beq_iff_eq, decide_eq_decide]
 exact ⟨fun ⟨⟨⟨⟨⟨⟨⟨⟨a, b⟩, c⟩, d⟩, e⟩, f⟩, g⟩, h⟩, i⟩ => ⟨a, b, c, d, e, f, g, h, i⟩, fun ⟨a, b, c, d, e, f, g, h, i⟩ => ⟨⟨⟨⟨⟨⟨⟨⟨a, b⟩, c⟩, d⟩, e⟩, f⟩, g⟩, h⟩, i⟩⟩
theorem ndAt_takeL {l : List Nd} {i j : Nat} (h : j < i) : ndAt (l.take i) j = ndAt l j := by
 unfold ndAt
 rw [List.getD_eq_getElem?_getD, List.getD_eq_getElem?_getD, List.getElem?_take_of_lt h]
theorem ValidP.src {l : List Nd} (h : ValidP l) {i : Nat} (hi : i < l.length) {x : Int} (hx : x ∈ (ndAt l i).src) : ∃ j, j < i ∧ x = (ndAt l j).id := by
 have h1 := (hasN_iff.1 (h.node i hi)).srcs x hx
 cases hp : pkOf (l.take i) x with
 | none => rw [hp] at h1; cases h1
 | some p =>
  obtain ⟨j, h2, h3, -⟩ := pkOf_some hp
  have h4 : j < i := by rw [List.length_take] at h2; omega
  rw [ndAt_takeL h4] at h3
  exact ⟨j, h4, h3⟩
theorem derL_succ (l : List Nd) (p : Nat → Bool) (i : Nat) : derL l p (i + 1) = if (p i || (ndAt l i).src.any fun x => decide (x ∈ derL l p i)) = true then sAdd (derL l p i) (ndAt l i).id else derL l p i := rfl
theorem derL_mono {l : List Nd} {p : Nat → Bool} {x : Int} {i j : Nat} (h : i ≤ j) (hx : x ∈ derL l p i) : x ∈ derL l p j := by
 induction h with
 | refl => exact hx
 | @step k _ ih =>
  rw [derL_succ]
  split
  ·exact mem_sAdd.2 (.inl ih)
  ·exact ih
theorem derL_ids {l : List Nd} {p : Nat → Bool} {x : Int} : ∀ {i : Nat}, x ∈ derL l p i → ∃ j, j < i ∧ x = (ndAt l j).id
 | 0, h => by cases h
 | i + 1, h => by
  rw [derL_succ] at h
  split at h
  ·rcases mem_sAdd.1 h with h | h
   ·obtain ⟨j, h1, h2⟩ := derL_ids h
    exact ⟨j, by omega, h2⟩
   ·exact ⟨i, by omega, h⟩
  ·obtain ⟨j, h1, h2⟩ := derL_ids h
   exact ⟨j, by omega, h2⟩
theorem derL_back {l : List Nd} (hv : ValidP l) {p : Nat → Bool} {j : Nat} : ∀ {i : Nat}, i ≤ l.length → j < i → (ndAt l j).id ∈ derL l p i → (ndAt l j).id ∈ derL l p (j + 1)
 | 0, _, h, _ => by omega
 | i + 1, hi, hj, h => by
  by_cases e : j = i
  ·subst e; exact h
  ·rw [derL_succ] at h
   split at h
   ·rcases mem_sAdd.1 h with h | h
    ·exact derL_back hv (by omega) (by omega) h
    ·exact absurd (hv.inj (by omega) (by omega) h) e
   ·exact derL_back hv (by omega) (by omega) h
theorem mem_derL {l : List Nd} (hv : ValidP l) (p : Nat → Bool) {i : Nat} (hi : i < l.length) : (ndAt l i).id ∈ derL l p l.length ↔ p i = true ∨ ∃ x ∈ (ndAt l i).src, x ∈ derL l p l.length := by
 constructor
 ·intro h
  have h1 := derL_back hv (Nat.le_refl _) hi h
  rw [derL_succ] at h1
  split at h1
  ·rename_i hc
   rw [Bool.or_eq_true, List.any_eq_true] at hc
   rcases hc with hc | ⟨x, hx, hc⟩
   ·exact .inl hc
   ·exact .inr ⟨x, hx, derL_mono (by omega) (of_decide_eq_true hc)⟩
  ·obtain ⟨j, h2, h3⟩ := derL_ids h1
   have := hv.inj hi (by omega) h3
   omega
 ·intro h
  refine derL_mono (show i + 1 ≤ l.length from hi) ?_
  rw [derL_succ, if_pos]
  ·exact mem_sAdd.2 (.inr rfl)
  ·rw [Bool.or_eq_true, List.any_eq_true]
   rcases h with h | ⟨x, hx, h⟩
   ·exact .inl h
   ·refine .inr ⟨x, hx, decide_eq_true ?_⟩
    obtain ⟨j, hj, rfl⟩ := hv.src hi hx
    exact derL_mono (by omega) (derL_back hv (Nat.le_refl _) (by omega) h)
theorem derL_closed {l : List Nd} {s : List Int} (hs : ∀ i, i < l.length → (∃ x ∈ (ndAt l i).src, x ∈ s) → (ndAt l i).id ∈ s) {i : Nat} (hi : i ≤ l.length) {x : Int} (hx : x ∈ derL l (fun k => decide ((ndAt l k).id ∈ s)) i) : x ∈ s := by
 induction i generalizing x with
 | zero => cases hx
 | succ i ih =>
  rw [derL_succ] at hx
  split at hx
  ·rename_i hc
   rcases mem_sAdd.1 hx with hx | hx
   ·exact ih (by omega) hx
   ·rw [Bool.or_eq_true, List.any_eq_true] at hc
    subst hx
    rcases hc with hc | ⟨y, hy, hc⟩
    ·exact of_decide_eq_true hc
    ·exact hs i (by omega) ⟨y, hy, ih (by omega) (of_decide_eq_true hc)⟩
  ·exact ih (by omega) hx
end Go.Sx
/- Plain, chapter 24: the two parts of a state; what is left is valid; the tombstone is true. -/
namespace Go.Sx
open Go Go.RowKit
theorem ascI_nodup {l : List Int} (h : AscI l) : l.Nodup := List.Pairwise.imp (fun h => by omega) h
theorem ascI_le {l : List Int} (h : AscI l) : l.Pairwise (· ≤ ·) := List.Pairwise.imp (fun h => by omega) h
theorem ascI_ext {a b : List Int} (ha : AscI a) (hb : AscI b) (h : ∀ x, x ∈ a ↔ x ∈ b) : a = b :=
 List.Perm.eq_of_pairwise (fun _ _ _ _ h1 h2 => Int.le_antisymm h1 h2) (ascI_le ha) (ascI_le hb) (permI_of_nodup (ascI_nodup ha) (ascI_nodup hb) h)
theorem srtI_asc {l : List Int} (h : l.Nodup) : AscI (srtI l) := by
 have h1 := srtI_pw l
 have h2 : (srtI l).Nodup := (srtI_perm l).symm.nodup h
 unfold AscI
 exact (h1.and h2).imp fun h => by omega
theorem mem_srtI {l : List Int} {x : Int} : x ∈ srtI l ↔ x ∈ l := (srtI_perm l).mem_iff
theorem derA_eq {l : List Nd} (hv : ValidP l) (f : List Int) : derA l f = srtI (derL l (fun i => decide ((ndAt l i).id ∈ f)) l.length) := by unfold derA; rw [if_pos (validN_iff.2 hv)]
theorem derA_asc (l : List Nd) (f : List Int) : AscI (derA l f) := by
 unfold derA
 split
 ·exact srtI_asc (derL_nodup _ _ _)
 ·exact List.Pairwise.nil
theorem mem_derA {l : List Nd} (hv : ValidP l) {f : List Int} {x : Int} : x ∈ derA l f ↔ x ∈ derL l (fun i => decide ((ndAt l i).id ∈ f)) l.length := by rw [derA_eq hv]; exact mem_srtI
def goneL (l : List Nd) (pack : Int) : List Int := derL l (fun i => decide ((ndAt l i).pack = pack)) l.length
def prN (l : List Nd) (D : List ByteArray) (g : List Int) (b : Bool) : List (Nd × ByteArray) := (l.zip D).filter fun q => decide (q.1.id ∈ g) == b
def ndsP (p : List (Nd × ByteArray)) : List Nd := p.map (·.1)
def digP (p : List (Nd × ByteArray)) : List ByteArray := p.map (·.2)
theorem zip_nds {l : List Nd} {D : List ByteArray} (h : l.length = D.length) : ndsP (l.zip D) = l := List.map_fst_zip (by omega)
theorem prN_nds {l : List Nd} {D : List ByteArray} (h : l.length = D.length) (g : List Int) (b : Bool) : ndsP (prN l D g b) = l.filter fun n => decide (n.id ∈ g) == b := by
 have := List.filter_map (f := (Prod.fst : Nd × ByteArray → Nd)) (p := fun n => decide (n.id ∈ g) == b) (l := l.zip D)
 rw [show (l.zip D).map Prod.fst = l from zip_nds h] at this
 rw [this]; rfl
theorem prN_congr {l : List Nd} {D : List ByteArray} {g g2 : List Int} (h : ∀ x, x ∈ g ↔ x ∈ g2) (b : Bool) : prN l D g b = prN l D g2 b := by
 unfold prN
 congr 1
 funext q
 rw [decide_eq_decide.2 (h q.1.id)]
theorem idsN_asc {l : List Nd} (hv : ValidP l) : AscI (idsN l) := by
 have := validN_iff.2 hv
 unfold validN at this
 rw [Bool.and_eq_true, decide_eq_true_eq] at this
 exact this.2
theorem mem_idsN {l : List Nd} {x : Int} : x ∈ idsN l ↔ ∃ n ∈ l, x = n.id := by
 unfold idsN
 rw [List.mem_map]
 exact ⟨fun ⟨n, h1, h2⟩ => ⟨n, h1, h2.symm⟩, fun ⟨n, h1, h2⟩ => ⟨n, h1, h2.symm⟩⟩
theorem mem_nd {l : List Nd} {n : Nd} : n ∈ l ↔ ∃ i, i < l.length ∧ n = ndAt l i := by
 rw [List.mem_iff_getElem]
 constructor
 ·rintro ⟨i, h, rfl⟩
  exact ⟨i, h, by unfold ndAt; simp [h]⟩
 ·rintro ⟨i, h, rfl⟩
  exact ⟨i, h, by unfold ndAt; simp [h]⟩
theorem idsN_filter {l : List Nd} (g : List Int) : idsN (l.filter fun n => decide (n.id ∈ g) == true) = (idsN l).filter fun x => decide (x ∈ g) := by
 unfold idsN
 rw [List.filter_map]
 congr 1
 refine List.filter_congr fun n _ => ?_
 show (decide (n.id ∈ g) == true) = decide (n.id ∈ g)
 cases decide (n.id ∈ g) <;> rfl
theorem lost_ids {l : List Nd} (hv : ValidP l) (p : Nat → Bool) : idsN (l.filter fun n => decide (n.id ∈ derL l p l.length) == true) = srtI (derL l p l.length) := by
 rw [idsN_filter]
 refine ascI_ext (ascI_sub (idsN_asc hv) List.filter_sublist) (srtI_asc (derL_nodup _ _ _)) fun x => ?_
 rw [List.mem_filter, mem_srtI, decide_eq_true_eq]
 refine ⟨fun h => h.2, fun h => ⟨?_, h⟩⟩
 obtain ⟨j, h1, h2⟩ := derL_ids h
 exact mem_idsN.2 ⟨_, mem_nd.2 ⟨j, h1, rfl⟩, h2⟩
theorem derL_isClosed {l : List Nd} (hv : ValidP l) (p : Nat → Bool) : ∀ i, i < l.length → (∃ x ∈ (ndAt l i).src, x ∈ derL l p l.length) → (ndAt l i).id ∈ derL l p l.length := fun _ hi h => (mem_derL hv p hi).2 (.inr h)
theorem derA_twice {l : List Nd} (hv : ValidP l) (p : Nat → Bool) : derA l (srtI (derL l p l.length)) = srtI (derL l p l.length) := by
 refine ascI_ext (derA_asc _ _) (srtI_asc (derL_nodup _ _ _)) fun x => ?_
 rw [mem_derA hv]
 constructor
 ·intro h
  refine derL_closed (s := srtI (derL l p l.length)) (fun i hi => ?_) (Nat.le_refl _) h
  rintro ⟨y, hy, hy2⟩
  exact mem_srtI.2 (derL_isClosed hv p i hi ⟨y, hy, mem_srtI.1 hy2⟩)
 ·intro h
  obtain ⟨j, h1, rfl⟩ := derL_ids (mem_srtI.1 h)
  exact (mem_derL hv _ h1).2 (.inl (decide_eq_true h))
structure ValidS (l : List Nd) : Prop where
 len : l.length ≤ 400
 asc : AscI (idsN l)
 node : ∀ l1 n l2, l = l1 ++ n :: l2 → HasP l1 n
theorem split_at {l l1 l2 : List Nd} {n : Nd} (h : l = l1 ++ n :: l2) : l1.length < l.length ∧ l.take l1.length = l1 ∧ ndAt l l1.length = n := by
 subst h
 refine ⟨by simp, List.take_left' rfl, ?_⟩
 unfold ndAt; simp
theorem validS_iff {l : List Nd} : ValidP l ↔ ValidS l := by
 constructor
 ·intro h
  refine ⟨h.len, idsN_asc h, fun l1 n l2 e => ?_⟩
  obtain ⟨h1, h2, h3⟩ := split_at e
  have := hasN_iff.1 (h.node l1.length h1)
  rwa [h2, h3] at this
 ·intro h
  refine ⟨h.len, ascI_iff.1 h.asc, fun i hi => hasN_iff.2 ?_⟩
  have := h.node (l.take i) (ndAt l i) (l.drop (i + 1)) (by
   have e : l.drop i = ndAt l i :: l.drop (i + 1) := by
    rw [List.drop_eq_getElem_cons hi]
    congr 1
    unfold ndAt; simp [hi]
   rw [← e, List.take_append_drop])
  exact this
theorem pkOf_mem {l : List Nd} {x : Int} : (pkOf l x).isSome = true ↔ ∃ n ∈ l, x = n.id := by
 induction l with
 | nil => simp [pkOf]
 | cons m l ih =>
  unfold pkOf
  cases hp : pkOf l x with
  | some q =>
   rw [hp] at ih
   obtain ⟨n, h1, h2⟩ := ih.1 rfl
   exact ⟨fun _ => ⟨n, .tail _ h1, h2⟩, fun _ => rfl⟩
  | none =>
   rw [hp] at ih
   dsimp only
   by_cases e : x = m.id
   ·rw [if_pos e]
    exact ⟨fun _ => ⟨m, .head _, e⟩, fun _ => rfl⟩
   ·rw [if_neg e]
    refine ⟨(fun h => by cases h), ?_⟩
    rintro ⟨n, h1, h2⟩
    rcases List.mem_cons.1 h1 with rfl | h1
    ·exact absurd h2 e
    ·exact absurd (ih.2 ⟨n, h1, h2⟩) (by simp)
theorem pkOf_uniq {l : List Nd} (h : (idsN l).Nodup) {n : Nd} (hn : n ∈ l) : pkOf l n.id = some n.pack := by
 induction l with
 | nil => cases hn
 | cons m l ih =>
  rw [show idsN (m :: l) = m.id :: idsN l from rfl, List.nodup_cons] at h
  unfold pkOf
  rcases List.mem_cons.1 hn with rfl | hn
  ·cases hp : pkOf l n.id with
   | some q =>
    obtain ⟨k, h1, h2⟩ := pkOf_mem.1 (show (pkOf l n.id).isSome = true by rw [hp]; rfl)
    exact absurd (mem_idsN.2 ⟨k, h1, h2⟩) h.1
   | none => simp
  ·rw [ih h.2 hn]
theorem ascI_app {a b : List Int} (h : AscI (a ++ b)) : AscI a := (List.pairwise_append.1 h).1
theorem left_valid {l : List Nd} (hv : ValidP l) {s : List Int} (hs : ∀ i, i < l.length → (∃ x ∈ (ndAt l i).src, x ∈ s) → (ndAt l i).id ∈ s) : ValidP (l.filter fun n => decide (n.id ∈ s) == false) := by
 have hS := validS_iff.1 hv
 refine validS_iff.2 ⟨Nat.le_trans (List.length_filter_le _ _) hS.len, ascI_sub hS.asc (List.Sublist.map _ List.filter_sublist), fun l1 n l2 e => ?_⟩
 obtain ⟨k1, k2, e1, e2, e3⟩ := List.filter_eq_append_iff.1 e
 obtain ⟨m1, m2, e4, e5, e6, e7⟩ := List.filter_eq_cons_iff.1 e3
 subst e2 e4
 have hp := hS.node (k1 ++ m1) n m2 (by rw [e1]; simp)
 have hid : n.id ∉ s := by simpa using e6
 have hm1 : ∀ y ∈ m1, y.id ∈ s := fun y hy => by
  have := e5 y hy
  simpa using this
 have hsrc : ∀ x ∈ n.src, x ∉ s := fun x hx hxs => by
  obtain ⟨i, hi, hni⟩ := mem_nd.1 (show n ∈ l by rw [e1]; simp)
  subst hni
  exact hid (hs i hi ⟨x, hx, hxs⟩)
 have hin : ∀ x ∈ n.src, ∀ y ∈ k1 ++ m1, x = y.id → y ∈ k1.filter fun n => decide (n.id ∈ s) == false := by
  intro x hx y hy exy
  have h1 : y.id ∉ s := by rw [← exy]; exact hsrc x hx
  rcases List.mem_append.1 hy with hy | hy
  ·exact List.mem_filter.2 ⟨hy, by simp [h1]⟩
  ·exact absurd (hm1 y hy) h1
 have hnd1 : (idsN (k1 ++ m1)).Nodup := by
  refine ascI_nodup (ascI_app (b := idsN (n :: m2)) ?_)
  have := hS.asc
  rw [e1, ← List.append_assoc] at this
  unfold idsN at this ⊢
  rwa [List.map_append] at this
 have hnd2 : (idsN (k1.filter fun n => decide (n.id ∈ s) == false)).Nodup := by
  refine List.Nodup.sublist ?_ hnd1
  unfold idsN
  exact List.Sublist.map _ (List.Sublist.trans List.filter_sublist (List.sublist_append_left _ _))
 refine ⟨hp.id, hp.pack, hp.kind1, hp.kind5, hp.len, hp.dep, fun x hx => ?_, ?_, hp.asc⟩
 ·obtain ⟨y, hy, hxy⟩ := pkOf_mem.1 (hp.srcs x hx)
  exact pkOf_mem.2 ⟨y, hin x hx y hy hxy, hxy⟩
 ·refine hp.own.imp id fun h => ?_
  unfold ownB at h ⊢
  rw [List.any_eq_true] at h ⊢
  obtain ⟨x, hx, h⟩ := h
  refine ⟨x, hx, ?_⟩
  obtain ⟨y, hy, hxy⟩ := pkOf_mem.1 (hp.srcs x hx)
  have h1 := pkOf_uniq hnd1 hy
  have h2 := pkOf_uniq hnd2 (hin x hx y hy hxy)
  rw [hxy] at h ⊢
  rw [h1] at h
  rw [h2]; exact h
end Go.Sx
