/- Chapter 24: Valid: the walk. -/
import Derived.Test.YtfmiakflhkpnfaaGreatDoorQT03
import Derived.Shelf.Strings.Builder1
import Derived.Shelf.Strings.Builder2
import Derived.Shelf.Strings.OnBuilder
import Derived.Shelf.Strings.Trim
import Derived.Shelf.Small.Utf8
import Derived.Shelf.Small.Bits
import Derived.Shelf.Small.Strs
import Derived.Shelf.Small.Wraps
import Derived.Shelf.Strings.BuilderF
import Derived.Shelf.Strings.BuilderK
import Derived.Shelf.Strings.BuilderRune
import Derived.Shelf.Utf8.AppendRune
import Derived.Shelf.Utf8.AppendRunePlain
import Derived.Shelf.Utf8.RuneCount
import Derived.Shelf.Strings.Builder2Cap
import Derived.Shelf.Strconv.Itoa0
import Derived.Shelf.Strings.Search1
import Derived.Shelf.Strings.Search2
import Derived.Shelf.Strings.Search3
import Derived.Shelf.Sort.Plain
import Derived.Shelf.GgClosure.StringsIndexFunc
import Derived.Ground.GgwProg
import Derived.Shelf.GgClosure.StringsIndexFuncTop
import Derived.Shelf.Strings.Prefix
import Derived.Shelf.Unicode.Decode
import Derived.Shelf.Strings.Runes
import Derived.Shelf.Strings.AsciiSet
import Derived.Shelf.Bits.Mul64
import Derived.Shelf.Strings.Repeat
import Derived.Shelf.Unicode.DecodeSlow
import Derived.Shelf.Unicode.DecodeAny
import Derived.Shelf.Unicode.DecodeLast
import Derived.Shelf.Strings.BuilderCap
import Derived.Shelf.Slices.Turned
import Derived.Ground.Names2Prog
import Derived.Shelf.Slices.Clone
import Derived.Shelf.Slices.CompactI
import Derived.Shelf.Slices.SearchI
import Derived.Shelf.Slices.Cells
import Derived.Shelf.Slices.In.SortNone
import Derived.Ground.SlgnProg
import Derived.Shelf.SlicesE.Clone
import Derived.Test.YtfmiakflhkpnfaaGreatDoorProg
import Derived.Ground.NamesProg
import Derived.Laws.OwnMore
import Derived.DeepKeys
namespace Go.Sx
open Go Go.Proofs Go.RowKit
theorem rd_one {w : World} {v : Value} {l : List Value} (h : Rd w v l) : v.oneCell' = true := by
 obtain ⟨a, c, rfl, -⟩ := h
 rfl
theorem allN_stop {l : List Nd} {k : Nat} (hk : k < l.length) (h : hasN (l.take k) (ndAt l k) = false) : validN l = false := by
 unfold validN; rw [allN_false h hk]; rfl
attribute [local irreducible] WC WL WX POp Then Again Fn NX W1 WA WO QL RP RA Yld LoopAt HC HL HX HN H1 HA HO HQ HB HP A.blk A.grow A.rd A.obj A.mp AgainH CutH
attribute [local irreducible] A.mq A.mit
theorem valid24_fn {v : Value} {l : List Nd} {U : Nat → Value} (hl : l.length ≤ 1000000) (hs : ∀ i, i < l.length → (ndAt l i).src.length ≤ 1000000) (w : World) (hR : RdN w v l U) :
  Fn Tryz.prog 63 #[v] w fun u w' => u = .bool (validN l) ∧ Ext w w' := by
 have hU : ∀ i, i < l.length → (U i).oneCell' = true := fun i hi => rd_one (hR.src i hi)
 obtain ⟨a, c, rfl, hc, hcl⟩ := hR.shape
 refine enterH (l := [_]) rfl Tryz.ntmps63 rfl ?_
 refine hwNB ?_
 refine HL.one (H1.mkmq .i64 rfl (fun bm => ?_))
 refine hwNB ?_
 refine HC.loop (α := Nat) (fun k => [(0, .slice a l.length c), (3, .map (some bm)), (7, .slice a l.length c), (8, zv (l.length : Int)), (9, zv (k : Int))]) (fun k => [A.mq bm .i64 (trM l U k)]) (fun k => k ≤ l.length ∧ allN l k = true) (fun k => l.length - k) 0 ⟨Nat.zero_le _, rfl⟩ esA (Hs.refl _) ?_
 rintro k ⟨hk, hA⟩
 by_cases hlt : k < l.length
 rotate_left
 ·have hn : ¬ ((k : Nat) : Int) < (l.length : Int) := by omega
  obtain rfl : k = l.length := by omega
  by_cases h4 : l.length ≤ 400
  rotate_left
  ·have h4' : ¬ ((l.length : Nat) : Int) ≤ 400 := by omega
   refine hwNB ?_
   exact HX.ret1 rfl rfl fun w' hM => ⟨by unfold validN; rw [decide_eq_false h4]; simp, hM.ext⟩
  have h4' : ((l.length : Nat) : Int) ≤ 400 := by omega
  refine hwNB ?_
  refine HL.one (H1.callx (vs := [_, _]) rfl rfl (fun w' hM => ascN_fn l hl w' (hR.ext hM.ext)) ?_)
  refine hwNB ?_
  exact HX.ret1 rfl rfl fun w' hM => ⟨by unfold validN; rw [hA, decide_eq_true h4]; simp, hM.ext⟩
 have hn : ((k : Nat) : Int) < (l.length : Int) := by omega
 obtain ⟨b, off, rfl, hb⟩ := hR.cell hlt
 have hx := hb k hlt
 refine hwNB ?_
 refine HL.one (H1.ldAggw (b := b) (off := off + k * 4) (vs := ndC (ndAt l k) (U k)) rfl rfl (fun w' hM j u hu => cell_ext hM.ext (hx j u hu)) rfl ?_)
 refine hwNB ?_
 refine HL.one (H1.alloc (cs := ndC ⟨0, 0, 0, []⟩ (.slice none 0 0)) rfl rfl (fun b9 => ?_))
 refine hwNB ?_
 refine HL.one (H1.stAgg (cs := ndC ⟨0, 0, 0, []⟩ (.slice none 0 0)) (vs := ndC (ndAt l k) (U k)) rfl rfl rfl (nd_one (hU k hlt)) rplA rfl ?_)
 refine hwNB ?_
 refine HL.one (H1.ldAgg (vs := ndC (ndAt l k) (U k)) rfl memA rfl (fun i v hv => by rw [Nat.zero_add]; exact hv) rfl ?_)
 refine hwNB ?_
 refine HL.one (H1.callk (α := Unit) (V := fun _ => .bool (hasN (l.take k) (ndAt l k))) (I := fun _ => True) (H' := fun _ => [A.mq bm .i64 (trM l U k), A.blk b9 (ndC (ndAt l k) (U k)) 39]) (vs := [.map (some bm), ndV (ndAt l k) (U k)]) rfl rfl (fun w' hM => (has24_fn (ndAt l k) (U k) (Nat.le_of_lt hlt) hU (hs k hlt) (hR.src k hlt) (hM.sub (Hs.cons (Pick.there Pick.here) (Hs.cons Pick.here (Hs.refl _))))).mono fun u w2 h => h) ?_)
 rintro - -
 cases hh : hasN (l.take k) (ndAt l k) with
 | false =>
  refine hwNB ?_
  exact HX.ret1 rfl rfl fun w' hM => ⟨by rw [allN_stop hlt hh], hM.ext⟩
 | true =>
  refine hwNB ?_
  refine HL.one (H1.ldAgg (vs := ndC (ndAt l k) (U k)) rfl memA rfl (fun i v hv => by rw [Nat.zero_add]; exact hv) rfl ?_)
  refine hwNB ?_
  refine HL.one (H1.mqset (H' := [A.mq bm .i64 (trM l U (k + 1)), A.blk b9 (ndC (ndAt l k) (U k)) 39]) rfl rfl rfl rplA ?_)
  refine hwNB ?_
  exact HX.again (k + 1) ⟨hlt, by show (allN l k && hasN (l.take k) (ndAt l k)) = true; rw [hA, hh]; rfl⟩ (by show l.length - (k + 1) < l.length - k; omega) esA (Hs.cons Pick.here (Hs.refl _).skip)
end Go.Sx
/- Chapter 24: questions about numbers, strings and nodes: the walks of slices.IndexFunc and slices.ContainsFunc. -/
namespace Go.Sx
open Go Go.Proofs Go.RowKit
theorem hwNE {G G2 : Prop} (x : G2) (hwq : Hold G2 → G := by
  intro hQq
  repeat' (first | apply HL.fold | apply HA.fold | apply HL.nil | apply HX.n_then | apply HC.seq | apply HC.region | refine HL.pa ?_ | refine HL.ga rfl ?_ | refine HL.na rfl ?_ | refine HL.nu rfl rfl ?_ | apply HC.block | apply HC.skip | apply HC.exit | apply HC.ret | apply HX.e_block | refine HX.e_other rfl ?_ | apply HX.e_then | apply HX.e_again | apply HX.n_block | apply HX.r_then | apply HX.r_block | apply HX.r_again | refine HC.cond_yes rfl ?_ | refine HC.cond_no rfl ?_ | refine HL.one (H1.ldb rfl memA rfl rfl ?_) | refine HC.cond rfl (fun hc => ?_) (fun hc => ?_) | refine HC.cond_b rfl (fun hc => ?_) (fun hc => ?_))
  exact hQq.get) : G := hwq ⟨x⟩
def PQ {α : Type} (w : World) (fv : Value) (V : α → Value) (ok : α → Prop) (p : α → Bool) : Prop :=
 ∃ (f : FuncId) (pre cap : List Value), fv = .func (.func f) pre.toArray cap.toArray ∧ CallOk Tryz.prog f ∧ ∀ w', Ext w w' → ∀ x, ok x → Fn Tryz.prog f (pre ++ [V x] ++ cap).toArray w' fun v w'' => v = .bool (p x) ∧ Ext w' w''
theorem PQ.ext {α : Type} {w w' : World} {fv : Value} {V : α → Value} {ok : α → Prop} {p : α → Bool} (h : PQ w fv V ok p) (k : Ext w w') : PQ w' fv V ok p := by
 obtain ⟨f, pre, cap, h1, h2, h3⟩ := h
 exact ⟨f, pre, cap, h1, h2, fun w'' hx => h3 w'' (k.trans hx)⟩
section
variable {r : Option Nat} {N : Nat} {ds : List Deferred} {Q : Post} {E : Env} {w0 w : World} {H : List Atom} {next : Act → World → Prop} {g : Option (Nat × Bool)}
variable {d : Nat} {t t' ty e : TypeId} {pos : String} {af : Array Edge} {y z : Operand}
theorem H1.callpq {α : Type} {V : α → Value} {ok : α → Prop} {p : α → Bool} {d : Option Nat} {fv : Value} {x : α} {args : List Operand} {ats : Array TypeId} (hp : ∀ w, Mm w0 H w → PQ w fv V ok p) (hl : ok x) (hd : dOk d N = true) (hx : Env.ev E z = some fv) (ha : Env.evs E args = some [V x])
  (h : HN N ds next (putE d (.bool (p x)) E) w0 H) : H1 Tryz.prog r N ds next ⟨d, .call ⟨.value z, args.toArray, ats⟩, ty, pos, af, g⟩ Q E w0 H := fun w hM => by
 obtain ⟨f, pre, cap, rfl, hf, hc⟩ := hp w hM
 exact W1.enter hd (fun a hr => by
  have hm : Array.map a.eval args.toArray = [V x].toArray := by simp [hr.evs ha]
  simp [execOp, resolve, hm, hr.ev hx, Deferred.ofValue, invoke, hf.run]) (hc w (Ext.refl w) x hl) (by
  rintro v w' ⟨rfl, hx'⟩; exact h _ (hM.more hx'))
end
def FirstN (n : Nat) (p : Nat → Bool) (k : Int) : Prop := (k = -1 ∧ ∀ i, i < n → p i = false) ∨ ∃ j : Nat, k = (j : Int) ∧ j < n ∧ (∀ i, i < j → p i = false) ∧ p j = true
def anyN (n : Nat) (p : Nat → Bool) : Bool := (List.range n).any p
theorem FirstN.any {n : Nat} {p : Nat → Bool} {k : Int} (h : FirstN n p k) : decide (0 ≤ k) = anyN n p := by
 rw [Bool.eq_iff_iff, decide_eq_true_eq]
 unfold anyN
 rw [List.any_eq_true]
 rcases h with ⟨rfl, h⟩ | ⟨j, rfl, hj, -, hp⟩
 ·constructor
  ·intro h0; exact absurd h0 (by decide)
  ·rintro ⟨i, hi, hp⟩
   rw [h i (List.mem_range.1 hi)] at hp; cases hp
 ·exact ⟨fun _ => ⟨j, List.mem_range.2 hj, hp⟩, fun _ => Int.natCast_nonneg j⟩
def getB (l : List ByteArray) (i : Nat) : ByteArray := l.getD i default
theorem getI_mem {l : List Int} {i : Nat} (h : i < l.length) : getI l i ∈ l := by unfold getI; simp [h]
theorem getB_mem {l : List ByteArray} {i : Nat} (h : i < l.length) : getB l i ∈ l := by unfold getB; simp [h]
theorem strs_getB {l : List ByteArray} {i : Nat} (h : i < l.length) : (strs l)[i]? = some (.string (getB l i)) := by unfold strs getB; simp [h]
theorem rd_addr {w : World} {a : Option Addr} {n c j : Nat} {vs : List Value} (hR : Rd w (.slice a n c) vs) (h : j < n) : ∃ b off, a = some ⟨b, off, none⟩ := by
 obtain ⟨a', c', h1, h2, h3⟩ := hR
 cases h1
 rcases h3 with h3 | ⟨b, off, h4, -⟩
 ·subst h3; exact absurd h (Nat.not_lt_zero _)
 ·exact ⟨b, off, h4⟩
theorem anyN_list {α : Type} (l : List α) (f : Nat → α) (p : α → Bool) (h : ∀ i (hi : i < l.length), f i = l[i]) : anyN l.length (fun i => p (f i)) = l.any p := by
 rw [Bool.eq_iff_iff]
 unfold anyN
 rw [List.any_eq_true, List.any_eq_true]
 constructor
 ·rintro ⟨i, hi, hp⟩
  have hi' := List.mem_range.1 hi
  exact ⟨l[i], List.getElem_mem hi', by rw [← h i hi']; exact hp⟩
 ·rintro ⟨x, hx, hp⟩
  obtain ⟨i, hi, rfl⟩ := List.getElem_of_mem hx
  exact ⟨i, List.mem_range.2 hi, by rw [h i hi]; exact hp⟩
theorem anyI (l : List Int) (p : Int → Bool) : anyN l.length (fun i => p (getI l i)) = l.any p := anyN_list l _ p fun i hi => by unfold getI; simp [hi]
theorem anyB (l : List ByteArray) (p : ByteArray → Bool) : anyN l.length (fun i => p (getB l i)) = l.any p := anyN_list l _ p fun i hi => by unfold getB; simp [hi]
attribute [local irreducible] WC WL WX POp Then Again Fn NX W1 WA WO QL RP RA Yld LoopAt HC HL HX HN H1 HA HO HQ HB HP A.blk A.grow A.rd A.obj A.mp AgainH CutH
theorem indexI_fn {a : Option Addr} {c : Nat} {l : List Int} {p : Int → Bool} {fv : Value} (hl : l.length ≤ 1000000) (w : World) (hR : Rd w (.slice a l.length c) (ints l)) (hp : PQ w fv zv (fun x => x ∈ l) p) :
  Fn Tryz.prog 138 #[.slice a l.length c, fv] w fun v w' => ∃ k : Int, FirstN l.length (fun i => p (getI l i)) k ∧ v = zv k ∧ Ext w w' := by
 refine enterH (l := [_, _]) rfl Tryz.ntmps138 rfl ?_
 refine hwNE ?_
 refine HC.loop (α := Nat) (fun j => [(0, .slice a l.length c), (1, fv), (7, zv (l.length : Int)), (8, zv (j : Int))]) (fun _ => []) (fun j => j ≤ l.length ∧ ∀ i, i < j → p (getI l i) = false) (fun j => l.length - j) 0 ⟨Nat.zero_le _, fun i hi => absurd hi (Nat.not_lt_zero _)⟩ esA (Hs.refl _) ?_
 rintro j ⟨hj, hI⟩
 by_cases hlt : j < l.length
 ·have hn : ((j : Nat) : Int) < (l.length : Int) := by omega
  obtain ⟨b, off, rfl⟩ := rd_addr hR hlt
  have hcl := hR.cell (ints_getI hlt)
  refine hwNE ?_
  refine HL.one (H1.ld0 rfl hcl rfl ?_)
  refine hwNE ?_
  refine HL.one (H1.callpq (x := getI l j) (fun w' hM => hp.ext hM.ext) (getI_mem hlt) rfl rfl rfl ?_)
  cases hpr : p (getI l j)
  ·refine hwNE ?_
   exact HX.again (j + 1) ⟨hlt, fun i hi => by
    by_cases e : i = j
    ·rw [e]; exact hpr
    ·exact hI i (by omega)⟩ (by omega) esA (Hs.refl _)
  ·refine hwNE ?_
   exact HX.ret1 rfl rfl fun w' hM => ⟨j, .inr ⟨j, rfl, hlt, hI, hpr⟩, rfl, hM.ext⟩
 have hn : ¬ ((j : Nat) : Int) < (l.length : Int) := by omega
 obtain rfl : j = l.length := by omega
 refine hwNE ?_
 exact HX.ret1 rfl rfl fun w' hM => ⟨-1, .inl ⟨rfl, hI⟩, rfl, hM.ext⟩
theorem contI_fn {a : Option Addr} {c : Nat} {l : List Int} {p : Int → Bool} {fv : Value} (hl : l.length ≤ 1000000) (w : World) (hR : Rd w (.slice a l.length c) (ints l)) (hp : PQ w fv zv (fun x => x ∈ l) p) :
  Fn Tryz.prog 65 #[.slice a l.length c, fv] w fun v w' => v = .bool (anyN l.length fun i => p (getI l i)) ∧ Ext w w' := by
 refine enterH (l := [_, _]) rfl Tryz.ntmps65 rfl ?_
 refine hwNE ?_
 refine HL.one (H1.callp (α := Int) (V := zv) (I := fun k => FirstN l.length (fun i => p (getI l i)) k) (vs := [.slice a l.length c, fv]) rfl rfl (fun w' hM => indexI_fn hl w' (hR.ext hM.ext) (hp.ext hM.ext)) ?_)
 intro k hk
 refine hwNE ?_
 exact HX.ret1 rfl rfl fun w' hM => ⟨congrArg Value.bool hk.any, hM.ext⟩
theorem indexS_fn {a : Option Addr} {c : Nat} {l : List ByteArray} {p : ByteArray → Bool} {fv : Value} (hl : l.length ≤ 1000000) (w : World) (hR : Rd w (.slice a l.length c) (strs l)) (hp : PQ w fv Value.string (fun x => x ∈ l) p) :
  Fn Tryz.prog 137 #[.slice a l.length c, fv] w fun v w' => ∃ k : Int, FirstN l.length (fun i => p (getB l i)) k ∧ v = zv k ∧ Ext w w' := by
 refine enterH (l := [_, _]) rfl Tryz.ntmps137 rfl ?_
 refine hwNE ?_
 refine HC.loop (α := Nat) (fun j => [(0, .slice a l.length c), (1, fv), (7, zv (l.length : Int)), (8, zv (j : Int))]) (fun _ => []) (fun j => j ≤ l.length ∧ ∀ i, i < j → p (getB l i) = false) (fun j => l.length - j) 0 ⟨Nat.zero_le _, fun i hi => absurd hi (Nat.not_lt_zero _)⟩ esA (Hs.refl _) ?_
 rintro j ⟨hj, hI⟩
 by_cases hlt : j < l.length
 ·have hn : ((j : Nat) : Int) < (l.length : Int) := by omega
  obtain ⟨b, off, rfl⟩ := rd_addr hR hlt
  have hcl := hR.cell (strs_getB hlt)
  refine hwNE ?_
  refine HL.one (H1.ld0 rfl hcl rfl ?_)
  refine hwNE ?_
  refine HL.one (H1.callpq (x := getB l j) (fun w' hM => hp.ext hM.ext) (getB_mem hlt) rfl rfl rfl ?_)
  cases hpr : p (getB l j)
  ·refine hwNE ?_
   exact HX.again (j + 1) ⟨hlt, fun i hi => by
    by_cases e : i = j
    ·rw [e]; exact hpr
    ·exact hI i (by omega)⟩ (by omega) esA (Hs.refl _)
  ·refine hwNE ?_
   exact HX.ret1 rfl rfl fun w' hM => ⟨j, .inr ⟨j, rfl, hlt, hI, hpr⟩, rfl, hM.ext⟩
 have hn : ¬ ((j : Nat) : Int) < (l.length : Int) := by omega
 obtain rfl : j = l.length := by omega
 refine hwNE ?_
 exact HX.ret1 rfl rfl fun w' hM => ⟨-1, .inl ⟨rfl, hI⟩, rfl, hM.ext⟩
theorem contS_fn {a : Option Addr} {c : Nat} {l : List ByteArray} {p : ByteArray → Bool} {fv : Value} (hl : l.length ≤ 1000000) (w : World) (hR : Rd w (.slice a l.length c) (strs l)) (hp : PQ w fv Value.string (fun x => x ∈ l) p) :
  Fn Tryz.prog 64 #[.slice a l.length c, fv] w fun v w' => v = .bool (anyN l.length fun i => p (getB l i)) ∧ Ext w w' := by
 refine enterH (l := [_, _]) rfl Tryz.ntmps64 rfl ?_
 refine hwNE ?_
 refine HL.one (H1.callp (α := Int) (V := zv) (I := fun k => FirstN l.length (fun i => p (getB l i)) k) (vs := [.slice a l.length c, fv]) rfl rfl (fun w' hM => indexS_fn hl w' (hR.ext hM.ext) (hp.ext hM.ext)) ?_)
 intro k hk
 refine hwNE ?_
 exact HX.ret1 rfl rfl fun w' hM => ⟨congrArg Value.bool hk.any, hM.ext⟩
theorem indexN_fn {a : Option Addr} {c : Nat} {l : List Nd} {U : Nat → Value} {p : (Nd × Value) → Bool} {fv : Value} (hl : l.length ≤ 1000000) (w : World) (hR : RdN w (.slice a l.length c) l U) (hp : PQ w fv (fun q => ndV q.1 q.2) (fun q => ∃ i, i < l.length ∧ q = (ndAt l i, U i)) p) :
  Fn Tryz.prog 75 #[.slice a l.length c, fv] w fun v w' => ∃ k : Int, FirstN l.length (fun i => p ((fun i => (ndAt l i, U i)) i)) k ∧ v = zv k ∧ Ext w w' := by
 refine enterH (l := [_, _]) rfl Tryz.ntmps75 rfl ?_
 refine hwNE ?_
 refine HC.loop (α := Nat) (fun j => [(0, .slice a l.length c), (1, fv), (7, zv (l.length : Int)), (8, zv (j : Int))]) (fun _ => []) (fun j => j ≤ l.length ∧ ∀ i, i < j → p ((fun i => (ndAt l i, U i)) i) = false) (fun j => l.length - j) 0 ⟨Nat.zero_le _, fun i hi => absurd hi (Nat.not_lt_zero _)⟩ esA (Hs.refl _) ?_
 rintro j ⟨hj, hI⟩
 by_cases hlt : j < l.length
 ·have hn : ((j : Nat) : Int) < (l.length : Int) := by omega
  obtain ⟨b, off, rfl, hb⟩ := hR.cell hlt
  have hcl := hb j hlt
  refine hwNE ?_
  refine HL.one (H1.ldAggw (b := b) (off := off + j * 4) (vs := ndC (ndAt l j) (U j)) rfl rfl (fun w' hM i u hu => cell_ext hM.ext (hcl i u hu)) rfl ?_)
  refine hwNE ?_
  refine HL.one (H1.callpq (x := (fun i => (ndAt l i, U i)) j) (fun w' hM => hp.ext hM.ext) ⟨j, hlt, rfl⟩ rfl rfl rfl ?_)
  cases hpr : p ((fun i => (ndAt l i, U i)) j)
  ·refine hwNE ?_
   exact HX.again (j + 1) ⟨hlt, fun i hi => by
    by_cases e : i = j
    ·rw [e]; exact hpr
    ·exact hI i (by omega)⟩ (by omega) esA (Hs.refl _)
  ·refine hwNE ?_
   exact HX.ret1 rfl rfl fun w' hM => ⟨j, .inr ⟨j, rfl, hlt, hI, hpr⟩, rfl, hM.ext⟩
 have hn : ¬ ((j : Nat) : Int) < (l.length : Int) := by omega
 obtain rfl : j = l.length := by omega
 refine hwNE ?_
 exact HX.ret1 rfl rfl fun w' hM => ⟨-1, .inl ⟨rfl, hI⟩, rfl, hM.ext⟩
theorem contN_fn {a : Option Addr} {c : Nat} {l : List Nd} {U : Nat → Value} {p : (Nd × Value) → Bool} {fv : Value} (hl : l.length ≤ 1000000) (w : World) (hR : RdN w (.slice a l.length c) l U) (hp : PQ w fv (fun q => ndV q.1 q.2) (fun q => ∃ i, i < l.length ∧ q = (ndAt l i, U i)) p) :
  Fn Tryz.prog 35 #[.slice a l.length c, fv] w fun v w' => v = .bool (anyN l.length fun i => p ((fun i => (ndAt l i, U i)) i)) ∧ Ext w w' := by
 refine enterH (l := [_, _]) rfl Tryz.ntmps35 rfl ?_
 refine hwNE ?_
 refine HL.one (H1.callp (α := Int) (V := zv) (I := fun k => FirstN l.length (fun i => p ((fun i => (ndAt l i, U i)) i)) k) (vs := [.slice a l.length c, fv]) rfl rfl (fun w' hM => indexN_fn hl w' (hR.ext hM.ext) (hp.ext hM.ext)) ?_)
 intro k hk
 refine hwNE ?_
 exact HX.ret1 rfl rfl fun w' hM => ⟨congrArg Value.bool hk.any, hM.ext⟩
end Go.Sx
/- Slices whose elements take several cells: the walks of slices.IndexFunc and slices.ContainsFunc. -/
namespace Go.Sx
open Go Go.Proofs Go.RowKit
def RdK (w : World) (v : Value) (n sz : Nat) (f : Nat → List Value) : Prop :=
 ∃ a c, v = .slice a n c ∧ n ≤ c ∧ (n = 0 ∨ ∃ b off, a = some ⟨b, off, none⟩ ∧ ∀ i, i < n → ∀ (j : Nat) (u : Value), (f i)[j]? = some u → w.cell? ⟨b, off + i * sz + j, none⟩ = some u)
theorem RdK.ext {w w' : World} {v : Value} {n sz : Nat} {f : Nat → List Value} (h : RdK w v n sz f) (k : Ext w w') : RdK w' v n sz f := by
 obtain ⟨a, c, h1, h2, h3⟩ := h
 refine ⟨a, c, h1, h2, ?_⟩
 rcases h3 with h3 | ⟨b, off, h4, h5⟩
 ·exact .inl h3
 ·exact .inr ⟨b, off, h4, fun i hi j u hu => cell_ext k (h5 i hi j u hu)⟩
theorem RdK.cell {w : World} {a : Option Addr} {c n m sz : Nat} {f : Nat → List Value} (h : RdK w (.slice a m c) n sz f) {j : Nat} (hj : j < n) : ∃ b off, a = some ⟨b, off, none⟩ ∧ ∀ i, i < n → ∀ (j : Nat) (u : Value), (f i)[j]? = some u → w.cell? ⟨b, off + i * sz + j, none⟩ = some u := by
 obtain ⟨a', c', h1, -, h3⟩ := h
 cases h1
 rcases h3 with h3 | h3
 ·omega
 ·exact h3
theorem RdK.of_blk {w : World} {b n sz : Nat} {e : TypeId} {cs : List Value} {f : Nat → List Value} (h : Blk w b cs e) (hc : ∀ i, i < n → ∀ (j : Nat) (u : Value), (f i)[j]? = some u → cs[i * sz + j]? = some u) : RdK w (.slice (some ⟨b, 0, none⟩) n n) n sz f :=
 ⟨_, _, rfl, Nat.le_refl _, .inr ⟨b, 0, rfl, fun i hi j u hu => by rw [Nat.zero_add]; exact h.cell (hc i hi j u hu)⟩⟩
theorem anyN_no {n : Nat} {p : Nat → Bool} (h : ∀ i, i < n → p i = false) : anyN n p = false := by
 unfold anyN
 rw [List.any_eq_false]
 intro i hi
 rw [h i (List.mem_range.1 hi)]; decide
attribute [local irreducible] WC WL WX POp Then Again Fn NX W1 WA WO QL RP RA Yld LoopAt HC HL HX HN H1 HA HO HQ HB HP A.blk A.grow A.rd A.obj A.mp AgainH CutH
set_option maxHeartbeats 1000000 in
theorem indexCl_fn {v : Value} {n : Nat} {f : Nat → List Value} {p : Nat → Bool} {fv : Value} (hn1 : n ≤ 1000000) (hf : ∀ i, (f i).length = 6) (w : World) (hR : RdK w v n 6 f) (hp : PQ w fv (fun i => .agg (f i).toArray) (fun i => i < n) p) :
  Fn Tryz.prog 39 #[v, fv] w fun u w' => ∃ k : Int, FirstN n p k ∧ u = zv k ∧ Ext w w' := by
 obtain ⟨a, c, rfl, hc, -⟩ := id hR
 refine enterH (l := [_, _]) rfl Tryz.ntmps39 rfl ?_
 refine hwNE ?_
 refine HC.loop (α := Nat) (fun j => [(0, .slice a n c), (1, fv), (7, zv (n : Int)), (8, zv (j : Int))]) (fun _ => []) (fun j => j ≤ n ∧ ∀ i, i < j → p i = false) (fun j => n - j) 0 ⟨Nat.zero_le _, fun i hi => absurd hi (Nat.not_lt_zero _)⟩ esA (Hs.refl _) ?_
 rintro j ⟨hj, hI⟩
 by_cases hlt : j < n
 ·have hn : ((j : Nat) : Int) < (n : Int) := by omega
  obtain ⟨b, off, rfl, hb⟩ := hR.cell hlt
  have hcl := hb j hlt
  refine hwNE ?_
  refine HL.one (H1.ldAggw (b := b) (off := off + j * 6) (vs := f j) rfl (hf j) (fun w' hM i u hu => cell_ext hM.ext (hcl i u hu)) rfl ?_)
  refine hwNE ?_
  refine HL.one (H1.callpq (x := j) (fun w' hM => hp.ext hM.ext) hlt rfl rfl rfl ?_)
  cases hpr : p j
  ·refine hwNE ?_
   exact HX.again (j + 1) ⟨hlt, fun i hi => by
    by_cases e : i = j
    ·rw [e]; exact hpr
    ·exact hI i (by omega)⟩ (by omega) esA (Hs.refl _)
  ·refine hwNE ?_
   exact HX.ret1 rfl rfl fun w' hM => ⟨j, .inr ⟨j, rfl, hlt, hI, hpr⟩, rfl, hM.ext⟩
 have hn : ¬ ((j : Nat) : Int) < (n : Int) := by omega
 obtain rfl : j = n := by omega
 refine hwNE ?_
 exact HX.ret1 rfl rfl fun w' hM => ⟨-1, .inl ⟨rfl, hI⟩, rfl, hM.ext⟩
theorem contCl_fn {v : Value} {n : Nat} {f : Nat → List Value} {p : Nat → Bool} {fv : Value} (hn1 : n ≤ 1000000) (hf : ∀ i, (f i).length = 6) (w : World) (hR : RdK w v n 6 f) (hp : PQ w fv (fun i => .agg (f i).toArray) (fun i => i < n) p) :
  Fn Tryz.prog 151 #[v, fv] w fun u w' => u = .bool (anyN n p) ∧ Ext w w' := by
 refine enterH (l := [_, _]) rfl Tryz.ntmps151 rfl ?_
 refine hwNE ?_
 refine HL.one (H1.callp (α := Int) (V := zv) (I := fun k => FirstN n p k) (vs := [v, fv]) rfl rfl (fun w' hM => indexCl_fn hn1 hf w' (hR.ext hM.ext) (hp.ext hM.ext)) ?_)
 intro k hk
 refine hwNE ?_
 exact HX.ret1 rfl rfl fun w' hM => ⟨congrArg Value.bool hk.any, hM.ext⟩
set_option maxHeartbeats 1000000 in
theorem indexLn_fn {v : Value} {n : Nat} {f : Nat → List Value} {p : Nat → Bool} {fv : Value} (hn1 : n ≤ 1000000) (hf : ∀ i, (f i).length = 2) (w : World) (hR : RdK w v n 2 f) (hp : PQ w fv (fun i => .agg (f i).toArray) (fun i => i < n) p) :
  Fn Tryz.prog 210 #[v, fv] w fun u w' => ∃ k : Int, FirstN n p k ∧ u = zv k ∧ Ext w w' := by
 obtain ⟨a, c, rfl, hc, -⟩ := id hR
 refine enterH (l := [_, _]) rfl Tryz.ntmps210 rfl ?_
 refine hwNE ?_
 refine HC.loop (α := Nat) (fun j => [(0, .slice a n c), (1, fv), (7, zv (n : Int)), (8, zv (j : Int))]) (fun _ => []) (fun j => j ≤ n ∧ ∀ i, i < j → p i = false) (fun j => n - j) 0 ⟨Nat.zero_le _, fun i hi => absurd hi (Nat.not_lt_zero _)⟩ esA (Hs.refl _) ?_
 rintro j ⟨hj, hI⟩
 by_cases hlt : j < n
 ·have hn : ((j : Nat) : Int) < (n : Int) := by omega
  obtain ⟨b, off, rfl, hb⟩ := hR.cell hlt
  have hcl := hb j hlt
  refine hwNE ?_
  refine HL.one (H1.ldAggw (b := b) (off := off + j * 2) (vs := f j) rfl (hf j) (fun w' hM i u hu => cell_ext hM.ext (hcl i u hu)) rfl ?_)
  refine hwNE ?_
  refine HL.one (H1.callpq (x := j) (fun w' hM => hp.ext hM.ext) hlt rfl rfl rfl ?_)
  cases hpr : p j
  ·refine hwNE ?_
   exact HX.again (j + 1) ⟨hlt, fun i hi => by
    by_cases e : i = j
    ·rw [e]; exact hpr
    ·exact hI i (by omega)⟩ (by omega) esA (Hs.refl _)
  ·refine hwNE ?_
   exact HX.ret1 rfl rfl fun w' hM => ⟨j, .inr ⟨j, rfl, hlt, hI, hpr⟩, rfl, hM.ext⟩
 have hn : ¬ ((j : Nat) : Int) < (n : Int) := by omega
 obtain rfl : j = n := by omega
 refine hwNE ?_
 exact HX.ret1 rfl rfl fun w' hM => ⟨-1, .inl ⟨rfl, hI⟩, rfl, hM.ext⟩
theorem contLn_fn {v : Value} {n : Nat} {f : Nat → List Value} {p : Nat → Bool} {fv : Value} (hn1 : n ≤ 1000000) (hf : ∀ i, (f i).length = 2) (w : World) (hR : RdK w v n 2 f) (hp : PQ w fv (fun i => .agg (f i).toArray) (fun i => i < n) p) :
  Fn Tryz.prog 147 #[v, fv] w fun u w' => u = .bool (anyN n p) ∧ Ext w w' := by
 refine enterH (l := [_, _]) rfl Tryz.ntmps147 rfl ?_
 refine hwNE ?_
 refine HL.one (H1.callp (α := Int) (V := zv) (I := fun k => FirstN n p k) (vs := [v, fv]) rfl rfl (fun w' hM => indexLn_fn hn1 hf w' (hR.ext hM.ext) (hp.ext hM.ext)) ?_)
 intro k hk
 refine hwNE ?_
 exact HX.ret1 rfl rfl fun w' hM => ⟨congrArg Value.bool hk.any, hM.ext⟩
set_option maxHeartbeats 1000000 in
theorem indexSt_fn {v : Value} {n : Nat} {f : Nat → List Value} {p : Nat → Bool} {fv : Value} (hn1 : n ≤ 1000000) (hf : ∀ i, (f i).length = 2) (w : World) (hR : RdK w v n 2 f) (hp : PQ w fv (fun i => .agg (f i).toArray) (fun i => i < n) p) :
  Fn Tryz.prog 157 #[v, fv] w fun u w' => ∃ k : Int, FirstN n p k ∧ u = zv k ∧ Ext w w' := by
 obtain ⟨a, c, rfl, hc, -⟩ := id hR
 refine enterH (l := [_, _]) rfl Tryz.ntmps157 rfl ?_
 refine hwNE ?_
 refine HC.loop (α := Nat) (fun j => [(0, .slice a n c), (1, fv), (7, zv (n : Int)), (8, zv (j : Int))]) (fun _ => []) (fun j => j ≤ n ∧ ∀ i, i < j → p i = false) (fun j => n - j) 0 ⟨Nat.zero_le _, fun i hi => absurd hi (Nat.not_lt_zero _)⟩ esA (Hs.refl _) ?_
 rintro j ⟨hj, hI⟩
 by_cases hlt : j < n
 ·have hn : ((j : Nat) : Int) < (n : Int) := by omega
  obtain ⟨b, off, rfl, hb⟩ := hR.cell hlt
  have hcl := hb j hlt
  refine hwNE ?_
  refine HL.one (H1.ldAggw (b := b) (off := off + j * 2) (vs := f j) rfl (hf j) (fun w' hM i u hu => cell_ext hM.ext (hcl i u hu)) rfl ?_)
  refine hwNE ?_
  refine HL.one (H1.callpq (x := j) (fun w' hM => hp.ext hM.ext) hlt rfl rfl rfl ?_)
  cases hpr : p j
  ·refine hwNE ?_
   exact HX.again (j + 1) ⟨hlt, fun i hi => by
    by_cases e : i = j
    ·rw [e]; exact hpr
    ·exact hI i (by omega)⟩ (by omega) esA (Hs.refl _)
  ·refine hwNE ?_
   exact HX.ret1 rfl rfl fun w' hM => ⟨j, .inr ⟨j, rfl, hlt, hI, hpr⟩, rfl, hM.ext⟩
 have hn : ¬ ((j : Nat) : Int) < (n : Int) := by omega
 obtain rfl : j = n := by omega
 refine hwNE ?_
 exact HX.ret1 rfl rfl fun w' hM => ⟨-1, .inl ⟨rfl, hI⟩, rfl, hM.ext⟩
theorem contSt_fn {v : Value} {n : Nat} {f : Nat → List Value} {p : Nat → Bool} {fv : Value} (hn1 : n ≤ 1000000) (hf : ∀ i, (f i).length = 2) (w : World) (hR : RdK w v n 2 f) (hp : PQ w fv (fun i => .agg (f i).toArray) (fun i => i < n) p) :
  Fn Tryz.prog 97 #[v, fv] w fun u w' => u = .bool (anyN n p) ∧ Ext w w' := by
 refine enterH (l := [_, _]) rfl Tryz.ntmps97 rfl ?_
 refine hwNE ?_
 refine HL.one (H1.callp (α := Int) (V := zv) (I := fun k => FirstN n p k) (vs := [v, fv]) rfl rfl (fun w' hM => indexSt_fn hn1 hf w' (hR.ext hM.ext) (hp.ext hM.ext)) ?_)
 intro k hk
 refine hwNE ?_
 exact HX.ret1 rfl rfl fun w' hM => ⟨congrArg Value.bool hk.any, hM.ext⟩
end Go.Sx
/-
 DERIVED: THE SHELF's CONTRACTS AT THIS DUMP, IN PLAIN WORDS (tools/lay-plain.mjs out of 'TryzShelf.lean', which tools/lay-shelf.mjs wrote): THE SAME DECLARATIONS UNDER THE SAME NAMES: 'import', 'namespace', 'open', 'def', 'theorem' AND NOTHING ELSE: no command of the shelf's: FOR A HAND-IN. Each laying: the table of numbers ('.._ren') and one theorem, a field a fact of the dump's own or the kernel's comparison; each contract: ONE APPLICATION.
-/
namespace Go.Proofs
open Go.Shelf
def Tryz.lays170_ren : Go.Shelf.Ren := ⟨fun | 170 => 225 | n => n, fun | 70 => 103 | 3 => 3 | 0 => 0 | 72 => 106 | 37 => 104 | 5 => 5 | n => n, fun | n => n⟩
def Tryz.lays169_ren : Go.Shelf.Ren := ⟨fun | 169 => 44 | n => n, fun | 70 => 103 | 9 => 9 | 0 => 0 | 72 => 106 | 37 => 104 | 127 => 163 | 3 => 3 | 5 => 5 | n => n, fun | n => n⟩
def Tryz.lays241_ren : Go.Shelf.Ren := ⟨fun | 241 => 247 | 277 => 265 | n => n, fun | 70 => 103 | 3 => 3 | 0 => 0 | 72 => 106 | 37 => 104 | 5 => 5 | n => n, fun | n => n⟩
def Tryz.lays165_ren : Go.Shelf.Ren := ⟨fun | 165 => 217 | 240 => 212 | 241 => 247 | 276 => 243 | 277 => 265 | n => n, fun | 70 => 103 | 3 => 3 | 0 => 0 | 4 => 4 | 9 => 9 | 20 => 20 | 72 => 106 | 37 => 104 | 164 => 299 | 5 => 5 | n => n, fun | n => n⟩
def Tryz.lays159_ren : Go.Shelf.Ren := ⟨fun | 159 => 174 | 165 => 217 | 166 => 153 | 167 => 218 | 169 => 44 | 230 => 219 | 204 => 220 | 240 => 212 | 241 => 247 | 197 => 214 | 118 => 248 | 168 => 249 | 270 => 250 | 262 => 251 | 276 => 243 | 277 => 265 | 260 => 244 | 242 => 266 | 313 => 267 | 278 => 273 | 274 => 274 | 275 => 275 | n => n, fun | 9 => 9 | 4 => 4 | 3 => 3 | 5 => 5 | 72 => 106 | 0 => 0 | 76 => 220 | 75 => 219 | 107 => 278 | 70 => 103 | 20 => 20 | 37 => 104 | 127 => 163 | 21 => 21 | 105 => 273 | 164 => 299 | 162 => 320 | 203 => 318 | 119 => 311 | 46 => 130 | 139 => 314 | 138 => 313 | 51 => 126 | 160 => 323 | 208 => 330 | 206 => 328 | 80 => 90 | n => n, fun | 13 => 3 | 3 => 1 | 4 => 2 | n => n⟩
theorem Tryz.lays159 : Go.Proofs.Lays.n159 Tryz.prog Tryz.lays159_ren := {
 mixed := by kernel_rfl
 f118 := Tryz.func248.trans (congrArg some (by kernel_rfl))
 f159 := Tryz.func174.trans (congrArg some (by kernel_rfl))
 f165 := Tryz.func217.trans (congrArg some (by kernel_rfl))
 f166 := Tryz.func153.trans (congrArg some (by kernel_rfl))
 f167 := Tryz.func218.trans (congrArg some (by kernel_rfl))
 f168 := Tryz.func249.trans (congrArg some (by kernel_rfl))
 f169 := Tryz.func44.trans (congrArg some (by kernel_rfl))
 f197 := Tryz.func214.trans (congrArg some (by kernel_rfl))
 f204 := Tryz.func220.trans (congrArg some (by kernel_rfl))
 f230 := Tryz.func219.trans (congrArg some (by kernel_rfl))
 f240 := Tryz.func212.trans (congrArg some (by kernel_rfl))
 f241 := Tryz.func247.trans (congrArg some (by kernel_rfl))
 f242 := Tryz.func266.trans (congrArg some (by kernel_rfl))
 f260 := Tryz.func244.trans (congrArg some (by kernel_rfl))
 f262 := Tryz.func251.trans (congrArg some (by kernel_rfl))
 f270 := Tryz.func250.trans (congrArg some (by kernel_rfl))
 f274 := Tryz.func274.trans (congrArg some (by kernel_rfl))
 f275 := Tryz.func275.trans (congrArg some (by kernel_rfl))
 f276 := Tryz.func243.trans (congrArg some (by kernel_rfl))
 f277 := Tryz.func265.trans (congrArg some (by kernel_rfl))
 f278 := Tryz.func273.trans (congrArg some (by kernel_rfl))
 f313 := Tryz.func267.trans (congrArg some (by kernel_rfl))
 t0 := Tryz.underlying0
 a0 := Tryz.isAgg0
 z0 := Tryz.sizeOf0
 v0 := Tryz.zeroValue0
 t3 := Tryz.underlying3
 a3 := Tryz.isAgg3
 z3 := Tryz.sizeOf3
 v3 := Tryz.zeroValue3
 t4 := Tryz.underlying4
 a4 := Tryz.isAgg4
 z4 := Tryz.sizeOf4
 v4 := Tryz.zeroValue4
 t5 := Tryz.underlying5
 a5 := Tryz.isAgg5
 z5 := Tryz.sizeOf5
 v5 := Tryz.zeroValue5
 t9 := Tryz.underlying9
 a9 := Tryz.isAgg9
 z9 := Tryz.sizeOf9
 v9 := Tryz.zeroValue9
 t20 := Tryz.underlying20
 a20 := Tryz.isAgg20
 z20 := Tryz.sizeOf20
 v20 := Tryz.zeroValue20
 t21 := Tryz.underlying21
 a21 := Tryz.isAgg21
 z21 := Tryz.sizeOf21
 v21 := Tryz.zeroValue21
 t37 := Tryz.underlying104
 a37 := Tryz.isAgg104
 z37 := Tryz.sizeOf104
 v37 := Tryz.zeroValue104
 t46 := Tryz.underlying130
 a46 := Tryz.isAgg130
 z46 := Tryz.sizeOf130
 v46 := Tryz.zeroValue130
 t51 := Tryz.underlying126
 a51 := Tryz.isAgg126
 z51 := Tryz.sizeOf126
 v51 := Tryz.zeroValue126
 t70 := Tryz.underlying103
 a70 := Tryz.isAgg103
 z70 := Tryz.sizeOf103
 v70 := Tryz.zeroValue103
 t72 := Tryz.underlying106
 a72 := Tryz.isAgg106
 z72 := Tryz.sizeOf106
 v72 := Tryz.zeroValue106
 t75 := Tryz.underlying219
 a75 := Tryz.isAgg219
 z75 := Tryz.sizeOf219
 v75 := Tryz.zeroValue219
 t76 := Tryz.underlying220
 a76 := Tryz.isAgg220
 z76 := Tryz.sizeOf220
 v76 := Tryz.zeroValue220
 t105 := Tryz.underlying273
 a105 := Tryz.isAgg273
 z105 := Tryz.sizeOf273
 v105 := Tryz.zeroValue273
 t107 := Tryz.underlying278
 a107 := Tryz.isAgg278
 z107 := Tryz.sizeOf278
 v107 := Tryz.zeroValue278
 t119 := Tryz.underlying311
 a119 := Tryz.isAgg311
 z119 := Tryz.sizeOf311
 t127 := Tryz.underlying163
 a127 := Tryz.isAgg163
 z127 := Tryz.sizeOf163
 v127 := Tryz.zeroValue163
 t138 := Tryz.underlying313
 a138 := Tryz.isAgg313
 z138 := Tryz.sizeOf313
 v138 := Tryz.zeroValue313
 t139 := Tryz.underlying314
 a139 := Tryz.isAgg314
 z139 := Tryz.sizeOf314
 v139 := Tryz.zeroValue314
 t160 := Tryz.underlying323
 a160 := Tryz.isAgg323
 z160 := Tryz.sizeOf323
 v160 := Tryz.zeroValue323
 t162 := Tryz.underlying320
 a162 := Tryz.isAgg320
 z162 := Tryz.sizeOf320
 v162 := Tryz.zeroValue320
 t164 := Tryz.underlying299
 a164 := Tryz.isAgg299
 z164 := Tryz.sizeOf299
 v164 := Tryz.zeroValue299
 t203 := Tryz.underlying318
 a203 := Tryz.isAgg318
 z203 := Tryz.sizeOf318
 v203 := Tryz.zeroValue318
 t206 := Tryz.underlying328
 a206 := Tryz.isAgg328
 z206 := Tryz.sizeOf328
 v206 := Tryz.zeroValue328
 t208 := Tryz.underlying330
 a208 := Tryz.isAgg330
 z208 := Tryz.sizeOf330
 v208 := Tryz.zeroValue330
 g3 := by kernel_rfl
 g4 := by kernel_rfl
 g13 := by kernel_rfl }
theorem Tryz.Builder_Extra_159 : Builder.Extra Tryz.prog Tryz.lays159_ren := {
 sizeBuilder := by kernel_rfl
 liesBuilder := by kernel_rfl
 t5 := Tryz.underlying5
 a5 := Tryz.isAgg5
 z5 := Tryz.sizeOf5
 v5 := Tryz.zeroValue5
 infoByte := by kernel_rfl
 cellsByte := by kernel_rfl
 sizeByte := by kernel_rfl
 neB5 := by decide }
open Go.RowKit in
theorem Tryz.strings_ToLower_ascii (s : ByteArray) (w : World) (hs : s.size ≤ 140737488355328) (hascii : ∀ (j : Nat) (b : UInt8), s.data.toList[j]? = some b → b.toNat < 128) :
  Calls Tryz.prog 174 #[.string s] w fun e w' => e = .returned (.string ⟨(Lib.toLowerA s.data.toList).toArray⟩) ∧ Below w.heap.size w w' := Any.strings_ToLower_ascii Tryz.lays159 Tryz.Builder_Extra_159 s w hs hascii
def Tryz.lays156_ren : Go.Shelf.Ren := ⟨fun | 156 => 239 | 165 => 217 | 166 => 153 | 169 => 44 | 240 => 212 | 241 => 247 | 276 => 243 | 277 => 265 | n => n, fun | 31 => 26 | 9 => 9 | 3 => 3 | 4 => 4 | 0 => 0 | 20 => 20 | 72 => 106 | 76 => 220 | 70 => 103 | 37 => 104 | 75 => 219 | 127 => 163 | 164 => 299 | 5 => 5 | 80 => 90 | n => n, fun | n => n⟩
theorem Tryz.lays156 : Go.Proofs.Lays.n156 Tryz.prog Tryz.lays156_ren := {
 mixed := by kernel_rfl
 f156 := Tryz.func239.trans (congrArg some (by kernel_rfl))
 f165 := Tryz.func217.trans (congrArg some (by kernel_rfl))
 f166 := Tryz.func153.trans (congrArg some (by kernel_rfl))
 f169 := Tryz.func44.trans (congrArg some (by kernel_rfl))
 f240 := Tryz.func212.trans (congrArg some (by kernel_rfl))
 f241 := Tryz.func247.trans (congrArg some (by kernel_rfl))
 f276 := Tryz.func243.trans (congrArg some (by kernel_rfl))
 f277 := Tryz.func265.trans (congrArg some (by kernel_rfl))
 t0 := Tryz.underlying0
 a0 := Tryz.isAgg0
 z0 := Tryz.sizeOf0
 v0 := Tryz.zeroValue0
 t3 := Tryz.underlying3
 a3 := Tryz.isAgg3
 z3 := Tryz.sizeOf3
 v3 := Tryz.zeroValue3
 t4 := Tryz.underlying4
 a4 := Tryz.isAgg4
 z4 := Tryz.sizeOf4
 v4 := Tryz.zeroValue4
 t9 := Tryz.underlying9
 a9 := Tryz.isAgg9
 z9 := Tryz.sizeOf9
 v9 := Tryz.zeroValue9
 t20 := Tryz.underlying20
 a20 := Tryz.isAgg20
 z20 := Tryz.sizeOf20
 v20 := Tryz.zeroValue20
 t31 := Tryz.underlying26
 a31 := Tryz.isAgg26
 z31 := Tryz.sizeOf26
 v31 := Tryz.zeroValue26
 t37 := Tryz.underlying104
 a37 := Tryz.isAgg104
 z37 := Tryz.sizeOf104
 v37 := Tryz.zeroValue104
 t70 := Tryz.underlying103
 a70 := Tryz.isAgg103
 z70 := Tryz.sizeOf103
 v70 := Tryz.zeroValue103
 t72 := Tryz.underlying106
 a72 := Tryz.isAgg106
 z72 := Tryz.sizeOf106
 v72 := Tryz.zeroValue106
 t75 := Tryz.underlying219
 a75 := Tryz.isAgg219
 z75 := Tryz.sizeOf219
 v75 := Tryz.zeroValue219
 t76 := Tryz.underlying220
 a76 := Tryz.isAgg220
 z76 := Tryz.sizeOf220
 v76 := Tryz.zeroValue220
 t127 := Tryz.underlying163
 a127 := Tryz.isAgg163
 z127 := Tryz.sizeOf163
 v127 := Tryz.zeroValue163
 t164 := Tryz.underlying299
 a164 := Tryz.isAgg299
 z164 := Tryz.sizeOf299
 v164 := Tryz.zeroValue299 }
theorem Tryz.Builder_Extra_156 : Builder.Extra Tryz.prog Tryz.lays156_ren := {
 sizeBuilder := by kernel_rfl
 liesBuilder := by kernel_rfl
 t5 := Tryz.underlying5
 a5 := Tryz.isAgg5
 z5 := Tryz.sizeOf5
 v5 := Tryz.zeroValue5
 infoByte := by kernel_rfl
 cellsByte := by kernel_rfl
 sizeByte := by kernel_rfl
 neB5 := by decide }
open Go.RowKit in
theorem Tryz.strings_Join (bk o c : Nat) (xs : List ByteArray) (sep : ByteArray) (w : World) (hcells : ∀ (j : Nat) x, xs[j]? = some x → w.cell? ⟨bk, o + j, none⟩ = some (.string x)) (hbk : bk < w.heap.size) (hN : xs.length ≤ 140737488355328) (hcap : xs.length ≤ c) (hlen : (Lib.join (xs.map (·.data.toList)) sep.data.toList).length ≤ 140737488355328) :
  Calls Tryz.prog 239 #[.slice (some ⟨bk, o, none⟩) xs.length c, .string sep] w fun e w' => e = .returned (.string ⟨(Lib.join (xs.map (·.data.toList)) sep.data.toList).toArray⟩) ∧ Below w.heap.size w w' := Any.strings_Join Tryz.lays156 Tryz.Builder_Extra_156 bk o c xs sep w hcells hbk hN hcap hlen
def Tryz.lays231_ren : Go.Shelf.Ren := ⟨fun | 231 => 161 | n => n, fun | 9 => 9 | 5 => 5 | 3 => 3 | 4 => 4 | n => n, fun | n => n⟩
def Tryz.lays232_ren : Go.Shelf.Ren := ⟨fun | 232 => 162 | n => n, fun | 9 => 9 | 5 => 5 | 3 => 3 | 4 => 4 | n => n, fun | n => n⟩
def Tryz.lays160_ren : Go.Shelf.Ren := ⟨fun | 160 => 102 | 232 => 162 | 231 => 161 | 227 => 163 | 234 => 165 | 233 => 164 | 236 => 167 | 235 => 166 | 228 => 213 | 271 => 216 | 151 => 215 | 197 => 214 | 120 => 246 | 152 => 245 | 260 => 244 | 137 => 261 | 119 => 262 | 224 => 263 | 225 => 264 | 217 => 268 | 266 => 276 | n => n, fun | 9 => 9 | 4 => 4 | 3 => 3 | 5 => 5 | 117 => 233 | 116 => 232 | 0 => 0 | 124 => 236 | 21 => 21 | 105 => 273 | 46 => 130 | 119 => 311 | 139 => 314 | 138 => 313 | n => n, fun | 3 => 1 | 4 => 2 | n => n⟩
def Tryz.lays118_ren : Go.Shelf.Ren := ⟨fun | 118 => 248 | n => n, fun | 21 => 21 | 3 => 3 | 4 => 4 | n => n, fun | n => n⟩
def Tryz.lays119_ren : Go.Shelf.Ren := ⟨fun | 119 => 262 | n => n, fun | 21 => 21 | 4 => 4 | n => n, fun | n => n⟩
def Tryz.lays120_ren : Go.Shelf.Ren := ⟨fun | 120 => 246 | n => n, fun | 5 => 5 | 4 => 4 | n => n, fun | n => n⟩
def Tryz.lays128_ren : Go.Shelf.Ren := ⟨fun | 128 => 132 | n => n, fun | 51 => 126 | 3 => 3 | 4 => 4 | 46 => 130 | 5 => 5 | 9 => 9 | n => n, fun | n => n⟩
def Tryz.lays125_ren : Go.Shelf.Ren := ⟨fun | 125 => 60 | 128 => 132 | 129 => 133 | n => n, fun | 46 => 130 | 3 => 3 | 51 => 126 | 53 => 181 | 4 => 4 | 5 => 5 | 9 => 9 | n => n, fun | n => n⟩
def Tryz.lays137_ren : Go.Shelf.Ren := ⟨fun | 137 => 261 | 217 => 268 | 266 => 276 | n => n, fun | 9 => 9 | 5 => 5 | 3 => 3 | n => n, fun | n => n⟩
def Tryz.lays215_ren : Go.Shelf.Ren := ⟨fun | 215 => 61 | n => n, fun | 3 => 3 | 4 => 4 | n => n, fun | n => n⟩
def Tryz.lays122_ren : Go.Shelf.Ren := ⟨fun | 122 => 25 | 215 => 61 | n => n, fun | 3 => 3 | 4 => 4 | n => n, fun | n => n⟩
theorem Tryz.lays122 : Go.Proofs.Lays.n122 Tryz.prog Tryz.lays122_ren := {
 mixed := by kernel_rfl
 f122 := Tryz.func25.trans (congrArg some (by kernel_rfl))
 f215 := Tryz.func61.trans (congrArg some (by kernel_rfl))
 t3 := Tryz.underlying3
 a3 := Tryz.isAgg3
 z3 := Tryz.sizeOf3
 v3 := Tryz.zeroValue3
 t4 := Tryz.underlying4
 a4 := Tryz.isAgg4
 z4 := Tryz.sizeOf4
 v4 := Tryz.zeroValue4 }
open Go.RowKit in
theorem Tryz.cmp_Compare_int (x y : Int) (w : World) :
  Calls Tryz.prog 25 #[.int .i64 x, .int .i64 y] w fun e w' => e = .returned (.int .i64 (Lib.compareInt x y)) ∧ w' = w := Any.cmp_Compare_int Tryz.lays122 x y w
def Tryz.lays278_ren : Go.Shelf.Ren := ⟨fun | 278 => 273 | n => n, fun | 37 => 104 | 21 => 21 | 51 => 126 | 4 => 4 | 46 => 130 | 5 => 5 | n => n, fun | n => n⟩
def Tryz.lays242_ren : Go.Shelf.Ren := ⟨fun | 242 => 266 | 278 => 273 | n => n, fun | 37 => 104 | 21 => 21 | 51 => 126 | 4 => 4 | 5 => 5 | 46 => 130 | n => n, fun | n => n⟩
def Tryz.lays195_ren : Go.Shelf.Ren := ⟨fun | 195 => 270 | n => n, fun | 9 => 9 | 3 => 3 | 0 => 0 | 4 => 4 | n => n, fun | n => n⟩
def Tryz.lays129_ren : Go.Shelf.Ren := ⟨fun | 129 => 133 | n => n, fun | 53 => 181 | 3 => 3 | 4 => 4 | 46 => 130 | 5 => 5 | 9 => 9 | n => n, fun | n => n⟩
def Tryz.lays217_ren : Go.Shelf.Ren := ⟨fun | 217 => 268 | 266 => 276 | n => n, fun | 9 => 9 | 5 => 5 | 3 => 3 | n => n, fun | n => n⟩
def Tryz.lays224_ren : Go.Shelf.Ren := ⟨fun | 224 => 263 | n => n, fun | 3 => 3 | n => n, fun | n => n⟩
def Tryz.lays314_ren : Go.Shelf.Ren := ⟨fun | 314 => 277 | n => n, fun | 9 => 9 | 51 => 126 | 3 => 3 | 4 => 4 | 5 => 5 | 46 => 130 | n => n, fun | n => n⟩
def Tryz.lays267_ren : Go.Shelf.Ren := ⟨fun | 267 => 269 | 314 => 277 | n => n, fun | 9 => 9 | 3 => 3 | 146 => 305 | 51 => 126 | 4 => 4 | 5 => 5 | 46 => 130 | n => n, fun | n => n⟩
def Tryz.lays219_ren : Go.Shelf.Ren := ⟨fun | 219 => 252 | 217 => 268 | 225 => 264 | 224 => 263 | 267 => 269 | 266 => 276 | 314 => 277 | n => n, fun | 9 => 9 | 3 => 3 | 4 => 4 | 5 => 5 | 46 => 130 | 146 => 305 | 51 => 126 | n => n, fun | 1 => 4 | n => n⟩
def Tryz.lays143_ren : Go.Shelf.Ren := ⟨fun | 143 => 221 | 219 => 252 | 217 => 268 | 225 => 264 | 224 => 263 | 267 => 269 | 266 => 276 | 314 => 277 | n => n, fun | 9 => 9 | 3 => 3 | 4 => 4 | 5 => 5 | 46 => 130 | 146 => 305 | 51 => 126 | n => n, fun | 1 => 4 | n => n⟩
def Tryz.lays144_ren : Go.Shelf.Ren := ⟨fun | 144 => 175 | 143 => 221 | 219 => 252 | 217 => 268 | 225 => 264 | 224 => 263 | 267 => 269 | 266 => 276 | 314 => 277 | n => n, fun | 9 => 9 | 4 => 4 | 3 => 3 | 5 => 5 | 46 => 130 | 146 => 305 | 51 => 126 | n => n, fun | 1 => 4 | n => n⟩
def Tryz.lays189_ren : Go.Shelf.Ren := ⟨fun | 189 => 139 | 125 => 60 | 257 => 203 | 128 => 132 | 129 => 133 | 294 => 229 | 295 => 230 | 296 => 231 | 297 => 232 | 298 => 233 | 299 => 234 | 216 => 235 | 300 => 236 | 301 => 237 | 328 => 257 | 329 => 196 | 330 => 197 | 331 => 258 | 332 => 259 | 215 => 61 | 343 => 272 | n => n, fun | 28 => 37 | 3 => 3 | 46 => 130 | 0 => 0 | 51 => 126 | 53 => 181 | 4 => 4 | 183 => 197 | 182 => 196 | 131 => 55 | 5 => 5 | 9 => 9 | 218 => 251 | 222 => 191 | 228 => 284 | 229 => 68 | n => n, fun | n => n⟩
theorem Tryz.lays189 : Go.Proofs.Lays.n189 Tryz.prog Tryz.lays189_ren := {
 mixed := by kernel_rfl
 f125 := Tryz.func60.trans (congrArg some (by kernel_rfl))
 f128 := Tryz.func132.trans (congrArg some (by kernel_rfl))
 f129 := Tryz.func133.trans (congrArg some (by kernel_rfl))
 f189 := Tryz.func139.trans (congrArg some (by kernel_rfl))
 f215 := Tryz.func61.trans (congrArg some (by kernel_rfl))
 f216 := Tryz.func235.trans (congrArg some (by kernel_rfl))
 f257 := Tryz.func203.trans (congrArg some (by kernel_rfl))
 f294 := Tryz.func229.trans (congrArg some (by kernel_rfl))
 f295 := Tryz.func230.trans (congrArg some (by kernel_rfl))
 f296 := Tryz.func231.trans (congrArg some (by kernel_rfl))
 f297 := Tryz.func232.trans (congrArg some (by kernel_rfl))
 f298 := Tryz.func233.trans (congrArg some (by kernel_rfl))
 f299 := Tryz.func234.trans (congrArg some (by kernel_rfl))
 f300 := Tryz.func236.trans (congrArg some (by kernel_rfl))
 f301 := Tryz.func237.trans (congrArg some (by kernel_rfl))
 f328 := Tryz.func257.trans (congrArg some (by kernel_rfl))
 f329 := Tryz.func196.trans (congrArg some (by kernel_rfl))
 f330 := Tryz.func197.trans (congrArg some (by kernel_rfl))
 f331 := Tryz.func258.trans (congrArg some (by kernel_rfl))
 f332 := Tryz.func259.trans (congrArg some (by kernel_rfl))
 f343 := Tryz.func272.trans (congrArg some (by kernel_rfl))
 t0 := Tryz.underlying0
 a0 := Tryz.isAgg0
 z0 := Tryz.sizeOf0
 v0 := Tryz.zeroValue0
 t3 := Tryz.underlying3
 a3 := Tryz.isAgg3
 z3 := Tryz.sizeOf3
 v3 := Tryz.zeroValue3
 t4 := Tryz.underlying4
 a4 := Tryz.isAgg4
 z4 := Tryz.sizeOf4
 v4 := Tryz.zeroValue4
 t5 := Tryz.underlying5
 a5 := Tryz.isAgg5
 z5 := Tryz.sizeOf5
 v5 := Tryz.zeroValue5
 t9 := Tryz.underlying9
 a9 := Tryz.isAgg9
 z9 := Tryz.sizeOf9
 v9 := Tryz.zeroValue9
 t28 := Tryz.underlying37
 a28 := Tryz.isAgg37
 z28 := Tryz.sizeOf37
 v28 := Tryz.zeroValue37
 t46 := Tryz.underlying130
 a46 := Tryz.isAgg130
 z46 := Tryz.sizeOf130
 v46 := Tryz.zeroValue130
 t51 := Tryz.underlying126
 a51 := Tryz.isAgg126
 z51 := Tryz.sizeOf126
 v51 := Tryz.zeroValue126
 t53 := Tryz.underlying181
 a53 := Tryz.isAgg181
 z53 := Tryz.sizeOf181
 v53 := Tryz.zeroValue181
 t131 := Tryz.underlying55
 a131 := Tryz.isAgg55
 z131 := Tryz.sizeOf55
 v131 := Tryz.zeroValue55
 t182 := Tryz.underlying196
 a182 := Tryz.isAgg196
 z182 := Tryz.sizeOf196
 v182 := Tryz.zeroValue196
 t183 := Tryz.underlying197
 a183 := Tryz.isAgg197
 z183 := Tryz.sizeOf197
 v183 := Tryz.zeroValue197
 t218 := Tryz.underlying251
 a218 := Tryz.isAgg251
 z218 := Tryz.sizeOf251
 v218 := Tryz.zeroValue251
 t222 := Tryz.underlying191
 a222 := Tryz.isAgg191
 z222 := Tryz.sizeOf191
 v222 := Tryz.zeroValue191
 t228 := Tryz.underlying284
 a228 := Tryz.isAgg284
 z228 := Tryz.sizeOf284
 v228 := Tryz.zeroValue284
 t229 := Tryz.underlying68
 a229 := Tryz.isAgg68
 z229 := Tryz.sizeOf68
 v229 := Tryz.zeroValue68 }
open Go.Sort Go.RowKit in
theorem Tryz.slices_Sort_int (blk off cap : Nat) (zs : List Int) (w : World) (hH : Holds (Value.int .i64) w blk off zs.toArray) (hblk : blk < w.heap.size) (hsz : zs.length < 4611686018427387904) :
  Calls Tryz.prog 139 #[.slice (some ⟨blk, off, none⟩) zs.length cap] w fun e w' =>
   e = .returned (.tuple #[]) ∧ ∃ n os, w' = grow (putRow (Value.int .i64) (Sort.ahead w n) blk off (zs.mergeSort fun x y => decide (x ≤ y)).toArray) os := Any.slices_Sort_int Tryz.lays189 blk off cap zs w hH hblk hsz
def Tryz.lays315_ren : Go.Shelf.Ren := ⟨fun | 315 => 211 | n => n, fun | 9 => 9 | 40 => 216 | 4 => 4 | 3 => 3 | 0 => 0 | 21 => 21 | n => n, fun | n => n⟩
def Tryz.laysGw15_ren : Go.Shelf.Ren := ⟨fun | 15 => 150 | 20 => 211 | n => n, fun | 9 => 9 | 23 => 216 | 3 => 3 | 4 => 4 | 0 => 0 | 21 => 21 | n => n, fun | n => n⟩
def Tryz.laysGw17_ren : Go.Shelf.Ren := ⟨fun | 17 => 168 | 15 => 150 | 20 => 211 | n => n, fun | 9 => 9 | 23 => 216 | 4 => 4 | 3 => 3 | 0 => 0 | 21 => 21 | n => n, fun | n => n⟩
def Tryz.lays206_ren : Go.Shelf.Ren := ⟨fun | 206 => 256 | n => n, fun | 9 => 9 | 4 => 4 | 3 => 3 | n => n, fun | n => n⟩
def Tryz.lays99_ren : Go.Shelf.Ren := ⟨fun | 99 => 224 | 206 => 256 | n => n, fun | 9 => 9 | 4 => 4 | 3 => 3 | n => n, fun | n => n⟩
def Tryz.lays197_ren : Go.Shelf.Ren := ⟨fun | 197 => 214 | 260 => 244 | n => n, fun | 9 => 9 | 21 => 21 | 3 => 3 | 4 => 4 | 5 => 5 | 105 => 273 | 119 => 311 | 0 => 0 | 46 => 130 | 139 => 314 | 138 => 313 | n => n, fun | 3 => 1 | 4 => 2 | n => n⟩
def Tryz.lays152_ren : Go.Shelf.Ren := ⟨fun | 152 => 245 | 137 => 261 | 119 => 262 | 224 => 263 | 225 => 264 | 217 => 268 | 266 => 276 | n => n, fun | 9 => 9 | 21 => 21 | 3 => 3 | 4 => 4 | 5 => 5 | 0 => 0 | 46 => 130 | n => n, fun | n => n⟩
def Tryz.lays151_ren : Go.Shelf.Ren := ⟨fun | 151 => 215 | 152 => 245 | 137 => 261 | 119 => 262 | 224 => 263 | 225 => 264 | 217 => 268 | 266 => 276 | n => n, fun | 9 => 9 | 21 => 21 | 4 => 4 | 3 => 3 | 5 => 5 | 0 => 0 | 46 => 130 | n => n, fun | n => n⟩
def Tryz.lays227_ren : Go.Shelf.Ren := ⟨fun | 227 => 163 | n => n, fun | 9 => 9 | 116 => 232 | 4 => 4 | 0 => 0 | 3 => 3 | 5 => 5 | n => n, fun | n => n⟩
def Tryz.lays228_ren : Go.Shelf.Ren := ⟨fun | 228 => 213 | n => n, fun | 124 => 236 | 5 => 5 | 4 => 4 | 0 => 0 | 116 => 232 | n => n, fun | n => n⟩
def Tryz.lays264_ren : Go.Shelf.Ren := ⟨fun | 264 => 255 | n => n, fun | 53 => 181 | 46 => 130 | n => n, fun | n => n⟩
def Tryz.lays212_ren : Go.Shelf.Ren := ⟨fun | 212 => 223 | 263 => 254 | 264 => 255 | n => n, fun | 46 => 130 | 51 => 126 | 146 => 305 | 53 => 181 | 148 => 307 | n => n, fun | n => n⟩
def Tryz.lays105_ren : Go.Shelf.Ren := ⟨fun | 105 => 177 | 212 => 223 | 99 => 224 | 165 => 217 | 166 => 153 | 170 => 225 | 169 => 44 | 263 => 254 | 264 => 255 | 206 => 256 | 240 => 212 | 241 => 247 | 276 => 243 | 277 => 265 | n => n, fun | 9 => 9 | 3 => 3 | 4 => 4 | 20 => 20 | 0 => 0 | 46 => 130 | 109 => 281 | 5 => 5 | 72 => 106 | 76 => 220 | 51 => 126 | 146 => 305 | 53 => 181 | 148 => 307 | 70 => 103 | 37 => 104 | 75 => 219 | 127 => 163 | 164 => 299 | 80 => 90 | n => n, fun | n => n⟩
def Tryz.lays260_ren : Go.Shelf.Ren := ⟨fun | 260 => 244 | n => n, fun | 9 => 9 | 21 => 21 | 3 => 3 | 4 => 4 | 5 => 5 | 119 => 311 | 0 => 0 | 46 => 130 | 139 => 314 | 138 => 313 | n => n, fun | 3 => 1 | 4 => 2 | n => n⟩
def Tryz.lays271_ren : Go.Shelf.Ren := ⟨fun | 271 => 216 | 120 => 246 | 197 => 214 | 260 => 244 | n => n, fun | 9 => 9 | 21 => 21 | 3 => 3 | 4 => 4 | 5 => 5 | 105 => 273 | 119 => 311 | 0 => 0 | 46 => 130 | 139 => 314 | 138 => 313 | n => n, fun | 3 => 1 | 4 => 2 | n => n⟩
def Tryz.lays108_ren : Go.Shelf.Ren := ⟨fun | 108 => 158 | n => n, fun | 28 => 37 | 3 => 3 | 0 => 0 | 4 => 4 | n => n, fun | n => n⟩
def Tryz.lays107_ren : Go.Shelf.Ren := ⟨fun | 107 => 99 | 108 => 158 | n => n, fun | 28 => 37 | 3 => 3 | 4 => 4 | 0 => 0 | n => n, fun | n => n⟩
def Tryz.laysNm215_ren : Go.Shelf.Ren := ⟨fun | 15 => 67 | n => n, fun | 22 => 37 | 3 => 3 | 4 => 4 | n => n, fun | n => n⟩
theorem Tryz.laysNm215 : Go.Proofs.Lays2.n15 Tryz.prog Tryz.laysNm215_ren := {
 mixed := by kernel_rfl
 f15 := Tryz.func67.trans (congrArg some (by kernel_rfl))
 t3 := Tryz.underlying3
 a3 := Tryz.isAgg3
 z3 := Tryz.sizeOf3
 v3 := Tryz.zeroValue3
 t4 := Tryz.underlying4
 a4 := Tryz.isAgg4
 z4 := Tryz.sizeOf4
 v4 := Tryz.zeroValue4
 t22 := Tryz.underlying37
 a22 := Tryz.isAgg37
 z22 := Tryz.sizeOf37
 v22 := Tryz.zeroValue37
 i3 := by kernel_rfl }
open Go.RowKit Go.Lib in
theorem Tryz.slices_Clone_int (b off n c : Nat) (zs : List Int) (w : World) (hz : n ≤ zs.length) (hbig : n * 8 ≤ 140737488355328) (hc : ∀ j, j < zs.length → w.cell? ⟨b, off + j, none⟩ = some (.int .i64 (zs.getD j 0))) :
  Calls Tryz.prog 67 #[.slice (some ⟨b, off, none⟩) n c] w fun e w' => ∃ v', e = .returned v' ∧ w'.ownsRow w.heap.size 3 1 v' n ((zs.take n).map (Value.int .i64)) ∧ v' ≠ .slice none 0 0 ∧ Below w.heap.size w w' := Any.slices_Clone_int Tryz.laysNm215 b off n c zs w hz hbig hc
open Go.RowKit Go.Lib in
theorem Tryz.slices_Clone_int_nil (n c : Nat) (w : World) :
  Calls Tryz.prog 67 #[.slice none n c] w fun e w' => e = .returned (.slice none 0 0) ∧ w' = w := Any.slices_Clone_int_nil Tryz.laysNm215 n c w
open Go.RowKit Go.Lib in
theorem Tryz.slices_Clone_int_zero (a : Addr) (c : Nat) (w : World) :
  Calls Tryz.prog 67 #[.slice (some a) 0 c] w fun e w' => ∃ v', e = .returned v' ∧ w'.ownsRow w.heap.size 3 1 v' 0 [] ∧ v' ≠ .slice none 0 0 ∧ Below w.heap.size w w' := Any.slices_Clone_int_zero Tryz.laysNm215 a c w
def Tryz.laysNm220_ren : Go.Shelf.Ren := ⟨fun | 20 => 140 | n => n, fun | 22 => 37 | 3 => 3 | 4 => 4 | 0 => 0 | n => n, fun | n => n⟩
theorem Tryz.laysNm220 : Go.Proofs.Lays2.n20 Tryz.prog Tryz.laysNm220_ren := {
 mixed := by kernel_rfl
 f20 := Tryz.func140.trans (congrArg some (by kernel_rfl))
 t0 := Tryz.underlying0
 a0 := Tryz.isAgg0
 z0 := Tryz.sizeOf0
 v0 := Tryz.zeroValue0
 t3 := Tryz.underlying3
 a3 := Tryz.isAgg3
 z3 := Tryz.sizeOf3
 v3 := Tryz.zeroValue3
 t4 := Tryz.underlying4
 a4 := Tryz.isAgg4
 z4 := Tryz.sizeOf4
 v4 := Tryz.zeroValue4
 t22 := Tryz.underlying37
 a22 := Tryz.isAgg37
 z22 := Tryz.sizeOf37
 v22 := Tryz.zeroValue37
 i3 := by kernel_rfl }
open Go.RowKit Go.Lib Go.Sort in
theorem Tryz.slices_Compact_int (blk off cap : Nat) (zs : List Int) (w : World) (hH : Holds (Value.int .i64) w blk off zs.toArray) (hsz : zs.length ≤ 9223372036854775807) (hcap : zs.length ≤ cap) :
  Calls Tryz.prog 140 #[.slice (some ⟨blk, off, none⟩) zs.length cap] w fun e w' => e = .returned (.slice (some ⟨blk, off, none⟩) (Lib.compact zs).length cap) ∧ ∃ q, w' = putRow (Value.int .i64) (Sort.ahead w q) blk off (Lib.compact zs ++ List.replicate (zs.length - (Lib.compact zs).length) 0).toArray := Any.slices_Compact_int Tryz.laysNm220 blk off cap zs w hH hsz hcap
open Go.RowKit Go.Lib Go.Sort in
theorem Tryz.slices_Compact_int_empty (a : Option Addr) (cap : Nat) (w : World) :
  Calls Tryz.prog 140 #[.slice a 0 cap] w fun e w' => e = .returned (.slice a 0 cap) ∧ w' = w := Any.slices_Compact_int_empty Tryz.laysNm220 a cap w
def Tryz.laysNm237_ren : Go.Shelf.Ren := ⟨fun | 37 => 61 | n => n, fun | 3 => 3 | 4 => 4 | n => n, fun | n => n⟩
def Tryz.laysNm231_ren : Go.Shelf.Ren := ⟨fun | 31 => 235 | 37 => 61 | n => n, fun | 3 => 3 | 4 => 4 | n => n, fun | n => n⟩
open Go.RowKit Go.Sort in
theorem Tryz.slices_Sort_int_none (p : Option Addr) (cap : Nat) (w : World) :
  Calls Tryz.prog 139 #[.slice p 0 cap] w fun e w' => e = .returned (.tuple #[]) ∧ w' = w := Any.slices_Sort_int_none Tryz.lays189 p cap w
def Tryz.laysSlE041_f67_ren : Go.Shelf.Ren := ⟨fun | 41 => 67 | n => n, fun | 22 => 37 | 23 => 3 | 4 => 4 | n => n, fun | n => n⟩
end Go.Proofs
/- The library's Clone and Equal at numbers, as the walks use them. -/
namespace Go.Sx
open Go Go.Proofs Go.RowKit
theorem rd_clone {w : World} {b off c : Nat} {l : List Int} (hR : Rd w (.slice (some ⟨b, off, none⟩) l.length c) (ints l)) : ∀ j, j < l.length → w.cell? ⟨b, off + j, none⟩ = some (.int .i64 (l.getD j 0)) := fun _ hj => hR.cell (ints_get hj)
theorem Mm.ownFresh {w w' : World} {e : TypeId} {sz n c : Nat} {a : Option Addr} {xs : List Value} (hx : Ext w w') (h : w'.ownsRow w.heap.size e sz (.slice a n c) n xs) : Mm w [A.grow e sz a c n xs] w' := by
 refine (Mm.nil hx).cons ⟨h.1, ?_⟩ ?_ fun b hb => ?_
 ·rcases h.2 with h2 | ⟨g, cap, cur, hv, -, rest⟩
  ·exact .inl h2
  ·exact .inr ⟨g, cap, cur, hv, Nat.zero_le _, rest⟩
 ·show (Option.toList _).Nodup
  cases (Value.slice a n c).ownBlock <;> simp
 ·have hb' : (Value.slice a n c).ownBlock = some b := by simpa [A.grow] using hb
  have := h.lt b hb'
  exact ⟨by simp [fps], this.1, this.2⟩
theorem own_shape {w : World} {base : Nat} {e : TypeId} {sz n : Nat} {v : Value} {xs : List Value} (h : w.ownsRow base e sz v n xs) : ∃ a c, v = .slice a n c ∧ (n = 0 ∨ ∃ b, a = some ⟨b, 0, none⟩) := by
 rcases h.2 with ⟨rfl, rfl⟩ | ⟨g, cap, cur, rfl, -⟩
 ·exact ⟨none, 0, rfl, .inl rfl⟩
 ·exact ⟨_, cap, rfl, .inr ⟨g, rfl⟩⟩
theorem clone_fn (v : Value) (l : List Int) (hl : l.length ≤ 1000000) (w : World) (hR : Rd w v (ints l)) :
  Fn Tryz.prog 67 #[v] w fun u w' => ∃ z : Option Addr × Nat, (l.length = 0 ∨ ∃ b, z.1 = some ⟨b, 0, none⟩) ∧ u = .slice z.1 l.length z.2 ∧ Mm w [A.grow 3 1 z.1 z.2 l.length (ints l)] w' := by
 obtain ⟨a, c, rfl, hc⟩ := hR.isInts
 by_cases hne : l = []
 ·subst hne
  cases a with
  | none =>
   refine Calls.mono (Tryz.slices_Clone_int_nil 0 c w) ?_
   rintro e w' ⟨rfl, rfl⟩
   exact ⟨_, rfl, (none, 0), .inl rfl, rfl, (Mm.refl _).grow0 _ _⟩
  | some a =>
   refine Calls.mono (Tryz.slices_Clone_int_zero a c w) ?_
   rintro e w' ⟨v', rfl, h1, h2, h3⟩
   obtain ⟨a', c', rfl, ha⟩ := own_shape h1
   exact ⟨_, rfl, (a', c'), ha, rfl, Mm.ownFresh h3 h1⟩
 ·obtain ⟨b, off, rfl, hb⟩ := hR.iat hne
  refine Calls.mono (Tryz.slices_Clone_int b off l.length c l w (Nat.le_refl _) (by omega) (rd_clone hR)) ?_
  rintro e w' ⟨v', rfl, h1, h2, h3⟩
  rw [List.take_length] at h1
  obtain ⟨a', c', rfl, ha⟩ := own_shape h1
  exact ⟨_, rfl, (a', c'), ha, rfl, Mm.ownFresh h3 h1⟩
end Go.Sx
/-
 DERIVED: THE SHELF's CONTRACTS AT THIS DUMP, IN PLAIN WORDS (tools/lay-plain.mjs out of 'TryzShelf4.lean', which tools/lay-shelf.mjs wrote): THE SAME DECLARATIONS UNDER THE SAME NAMES: 'import', 'namespace', 'open', 'def', 'theorem' AND NOTHING ELSE: no command of the shelf's: FOR A HAND-IN. Each laying: the table of numbers ('.._ren') and one theorem, a field a fact of the dump's own or the kernel's comparison; each contract: ONE APPLICATION.
-/
namespace Go.Proofs
open Go.Shelf
def Tryz.idxP_ren : Go.Shelf.Ren := ⟨fun | 15 => 150 | 20 => 211 | n => n, fun | 9 => 9 | 23 => 216 | 3 => 3 | 4 => 4 | 0 => 0 | 21 => 21 | n => n, fun | n => n⟩
theorem Tryz.idxP : Go.Proofs.LaysGw.n15 Tryz.prog Tryz.idxP_ren := {
 mixed := by kernel_rfl
 f15 := Tryz.func150.trans (congrArg some (by kernel_rfl))
 f20 := Tryz.func211.trans (congrArg some (by kernel_rfl))
 t0 := Tryz.underlying0
 a0 := Tryz.isAgg0
 z0 := Tryz.sizeOf0
 v0 := Tryz.zeroValue0
 i0 := by kernel_rfl
 t3 := Tryz.underlying3
 a3 := Tryz.isAgg3
 z3 := Tryz.sizeOf3
 v3 := Tryz.zeroValue3
 i3 := by kernel_rfl
 t4 := Tryz.underlying4
 a4 := Tryz.isAgg4
 z4 := Tryz.sizeOf4
 v4 := Tryz.zeroValue4
 i4 := by kernel_rfl
 t9 := Tryz.underlying9
 a9 := Tryz.isAgg9
 z9 := Tryz.sizeOf9
 v9 := Tryz.zeroValue9
 i9 := by kernel_rfl
 t21 := Tryz.underlying21
 a21 := Tryz.isAgg21
 z21 := Tryz.sizeOf21
 v21 := Tryz.zeroValue21
 i21 := by kernel_rfl
 t23 := Tryz.underlying216
 a23 := Tryz.isAgg216
 z23 := Tryz.sizeOf216
 v23 := Tryz.zeroValue216
 i23 := by kernel_rfl }
def Tryz.conP_ren : Go.Shelf.Ren := ⟨fun | 17 => 168 | 15 => 150 | 20 => 211 | n => n, fun | 9 => 9 | 23 => 216 | 4 => 4 | 3 => 3 | 0 => 0 | 21 => 21 | n => n, fun | n => n⟩
theorem Tryz.conP : Go.Proofs.LaysGw.n17 Tryz.prog Tryz.conP_ren := {
 mixed := by kernel_rfl
 f15 := Tryz.func150.trans (congrArg some (by kernel_rfl))
 f17 := Tryz.func168.trans (congrArg some (by kernel_rfl))
 f20 := Tryz.func211.trans (congrArg some (by kernel_rfl))
 t0 := Tryz.underlying0
 a0 := Tryz.isAgg0
 z0 := Tryz.sizeOf0
 v0 := Tryz.zeroValue0
 i0 := by kernel_rfl
 t3 := Tryz.underlying3
 a3 := Tryz.isAgg3
 z3 := Tryz.sizeOf3
 v3 := Tryz.zeroValue3
 i3 := by kernel_rfl
 t4 := Tryz.underlying4
 a4 := Tryz.isAgg4
 z4 := Tryz.sizeOf4
 v4 := Tryz.zeroValue4
 i4 := by kernel_rfl
 t9 := Tryz.underlying9
 a9 := Tryz.isAgg9
 z9 := Tryz.sizeOf9
 v9 := Tryz.zeroValue9
 i9 := by kernel_rfl
 t21 := Tryz.underlying21
 a21 := Tryz.isAgg21
 z21 := Tryz.sizeOf21
 v21 := Tryz.zeroValue21
 i21 := by kernel_rfl
 t23 := Tryz.underlying216
 a23 := Tryz.isAgg216
 z23 := Tryz.sizeOf216
 v23 := Tryz.zeroValue216
 i23 := by kernel_rfl }
end Go.Proofs
/- content: lines, cells, documents without a raster are valid: the walks. -/
namespace Go.Sx
open Go Go.Proofs Go.RowKit
def cellsO (b off : Nat) (vs : List Value) : List (Addr × Value) := vs.zipIdx.map fun p => (⟨b, off + p.2, none⟩, p.1)
theorem cellsO_mem {b off : Nat} {vs : List Value} {i : Nat} {v : Value} (h : vs[i]? = some v) : ((⟨b, off + i, none⟩ : Addr), v) ∈ cellsO b off vs := List.mem_map.2 ⟨(v, i), List.mk_mem_zipIdx_iff_getElem?.2 h, rfl⟩
theorem Keep.baseO {l : List (Addr × Value)} {w0 : World} {H : List Atom} {b off : Nat} {vs : List Value} (h0 : ∀ (i : Nat) (v : Value), vs[i]? = some v → w0.cell? ⟨b, off + i, none⟩ = some v) (h : Keep l w0 H) : Keep (cellsO b off vs ++ l) w0 H := fun w hM p hp => by
 rcases List.mem_append.1 hp with hp | hp
 ·obtain ⟨⟨v, i⟩, h1, rfl⟩ := List.mem_map.1 hp
  exact cell_ext hM.ext (h0 _ _ (List.mk_mem_zipIdx_iff_getElem?.1 h1))
 ·exact h w hM p hp
theorem cellsOL {b off : Nat} {vs : List Value} {l : List (Addr × Value)} {p : Addr × Value} (h : p ∈ cellsO b off vs) : p ∈ cellsO b off vs ++ l := List.mem_append_left _ h
theorem cellsOR {b off : Nat} {vs : List Value} {l : List (Addr × Value)} {p : Addr × Value} (h : p ∈ l) : p ∈ cellsO b off vs ++ l := List.mem_append_right _ h
section
variable {P : Program} {N : Nat} {ds : List Deferred} {ol : List Oper} {Q : Post} {E : Env} {w0 : World} {H : List Atom} {fuel : Nat} {listed : Array Bool} {ty : TypeId} {pos : String} {af : Array Edge} {l : List (Addr × Value)}
theorem HB.ldO [hq : QPanic Q] {d : Nat} {t : TypeId} {x : Operand} {b off : Nat} {vs : List Value} {z : Value} {n bb : Nat} [hat : ATy P t true] [hit : ITy P t z n bb] (i : Nat) (ho : ol[i]? = some ⟨some d, .load t x, ty, pos, af, none⟩) (hx : Env.ev E x = some (.pointer (some ⟨b, off, none⟩))) (hn : vs.length = n)
  (hc : ∀ i v, vs[i]? = some v → ((⟨b, off + i, none⟩ : Addr), v) ∈ l)
  (h : HB l P N ds ol fuel (listed.setIfInBounds i true) Q ((d, .agg vs.toArray) :: E) w0 H)
  (hne : (match x with | .tmp t => !(Nat.beq t d) | _ => true) = true := by exact rfl)
  (hs : (Region.noSelect ol.toArray && Region.free .any ol.toArray listed i && (Region.ready .any ol.toArray listed).contains i) = true := by kernel_rfl)
  (hd : Nat.blt d N = true := by exact rfl) : HB l P N ds ol (fuel + 1) listed Q E w0 H := fun w hM a ha => by
 simp only [Bool.and_eq_true] at hs
 have ho' : ol.toArray[i]? = some ⟨some d, .load t x, ty, pos, af, none⟩ := by simpa using ho
 refine anyC_load (t := t) (x := x) rfl rfl (fun d' hd' e => ?_) ho' hs.1.1 hs.1.2 hs.2 (fun c a w => hq.is c a _ _ w) (fun a' ha' w' hC => ?_) (h w hM _ (ha.put hd (.agg vs.toArray)))
 ·cases hd'; subst e; simp at hne
 ·have h1 : a'.eval x = .pointer (some ⟨b, off, none⟩) := ha'.trans (ha.ev hx)
  have h2 : ∀ i v, vs[i]? = some v → w'.cell? ⟨b, off + i, none⟩ = some v := fun i v hv => hC _ (hc i v hv)
  simp only [execOp, h1, Instr.loadAt, Instr.sureAddr, loadVar, Sem.run_bind, Sem.run_pure]
  simp [run_isAgg, run_sizeOf, loadCells, run_loadCellsFrom P w' b off vs h2 n 0 #[] (by omega), Result.andThen, Sem.run_bind]
end
theorem Fn.shapedF {P : Program} {f : FuncId} {args : Array Value} {w : World} {n : Nat} {e : TypeId} {xs : List Value} (h : Fn P f args w fun u w' => ∃ z : Option Addr × Nat, True ∧ u = .slice z.1 n z.2 ∧ Mm w [A.grow e 1 z.1 z.2 n xs] w') :
  Fn P f args w fun u w' => ∃ z : Option Addr × Nat, (n = 0 ∨ ∃ b, z.1 = some ⟨b, 0, none⟩) ∧ u = .slice z.1 n z.2 ∧ Mm w [A.grow e 1 z.1 z.2 n xs] w' := h.mono fun u w' hh => by
 obtain ⟨z, -, h2, h3⟩ := hh
 obtain ⟨a, c, e1, e2⟩ := own_shape (h3.own (.head _))
 cases e1
 exact ⟨z, e2, h2, h3⟩
structure Cl where
 row : Int
 col : Int
 sum : Bool
 val : Int
 top : Int
 left : Int
def clC (c : Cl) : List Value := [zv c.row, zv c.col, .bool c.sum, zv c.val, zv c.top, zv c.left]
def lnC (l : ByteArray × Int) : List Value := [.string l.1, zv l.2]
theorem clC_one (c : Cl) : ∀ v ∈ clC c, v.oneCell' = true := by
 intro v hv
 simp only [clC, List.mem_cons, List.not_mem_nil, or_false] at hv
 rcases hv with rfl | rfl | rfl | rfl | rfl | rfl <;> rfl
structure ClOk (c : Cl) : Prop where
 row : 0 ≤ c.row ∧ c.row ≤ 31
 col : 0 ≤ c.col ∧ c.col ≤ 31
 sum : c.sum = true → c.val = 0 ∧ (0 ≤ c.top ∧ c.top ≤ c.row) ∧ (0 ≤ c.left ∧ c.left ≤ c.col)
 con : c.sum = false → (-1000000 ≤ c.val ∧ c.val ≤ 1000000) ∧ c.top = 0 ∧ c.left = 0
def notText (r : Nat) : Bool := decide ((r : Int) < 32) || decide ((r : Int) > 126)
structure LnOk (l : ByteArray × Int) : Prop where
 len : l.1.size ≤ 80
 text : Lib.idxFunc notText true l.1 = -1
 mark : 0 ≤ l.2 ∧ l.2 ≤ 7
attribute [local irreducible] WC WL WX POp Then Again Fn NX W1 WA WO QL RP RA Yld LoopAt HC HL HX HN H1 HA HO HQ HB HP A.blk A.grow A.rd A.obj A.mp AgainH CutH
attribute [local irreducible] A.mq A.mit
theorem cwithin_fn (n lo hi : Int) (w : World) : Fn Tryz.prog 83 #[zv n, zv lo, zv hi] w fun u w' => u = .bool (decide (lo ≤ n) && decide (n ≤ hi)) ∧ Ext w w' := by
 refine enterH (l := [_, _, _]) rfl Tryz.ntmps83 rfl ?_
 by_cases h1 : n ≥ lo
 ·have h1' : lo ≤ n := h1
  refine hwNB ?_
  exact HX.ret1 rfl rfl fun w' hM => ⟨by rw [decide_eq_true h1']; rfl, hM.ext⟩
 ·have h1' : ¬ lo ≤ n := h1
  refine hwNB ?_
  exact HX.ret1 rfl rfl fun w' hM => ⟨by rw [decide_eq_false h1']; rfl, hM.ext⟩
theorem cwithin_yes {n lo hi : Int} (h1 : lo ≤ n) (h2 : n ≤ hi) (w : World) : Fn Tryz.prog 83 #[zv n, zv lo, zv hi] w fun u w' => u = .bool true ∧ Ext w w' := (cwithin_fn n lo hi w).mono fun u w' h => ⟨by rw [h.1, decide_eq_true h1, decide_eq_true h2]; rfl, h.2⟩
theorem isOther_at (w : World) : PredAt Tryz.prog 149 #[] Go.Proofs.encR notText w := fun W r _ => by
 unfold FnGives
 by_cases h1 : (r : Int) < 32 <;> by_cases h2 : (r : Int) > 126
 all_goals
  go_enter Tryz.func149, Tryz.ntmps149
  go_wp2
  all_goals first | (exfalso; omega) | (go_ret; exact ⟨by simp [notText, h1, h2], 0, rfl⟩)
theorem sIndex_fn (s : ByteArray) (w : World) : Fn Tryz.prog 150 #[.string s, .func (.func 149) #[] #[]] w fun u w' => u = zv (Lib.idxFunc notText true s) ∧ Ext w w' := by
 have h : Calls Tryz.prog 150 #[.string s, .func (.func 149) #[] #[]] w _ := Any.strings_IndexFunc Tryz.idxP 149 #[] (enters_of Tryz.func149 (by kernel_rfl) rfl) notText s w (isOther_at w)
 unfold Fn
 refine Calls.mono h ?_
 rintro e w' ⟨h1, h2⟩
 exact ⟨_, h1, rfl, h2⟩
theorem isLine_fn (l : ByteArray × Int) (h : LnOk l) (w : World) : Fn Tryz.prog 79 #[.agg (lnC l).toArray] w fun u w' => u = .bool true ∧ Ext w w' := by
 obtain ⟨s, m⟩ := l
 have h1 := h.len
 have h2 := h.text
 have h3 := h.mark
 dsimp only at h1 h2 h3
 have h1' : ((s.size : Nat) : Int) ≤ 80 := by omega
 refine enterH (l := [_]) rfl Tryz.ntmps79 rfl ?_
 unfold lnC
 refine hwNB ?_
 refine HL.one (H1.boxAgg (cs := [.string s, zv m]) rfl rfl (fun b1 => ?_))
 refine hwNB ?_
 refine HL.one (H1.callx (vs := [_, _]) rfl rfl (fun w' _ => sIndex_fn s w') ?_)
 rw [h2]
 refine hwNB ?_
 refine HL.one (H1.callx (vs := [_, _, _]) rfl rfl (fun w' _ => cwithin_yes h3.1 h3.2 w') ?_)
 refine hwNB ?_
 exact HX.ret1 rfl rfl fun w' hM => ⟨rfl, hM.ext⟩
theorem isCell_fn (c : Cl) (h : ClOk c) (w : World) : Fn Tryz.prog 81 #[.agg (clC c).toArray] w fun u w' => u = .bool true ∧ Ext w w' := by
 obtain ⟨r, cc, sm, v, tp, lf⟩ := c
 have h1 := h.row
 have h2 := h.col
 have h3 := h.sum
 have h4 := h.con
 dsimp only at h1 h2 h3 h4
 refine enterH (l := [_]) rfl Tryz.ntmps81 rfl ?_
 unfold clC
 refine hwNB ?_
 refine HL.one (H1.boxAgg (cs := [zv r, zv cc, .bool sm, zv v, zv tp, zv lf]) rfl rfl (fun b1 => ?_))
 refine hwNB ?_
 refine HL.one (H1.callx (vs := [_, _, _]) rfl rfl (fun w' _ => cwithin_yes h1.1 h1.2 w') ?_)
 refine hwNB ?_
 refine HL.one (H1.callx (vs := [_, _, _]) rfl rfl (fun w' _ => cwithin_yes h2.1 h2.2 w') ?_)
 cases sm with
 | true =>
  obtain ⟨e1, e2, e3⟩ := h3 rfl
  refine hwNB ?_
  refine HL.one (H1.callx (vs := [_, _, _]) rfl rfl (fun w' _ => cwithin_yes e2.1 e2.2 w') ?_)
  refine hwNB ?_
  refine HL.one (H1.callx (vs := [_, _, _]) rfl rfl (fun w' _ => cwithin_yes e3.1 e3.2 w') ?_)
  refine hwNB ?_
  exact HX.ret1 rfl rfl fun w' hM => ⟨rfl, hM.ext⟩
 | false =>
  obtain ⟨e1, e2, e3⟩ := h4 rfl
  refine hwNB ?_
  refine HL.one (H1.callx (vs := [_, _, _]) rfl rfl (fun w' _ => cwithin_yes e1.1 e1.2 w') ?_)
  refine hwNB ?_
  exact HX.ret1 rfl rfl fun w' hM => ⟨by rw [decide_eq_true e3], hM.ext⟩
/- all: a predicate that holds everywhere -/
theorem allLn_fn {v : Value} {n : Nat} {L : Nat → ByteArray × Int} (hn1 : n ≤ 1000000) (hok : ∀ i, i < n → LnOk (L i)) (w : World) (hR : RdK w v n 2 fun i => lnC (L i)) :
  Fn Tryz.prog 78 #[v, .func (.func 79) #[] #[]] w fun u w' => u = .bool true ∧ Ext w w' := by
 refine enterH (l := [_, _]) rfl Tryz.ntmps78 rfl ?_
 refine hwNB ?_
 refine HL.one (H1.box rfl rfl rfl (fun b3 => ?_))
 refine hwNB ?_
 refine HL.one (H1.callx (u := .bool false) (vs := [v, .func (.func 148) #[] #[.pointer (some ⟨b3, 0, none⟩)]]) rfl rfl (fun w' hM => (contLn_fn (p := fun _ => false) hn1 (fun _ => rfl) w' (hR.ext hM.ext) ⟨_, [], [.pointer (some ⟨b3, 0, none⟩)], rfl, inferInstance, fun w2 hx i hi => ?_⟩).mono fun u w'' h => ⟨h.1.trans (by rw [anyN_no fun _ _ => rfl]), h.2⟩) ?_)
 ·have hc : w2.cell? ⟨b3, 0, none⟩ = some (.func (.func 79) #[] #[]) := cell_ext hx ((hM.blk (b := b3) memA).cell rfl)
  have hl := hok i hi
  refine enterH (l := [_, _]) rfl Tryz.ntmps148 rfl ?_
  dsimp only
  generalize L i = l at hl ⊢
  unfold lnC
  refine hwNB ?_
  refine HL.one (H1.boxAgg (cs := [.string l.1, zv l.2]) rfl rfl (fun b2 => ?_))
  refine hwNB ?_
  refine HL.one (H1.ld0 rfl hc rfl ?_)
  refine hwNB ?_
  refine HL.one (H1.ldAgg (vs := [.string l.1, zv l.2]) rfl memA rfl (fun i v hv => by rw [Nat.zero_add]; exact hv) rfl ?_)
  refine hwNB ?_
  refine HL.one (H1.callv0 (u := .bool true) (cap := []) (vs := [.agg (lnC l).toArray]) rfl rfl rfl (fun w' _ => isLine_fn l hl w') ?_)
  refine hwNB ?_
  exact HX.ret1 rfl rfl fun w' hM => ⟨rfl, hM.ext⟩
 refine hwNB ?_
 exact HX.ret1 rfl rfl fun w' hM => ⟨rfl, hM.ext⟩
theorem allCl_fn {v : Value} {n : Nat} {L : Nat → Cl} (hn1 : n ≤ 1000000) (hok : ∀ i, i < n → ClOk (L i)) (w : World) (hR : RdK w v n 6 fun i => clC (L i)) :
  Fn Tryz.prog 80 #[v, .func (.func 81) #[] #[]] w fun u w' => u = .bool true ∧ Ext w w' := by
 refine enterH (l := [_, _]) rfl Tryz.ntmps80 rfl ?_
 refine hwNB ?_
 refine HL.one (H1.box rfl rfl rfl (fun b3 => ?_))
 refine hwNB ?_
 refine HL.one (H1.callx (u := .bool false) (vs := [v, .func (.func 152) #[] #[.pointer (some ⟨b3, 0, none⟩)]]) rfl rfl (fun w' hM => (contCl_fn (p := fun _ => false) hn1 (fun _ => rfl) w' (hR.ext hM.ext) ⟨_, [], [.pointer (some ⟨b3, 0, none⟩)], rfl, inferInstance, fun w2 hx i hi => ?_⟩).mono fun u w'' h => ⟨h.1.trans (by rw [anyN_no fun _ _ => rfl]), h.2⟩) ?_)
 ·have hc : w2.cell? ⟨b3, 0, none⟩ = some (.func (.func 81) #[] #[]) := cell_ext hx ((hM.blk (b := b3) memA).cell rfl)
  have hl := hok i hi
  refine enterH (l := [_, _]) rfl Tryz.ntmps152 rfl ?_
  dsimp only
  generalize L i = l at hl ⊢
  unfold clC
  refine hwNB ?_
  refine HL.one (H1.boxAgg (cs := [zv l.row, zv l.col, .bool l.sum, zv l.val, zv l.top, zv l.left]) rfl rfl (fun b2 => ?_))
  refine hwNB ?_
  refine HL.one (H1.ld0 rfl hc rfl ?_)
  refine hwNB ?_
  refine HL.one (H1.ldAgg (vs := [zv l.row, zv l.col, .bool l.sum, zv l.val, zv l.top, zv l.left]) rfl memA rfl (fun i v hv => by rw [Nat.zero_add]; exact hv) rfl ?_)
  refine hwNB ?_
  refine HL.one (H1.callv0 (u := .bool true) (cap := []) (vs := [.agg (clC l).toArray]) rfl rfl rfl (fun w' _ => isCell_fn l hl w') ?_)
  refine hwNB ?_
  exact HX.ret1 rfl rfl fun w' hM => ⟨rfl, hM.ext⟩
 refine hwNB ?_
 exact HX.ret1 rfl rfl fun w' hM => ⟨rfl, hM.ext⟩
theorem trimE_fn (w : World) : Fn Tryz.prog 102 #[.string ⟨#[]⟩, .string ⟨#[48, 49]⟩] w fun u w' => u = .string ⟨#[]⟩ ∧ Ext w w' := by
 refine enterH (l := [_, _]) rfl Tryz.ntmps102 rfl ?_
 refine hwNB ?_
 exact HX.ret1 rfl rfl fun w' hM => ⟨rfl, hM.ext⟩
theorem qwA {G G2 : Prop} (x : G2) (hwq : Hold G2 → G := by
  intro hQq
  repeat' (first | refine HQ.pa ?_ | refine HQ.ga rfl ?_ | refine HQ.na rfl ?_ | refine HQ.nu rfl ?_ | refine HQ.ldb rfl memA rfl rfl ?_)
  exact hQq.get) : G := hwq ⟨x⟩
theorem isRaster0_fn (vl vc : Value) (h1 : vl.oneCell' = true) (h2 : vc.oneCell' = true) (w : World) : Fn Tryz.prog 82 #[.agg #[vl, vc, zv 0, .string ⟨#[]⟩]] w fun u w' => u = .bool true ∧ Ext w w' := by
 refine enterH (l := [_]) rfl Tryz.ntmps82 rfl ?_
 refine hwNB ?_
 refine HL.one (H1.boxAgg (cs := [vl, vc, zv 0, .string ⟨#[]⟩]) rfl rfl (fun b1 => ?_))
 refine hwNB ?_
 refine HL.one (H1.callx (vs := [_, _, _]) rfl rfl (fun w' _ => cwithin_yes (by decide) (by decide) w') ?_)
 refine hwNB ?_
 refine HL.one (H1.callx (vs := [_, _]) rfl rfl (fun w' _ => trimE_fn w') ?_)
 refine hwNB ?_
 refine HC.quietS [(some 15, [1], []), (some 16, [15], [0]), (some 17, [16], [1]), (some 18, [17], [2]), (some 19, [18], [3]), (some 20, [1, 19], [4]), (some 21, [20, 19], [5, 4]), (some 22, [21, 19], [6, 4]), (some 23, [22, 19], [7, 4]), (some 24, [19, 23], [4, 8]), (some 25, [24], [9, 4]), (some 26, [1, 25], [10]), (some 27, [26, 25], [11, 10]), (some 28, [27, 25], [12, 10]), (some 29, [28, 25], [13, 10]), (some 30, [29, 25], [14, 10, 10]), (some 31, [1, 30], [15]), (some 32, [31, 30], [16, 15]), (some 33, [32, 30], [17, 15]), (some 34, [33, 30], [18, 15]), (some 35, [1, 30], [15]), (some 36, [35, 30], [20, 15]), (some 37, [36, 30], [21, 15]), (some 38, [1, 30], [15]), (some 39, [38, 30], [23, 15, 15]), (some 40, [37, 39, 30], [22, 24, 15]), (some 41, [34, 40, 30], [19, 25, 15]), (some 42, [30, 41, 25], [15, 26, 10]), (some 43, [42, 25], [27, 24, 10]), (some 44, [1, 43], [28]), (some 45, [44, 43], [29, 28, 28]), (some 46, [45, 43], [30, 30, 28]), (some 47, [43, 46, 25], [28, 31, 10]), (some 48, [25, 47], [10, 32]), (some 2, [48], [33, 31, 0, 1, 2, 3, 4, 5, 6, 7, 8, 9, 10, 11, 12, 13, 14, 15, 16, 17, 18, 19, 20, 21, 22, 23, 24, 25, 26, 27, 28, 29, 30, 31, 32, 33])] (by kernel_rfl) (by kernel_rfl) (by kernel_rfl) ?_
 refine qwA ?_
 refine HQ.nil ?_
 refine hwNB ?_
 exact HX.ret1 rfl rfl fun w' hM => ⟨rfl, hM.ext⟩
def ClAsc (C : Nat → Cl) (n : Nat) : Prop := ∀ i, i + 1 < n → (C i).row < (C (i + 1)).row ∨ (C i).row = (C (i + 1)).row ∧ (C i).col < (C (i + 1)).col
set_option maxHeartbeats 4000000 in
theorem cvalid_fn {vl vc : Value} {nl nc : Nat} {L : Nat → ByteArray × Int} {C : Nat → Cl} (hnl : nl ≤ 64) (hnc : nc ≤ 64) (hL : ∀ i, i < nl → LnOk (L i)) (hC : ∀ i, i < nc → ClOk (C i)) (hA : ClAsc C nc) (w : World) (hRl : RdK w vl nl 2 fun i => lnC (L i)) (hRc : RdK w vc nc 6 fun i => clC (C i)) :
  Fn Tryz.prog 41 #[.agg #[vl, vc, zv 0, .string ⟨#[]⟩]] w fun u w' => u = .bool true ∧ Ext w w' := by
 obtain ⟨al, cl, rfl, -, -⟩ := id hRl
 obtain ⟨ac, cc, rfl, -, -⟩ := id hRc
 refine enterH (l := [_]) rfl Tryz.ntmps41 rfl ?_
 refine hwNB ?_
 refine HL.one (H1.boxAgg (cs := [.slice al nl cl, .slice ac nc cc, zv 0, .string ⟨#[]⟩]) rfl rfl (fun b1 => ?_))
 refine hwNB ?_
 refine HC.loop (α := Nat) (fun k => [(1, .pointer (some ⟨b1, 0, none⟩)), (3, .bool true), (4, zv ((k + 1 : Nat) : Int))]) (fun _ => [A.blk b1 [.slice al nl cl, .slice ac nc cc, zv 0, .string ⟨#[]⟩] 54]) (fun k => k = 0 ∨ k + 1 ≤ nc) (fun k => nc - k) 0 (.inl rfl) esA (by repeat (first | exact Hs.nil _ | (refine Hs.cons pickA ?_))) ?_
 intro k hk
 by_cases hlt : k + 1 < nc
 ·have hn : ((k + 1 : Nat) : Int) < (nc : Int) := by omega
  obtain ⟨bc, offc, rfl, hb⟩ := hRc.cell (show k < nc by omega)
  have hx := hb k (by omega)
  have hy := hb (k + 1) (by omega)
  have hak := hA k hlt
  clear hb
  generalize C k = x at hx hak
  generalize C (k + 1) = y at hy hak
  have hn1 : ((k + 1 : Nat) : Int) - 1 < (nc : Int) := by omega
  refine hnNC ?_
  refine HC.cut (α := Nat × Nat) (fun q => [(1, .pointer (some ⟨b1, 0, none⟩)), (3, .bool true), (4, zv ((k + 1 : Nat) : Int)), (5, .pointer (some ⟨q.1, 0, none⟩)), (6, .pointer (some ⟨q.2, 0, none⟩))]) (fun q => [A.blk b1 [.slice al nl cl, .slice (some ⟨bc, offc, none⟩) nc cc, zv 0, .string ⟨#[]⟩] 54, A.blk q.1 (clC x) 51, A.blk q.2 (clC y) 51]) (fun _ => True) ?_ ?_
  ·refine HC.anyC ((⟨b1, 1, none⟩, .slice (some ⟨bc, offc, none⟩) nc cc) :: (cellsO bc (offc + k * 6) (clC x) ++ (cellsO bc (offc + (k + 1) * 6) (clC y) ++ []))) rfl ?_
   refine HB.pa 0 rfl ?_
   refine HB.ld 1 rfl rfl memD ?_
   refine HB.pa 2 rfl ?_
   refine HB.pa 3 rfl ?_ ((POp.sub rfl rfl (by omega) (by omega)).of (congrArg zv (show ((k + 1 : Nat) : Int) - 1 = ((k : Nat) : Int) by omega)))
   refine HB.pa 4 rfl ?_
   refine HB.ldO (b := bc) (off := offc + k * 6) (vs := clC x) 5 rfl rfl rfl (fun i v hv => .tail _ (cellsOL (cellsO_mem hv))) ?_
   refine HB.pa 6 rfl ?_
   refine HB.ld 7 rfl rfl memD ?_
   refine HB.pa 8 rfl ?_
   refine HB.pa 9 rfl ?_
   refine HB.ldO (b := bc) (off := offc + (k + 1) * 6) (vs := clC y) 10 rfl rfl rfl (fun i v hv => .tail _ (cellsOR (cellsOL (cellsO_mem hv)))) ?_
   refine HB.all (by (exact Keep.blk (b := b1) memD rfl (Keep.baseO hx (Keep.baseO hy Keep.nil)))) [11, 12] (by kernel_rfl) rfl ⟨⟨_, rfl, ?_⟩, ⟨_, rfl, ?_⟩, trivial⟩
   ·refine HP.one ?_
    refine H1.alloc (cs := [zv 0, zv 0, .bool false, zv 0, zv 0, zv 0]) rfl rfl (fun b5 => ?_)
    apply HB.fold
    refine HB.all (by (exact Keep.blk (b := b1) memD rfl (Keep.baseO hx (Keep.baseO hy Keep.nil)))) [12] (by kernel_rfl) rfl ⟨⟨_, rfl, ?_⟩, trivial⟩
    refine HP.one ?_
    refine H1.alloc (cs := [zv 0, zv 0, .bool false, zv 0, zv 0, zv 0]) rfl rfl (fun b6 => ?_)
    apply HB.fold
    refine HB.all (by (exact Keep.blk (b := b1) memD rfl (Keep.baseO hx (Keep.baseO hy Keep.nil)))) [13] (by kernel_rfl) rfl ⟨⟨_, rfl, ?_⟩, trivial⟩
    refine HP.one ?_
    refine H1.stAgg (b := b5) (cs := [zv 0, zv 0, .bool false, zv 0, zv 0, zv 0]) (vs := clC x) rfl rfl rfl (clC_one x) rplA rfl ?_
    apply HB.fold
    refine HB.all (by (exact Keep.blk (b := b1) memD rfl (Keep.baseO hx (Keep.baseO hy Keep.nil)))) [14] (by kernel_rfl) rfl ⟨⟨_, rfl, ?_⟩, trivial⟩
    refine HP.one ?_
    refine H1.stAgg (b := b6) (cs := [zv 0, zv 0, .bool false, zv 0, zv 0, zv 0]) (vs := clC y) rfl rfl rfl (clC_one y) rplA rfl ?_
    apply HB.fold
    refine HB.done (by (exact Keep.blk (b := b1) memD rfl (Keep.baseO hx (Keep.baseO hy Keep.nil)))) (by kernel_rfl) ?_
    exact HX.cut (b5, b6) trivial esA (by repeat (first | exact Hs.nil _ | (refine Hs.cons pickA ?_)))
   ·refine HP.one ?_
    refine H1.alloc (cs := [zv 0, zv 0, .bool false, zv 0, zv 0, zv 0]) rfl rfl (fun b6 => ?_)
    apply HB.fold
    refine HB.all (by (exact Keep.blk (b := b1) memD rfl (Keep.baseO hx (Keep.baseO hy Keep.nil)))) [11] (by kernel_rfl) rfl ⟨⟨_, rfl, ?_⟩, trivial⟩
    refine HP.one ?_
    refine H1.alloc (cs := [zv 0, zv 0, .bool false, zv 0, zv 0, zv 0]) rfl rfl (fun b5 => ?_)
    apply HB.fold
    refine HB.all (by (exact Keep.blk (b := b1) memD rfl (Keep.baseO hx (Keep.baseO hy Keep.nil)))) [13] (by kernel_rfl) rfl ⟨⟨_, rfl, ?_⟩, trivial⟩
    refine HP.one ?_
    refine H1.stAgg (b := b5) (cs := [zv 0, zv 0, .bool false, zv 0, zv 0, zv 0]) (vs := clC x) rfl rfl rfl (clC_one x) rplA rfl ?_
    apply HB.fold
    refine HB.all (by (exact Keep.blk (b := b1) memD rfl (Keep.baseO hx (Keep.baseO hy Keep.nil)))) [14] (by kernel_rfl) rfl ⟨⟨_, rfl, ?_⟩, trivial⟩
    refine HP.one ?_
    refine H1.stAgg (b := b6) (cs := [zv 0, zv 0, .bool false, zv 0, zv 0, zv 0]) (vs := clC y) rfl rfl rfl (clC_one y) rplA rfl ?_
    apply HB.fold
    refine HB.done (by (exact Keep.blk (b := b1) memD rfl (Keep.baseO hx (Keep.baseO hy Keep.nil)))) (by kernel_rfl) ?_
    exact HX.cut (b5, b6) trivial esA (by repeat (first | exact Hs.nil _ | (refine Hs.cons pickA ?_)))
  rintro ⟨b5, b6⟩ -
  dsimp only
  unfold clC
  rcases hak with h1 | ⟨h1, h2⟩
  ·refine hwNB ?_
   exact HX.again (k + 1) (.inr (by omega)) (by show nc - (k + 1) < nc - k; omega) esA (by repeat (first | exact Hs.nil _ | (refine Hs.cons pickA ?_)))
  ·have h1' : ¬ x.row < y.row := by omega
   refine hwNB ?_
   exact HX.again (k + 1) (.inr (by omega)) (by show nc - (k + 1) < nc - k; omega) (by refine ⟨rfl, ?_, rfl, trivial⟩; show some (Value.bool (decide (x.col < y.col))) = _; rw [decide_eq_true h2]) (by repeat (first | exact Hs.nil _ | (refine Hs.cons pickA ?_)))
 have hn : ¬ ((k + 1 : Nat) : Int) < (nc : Int) := by omega
 have p1 : ((nl : Nat) : Int) ≤ 64 := by omega
 have p2 : ((nc : Nat) : Int) ≤ 64 := by omega
 refine hwNB ?_
 refine HL.one (H1.callx (vs := [_, _]) rfl rfl (fun w' hM => allLn_fn (by omega) hL w' (hRl.ext hM.ext)) ?_)
 refine hwNB ?_
 refine HL.one (H1.callx (vs := [_, _]) rfl rfl (fun w' hM => allCl_fn (by omega) hC w' (hRc.ext hM.ext)) ?_)
 refine hwNB ?_
 refine HL.one (H1.ldAgg (b := b1) (vs := [.slice al nl cl, .slice ac nc cc, zv 0, .string ⟨#[]⟩]) rfl memA rfl (fun i v hv => by rw [Nat.zero_add]; exact hv) rfl ?_)
 refine hwNB ?_
 refine HL.build (cs := [.slice al nl cl, .slice ac nc cc, zv 0, .string ⟨#[]⟩]) rfl rfl rfl ?_
 refine hwNB ?_
 refine HL.one (H1.callx (vs := [_]) rfl rfl (fun w' _ => isRaster0_fn (.slice al nl cl) (.slice ac nc cc) rfl rfl w') ?_)
 refine hwNB ?_
 exact HX.ret1 rfl rfl fun w' hM => ⟨rfl, hM.ext⟩
end Go.Sx
/- content.Value at the fixed example of the top laws: the walk. -/
namespace Go.Sx
open Go Go.Proofs Go.RowKit
def xpC (i : Nat) : Cl := if i = 0 then ⟨0, 0, false, 5, 0, 0⟩ else if i = 1 then ⟨0, 1, false, 7, 0, 0⟩ else ⟨1, 1, true, 0, 0, 0⟩
def xpAb : ByteArray := ⟨#[65, 98]⟩
def xpL (_ : Nat) : ByteArray × Int := (xpAb, 2)
theorem xpAb_text : Lib.idxFunc notText true xpAb = -1 := by decide +kernel
theorem xpL_ok (i : Nat) : LnOk (xpL i) := ⟨by show 2 ≤ 80; decide, xpAb_text, by show (0 : Int) ≤ 2 ∧ (2 : Int) ≤ 7; decide⟩
theorem xpC_ok (i : Nat) : ClOk (xpC i) := by
 unfold xpC
 by_cases h0 : i = 0
 ·rw [if_pos h0]
  exact ⟨by decide, by decide, fun h => (by cases h), fun _ => by decide⟩
 ·rw [if_neg h0]
  by_cases h1 : i = 1
  ·rw [if_pos h1]
   exact ⟨by decide, by decide, fun h => (by cases h), fun _ => by decide⟩
  ·rw [if_neg h1]
   exact ⟨by decide, by decide, fun _ => by decide, fun h => (by cases h)⟩
theorem xpC_asc : ClAsc xpC 3 := fun i hi => by
 match i, hi with
 | 0, _ => exact .inr ⟨rfl, by decide⟩
 | 1, _ => exact .inl (by decide)
 | n + 2, h => omega
def xpV : List Int := [5, 7, 12]
attribute [local irreducible] WC WL WX POp Then Again Fn NX W1 WA WO QL RP RA Yld LoopAt HC HL HX HN H1 HA HO HQ HB HP A.blk A.grow A.rd A.obj A.mp AgainH CutH
attribute [local irreducible] A.mq A.mit
theorem value1_fn (x : Cl) (b4 b5 : Nat) (r c : Int) (w : World) (h4 : w.cell? ⟨b4, 0, none⟩ = some (zv r)) (h5 : w.cell? ⟨b5, 0, none⟩ = some (zv c)) :
  Fn Tryz.prog 40 #[.agg (clC x).toArray, .pointer (some ⟨b4, 0, none⟩), .pointer (some ⟨b5, 0, none⟩)] w fun u w' => u = .bool (decide (x.row = r) && decide (x.col = c)) ∧ Ext w w' := by
 refine enterH (l := [_, _, _]) rfl Tryz.ntmps40 rfl ?_
 unfold clC
 refine hwNB ?_
 refine HL.one (H1.boxAgg (cs := [zv x.row, zv x.col, .bool x.sum, zv x.val, zv x.top, zv x.left]) rfl rfl (fun b3 => ?_))
 refine hwNB ?_
 refine HL.one (H1.ld0 rfl h4 rfl ?_)
 by_cases h : x.row = r
 ·refine hwNB ?_
  refine HL.one (H1.ld0 rfl h5 rfl ?_)
  refine hwNB ?_
  exact HX.ret1 rfl rfl fun w' hM => ⟨by rw [decide_eq_true h]; rfl, hM.ext⟩
 ·refine hwNB ?_
  exact HX.ret1 rfl rfl fun w' hM => ⟨by rw [decide_eq_false h]; rfl, hM.ext⟩
set_option maxHeartbeats 4000000 in
theorem values_fn (vl vc : Value) (hl1 : vl.oneCell' = true) (w : World) (hR : RdK w vc 3 6 fun i => clC (xpC i)) :
  Fn Tryz.prog 42 #[.agg #[vl, vc, zv 0, .string ⟨#[]⟩]] w fun u w' => ∃ z : Option Addr × Nat, True ∧ u = .slice z.1 3 z.2 ∧ Mm w [A.grow 3 1 z.1 z.2 3 (ints xpV)] w' := by
 obtain ⟨ac, cc, rfl, hcc, -⟩ := id hR
 obtain ⟨bc, offc, rfl, hb⟩ := hR.cell (show 0 < 3 by decide)
 refine enterH (l := [_]) rfl Tryz.ntmps42 rfl ?_
 refine hwNB ?_
 refine HL.one (H1.boxAgg (cs := [vl, .slice (some ⟨bc, offc, none⟩) 3 cc, zv 0, .string ⟨#[]⟩]) rfl rfl (fun b1 => ?_))
 refine hwNB ?_
 refine HC.grow0 3 1 ?_
 refine HC.loop (α := Nat × Option Addr × Nat) (fun q => [(1, .pointer (some ⟨b1, 0, none⟩)), (3, .slice q.2.1 q.1 q.2.2), (11, .slice (some ⟨bc, offc, none⟩) 3 cc), (12, zv 3), (13, zv (q.1 : Int))]) (fun q => [A.grow 3 1 q.2.1 q.2.2 q.1 (ints (xpV.take q.1)), A.blk b1 [vl, .slice (some ⟨bc, offc, none⟩) 3 cc, zv 0, .string ⟨#[]⟩] 97]) (fun q => q.1 ≤ 3 ∧ (0 < q.1 → ∃ b, q.2.1 = some ⟨b, 0, none⟩)) (fun q => 3 - q.1) (0, none, 0) ⟨Nat.zero_le _, fun h => absurd h (Nat.lt_irrefl _)⟩ esA (by repeat (first | exact Hs.nil _ | (refine Hs.cons pickA ?_))) ?_
 rintro ⟨k, a, c⟩ ⟨hk, hka⟩
 dsimp only at hk hka ⊢
 by_cases hlt : k < 3
 rotate_left
 ·have hn : ¬ ((k : Nat) : Int) < 3 := by omega
  obtain rfl : k = 3 := by omega
  refine hwNB ?_
  exact HX.ret1 rfl rfl fun w' hM => ⟨(a, c), trivial, rfl, hM.sub (by repeat (first | exact Hs.nil _ | (refine Hs.cons pickA ?_)))⟩
 have hn : ((k : Nat) : Int) < 3 := by omega
 have hx := hb k hlt
 by_cases hk2 : k = 2
 ·subst hk2
  obtain ⟨ba, rfl⟩ := hka (by decide)
  have hex : xpC 2 = ⟨1, 1, true, 0, 0, 0⟩ := rfl
  rw [hex] at hx
  refine hwNB ?_
  refine HL.one (H1.ldAggw (b := bc) (off := offc + 2 * 6) (vs := clC ⟨1, 1, true, 0, 0, 0⟩) rfl rfl (fun w' hM i u hu => cell_ext hM.ext (hx i u hu)) rfl ?_)
  refine hwNB ?_
  refine HL.one (H1.alloc (cs := [zv 0, zv 0, .bool false, zv 0, zv 0, zv 0]) rfl rfl (fun b5 => ?_))
  refine hwNB ?_
  refine HL.one (H1.stAgg (b := b5) (cs := [zv 0, zv 0, .bool false, zv 0, zv 0, zv 0]) (vs := clC ⟨1, 1, true, 0, 0, 0⟩) rfl rfl rfl (clC_one _) rplA rfl ?_)
  unfold clC
  refine hwNB ?_
  refine HC.loop (α := Nat) (fun j => [(1, .pointer (some ⟨b1, 0, none⟩)), (3, .slice (some ⟨ba, 0, none⟩) 2 c), (4, zv 2), (5, .pointer (some ⟨b5, 0, none⟩)), (6, zv (if j = 0 then 0 else if j = 1 then 5 else 12)), (11, .slice (some ⟨bc, offc, none⟩) 3 cc), (12, zv 3), (13, zv 2), (26, .slice (some ⟨bc, offc, none⟩) 2 cc), (27, zv 2), (28, zv (j : Int))]) (fun _ => [A.blk b5 [zv 1, zv 1, .bool true, zv 0, zv 0, zv 0] 51, A.grow 3 1 (some ⟨ba, 0, none⟩) c 2 (ints (xpV.take 2)), A.blk b1 [vl, .slice (some ⟨bc, offc, none⟩) 3 cc, zv 0, .string ⟨#[]⟩] 97]) (fun j => j ≤ 2) (fun j => 2 - j) 0 (Nat.zero_le _) esA (by repeat (first | exact Hs.nil _ | (refine Hs.cons pickA ?_))) ?_
  intro j hj
  match j, hj with
  | 0, _ =>
   have hy := hb 0 (by decide)
   have hey : xpC 0 = ⟨0, 0, false, 5, 0, 0⟩ := rfl
   rw [hey] at hy
   refine hwNB ?_
   refine HL.one (H1.ldAggw (b := bc) (off := offc + 0 * 6) (vs := clC ⟨0, 0, false, 5, 0, 0⟩) rfl rfl (fun w' hM i u hu => cell_ext hM.ext (hy i u hu)) rfl ?_)
   refine hwNB ?_
   refine HL.one (H1.alloc (cs := [zv 0, zv 0, .bool false, zv 0, zv 0, zv 0]) rfl rfl (fun b8 => ?_))
   refine hwNB ?_
   refine HL.one (H1.stAgg (b := b8) (cs := [zv 0, zv 0, .bool false, zv 0, zv 0, zv 0]) (vs := clC ⟨0, 0, false, 5, 0, 0⟩) rfl rfl rfl (clC_one _) rplA rfl ?_)
   unfold clC
   refine hwNB ?_
   refine HL.one (H1.callx (vs := [_, _, _]) rfl rfl (fun w' _ => cwithin_yes (by decide) (by decide) w') ?_)
   refine hwNB ?_
   refine HL.one (H1.callx (vs := [_, _, _]) rfl rfl (fun w' _ => cwithin_yes (by decide) (by decide) w') ?_)
   refine hwNB ?_
   refine HL.one (H1.ldg (b := ba) (c := c) (n := 2) (vs := ints (xpV.take 2)) (v := zv 5) rfl memA rfl rfl ?_)
   refine hwNB ?_
   exact HX.again 1 (by decide) (by decide) esA (by repeat (first | exact Hs.nil _ | (refine Hs.cons pickA ?_)))
  | 1, _ =>
   have hy := hb 1 (by decide)
   have hey : xpC 1 = ⟨0, 1, false, 7, 0, 0⟩ := rfl
   rw [hey] at hy
   refine hwNB ?_
   refine HL.one (H1.ldAggw (b := bc) (off := offc + 1 * 6) (vs := clC ⟨0, 1, false, 7, 0, 0⟩) rfl rfl (fun w' hM i u hu => cell_ext hM.ext (hy i u hu)) rfl ?_)
   refine hwNB ?_
   refine HL.one (H1.alloc (cs := [zv 0, zv 0, .bool false, zv 0, zv 0, zv 0]) rfl rfl (fun b8 => ?_))
   refine hwNB ?_
   refine HL.one (H1.stAgg (b := b8) (cs := [zv 0, zv 0, .bool false, zv 0, zv 0, zv 0]) (vs := clC ⟨0, 1, false, 7, 0, 0⟩) rfl rfl rfl (clC_one _) rplA rfl ?_)
   unfold clC
   refine hwNB ?_
   refine HL.one (H1.callx (vs := [_, _, _]) rfl rfl (fun w' _ => cwithin_yes (by decide) (by decide) w') ?_)
   refine hwNB ?_
   refine HL.one (H1.callx (vs := [_, _, _]) rfl rfl (fun w' _ => cwithin_yes (by decide) (by decide) w') ?_)
   refine hwNB ?_
   refine HL.one (H1.ldg (b := ba) (c := c) (n := 2) (vs := ints (xpV.take 2)) (v := zv 7) rfl memA rfl rfl ?_)
   refine hwNB ?_
   exact HX.again 2 (by decide) (by decide) esA (by repeat (first | exact Hs.nil _ | (refine Hs.cons pickA ?_)))
  | 2, _ =>
   refine hwNB ?_
   refine HL.one (H1.lit (cs := [zv 12]) rfl rfl rfl rfl rfl rfl (fun b8 => ?_))
   refine hwNB ?_
   refine HL.one (H1.app1 (u := zv 12) rfl rfl (fun _ _ => by first | ((repeat (first | with_reducible exact Rpl.here | with_reducible apply Rpl.there)); done) | (repeat (first | exact Rpl.here | apply Rpl.there))) memA rfl rfl (by decide) rfl rfl (fun a2 c2 => ?_))
   refine hwNB ?_
   exact HX.again (3, some ⟨a2, 0, none⟩, c2) ⟨Nat.le_refl _, fun _ => ⟨a2, rfl⟩⟩ (by show 3 - 3 < 3 - 2; decide) esA (by repeat (first | exact Hs.nil _ | (refine Hs.cons pickA ?_)))
  | n + 3, h => omega
 ·obtain ⟨v, hv, hx2⟩ : ∃ v : Int, (v = 5 ∧ k = 0 ∨ v = 7 ∧ k = 1) ∧ ∃ cl, xpC k = ⟨0, cl, false, v, 0, 0⟩ := by
   match k, hlt with
   | 0, _ => exact ⟨5, .inl ⟨rfl, rfl⟩, 0, rfl⟩
   | 1, _ => exact ⟨7, .inr ⟨rfl, rfl⟩, 1, rfl⟩
   | 2, _ => exact absurd rfl hk2
   | n + 3, h => omega
  obtain ⟨cl, hx2⟩ := hx2
  rw [hx2] at hx
  have happ : ints (xpV.take k) ++ [zv v] = ints (xpV.take (k + 1)) := by
   rcases hv with ⟨rfl, rfl⟩ | ⟨rfl, rfl⟩ <;> rfl
  have hmm : min (max v (-1000000000000)) 1000000000000 = v := by omega
  refine hwNB ?_
  refine HL.one (H1.ldAggw (b := bc) (off := offc + k * 6) (vs := clC ⟨0, cl, false, v, 0, 0⟩) rfl rfl (fun w' hM i u hu => cell_ext hM.ext (hx i u hu)) rfl ?_)
  refine hwNB ?_
  refine HL.one (H1.alloc (cs := [zv 0, zv 0, .bool false, zv 0, zv 0, zv 0]) rfl rfl (fun b5 => ?_))
  refine hwNB ?_
  refine HL.one (H1.stAgg (b := b5) (cs := [zv 0, zv 0, .bool false, zv 0, zv 0, zv 0]) (vs := clC ⟨0, cl, false, v, 0, 0⟩) rfl rfl rfl (clC_one _) rplA rfl ?_)
  unfold clC
  refine hwNB ?_
  rw [hmm]
  refine HL.one (H1.lit (cs := [zv v]) rfl rfl rfl rfl rfl rfl (fun b8 => ?_))
  refine hwNB ?_
  refine HL.one (H1.app1 (u := zv v) rfl rfl (fun _ _ => by first | ((repeat (first | with_reducible exact Rpl.here | with_reducible apply Rpl.there)); done) | (repeat (first | exact Rpl.here | apply Rpl.there))) memA rfl rfl (by omega) rfl rfl (fun a2 c2 => ?_))
  rw [happ]
  refine hwNB ?_
  exact HX.again (k + 1, some ⟨a2, 0, none⟩, c2) ⟨hlt, fun _ => ⟨a2, rfl⟩⟩ (by show 3 - (k + 1) < 3 - k; omega) esA (by repeat (first | exact Hs.nil _ | (refine Hs.cons pickA ?_)))
set_option maxHeartbeats 2000000 in
theorem cvalue_fn (vl vc : Value) (w : World) (hRl : RdK w vl 1 2 fun i => lnC (xpL i)) (hRc : RdK w vc 3 6 fun i => clC (xpC i)) :
  Fn Tryz.prog 11 #[.agg #[vl, vc, zv 0, .string ⟨#[]⟩], zv 1, zv 1] w fun u w' => u = .tuple #[zv 12, .bool true] ∧ Ext w w' := by
 obtain ⟨al, cl, rfl, -, -⟩ := id hRl
 obtain ⟨ac, cc, rfl, -, -⟩ := id hRc
 refine enterH (l := [_, _, _]) rfl Tryz.ntmps11 rfl ?_
 refine hwNB ?_
 refine HL.one (H1.boxAgg (cs := [.slice al 1 cl, .slice ac 3 cc, zv 0, .string ⟨#[]⟩]) rfl rfl (fun b3 => ?_))
 refine hwNB ?_
 refine HL.one (H1.box rfl rfl rfl (fun b4 => ?_))
 refine hwNB ?_
 refine HL.one (H1.box rfl rfl rfl (fun b5 => ?_))
 refine hwNB ?_
 refine HL.one (H1.callx (u := zv 2) (vs := [.slice ac 3 cc, .func (.func 40) #[] #[.pointer (some ⟨b4, 0, none⟩), .pointer (some ⟨b5, 0, none⟩)]]) rfl rfl (fun w' hM => (indexCl_fn (p := fun i => decide ((xpC i).row = 1) && decide ((xpC i).col = 1)) (by decide) (fun _ => rfl) w' (hRc.ext hM.ext) ⟨_, [], [.pointer (some ⟨b4, 0, none⟩), .pointer (some ⟨b5, 0, none⟩)], rfl, inferInstance, fun w2 hx i _ => value1_fn (xpC i) b4 b5 1 1 w2 (cell_ext hx ((hM.blk (b := b4) (cs := [zv 1]) memA).cell (i := 0) rfl)) (cell_ext hx ((hM.blk (b := b5) (cs := [zv 1]) memA).cell (i := 0) rfl))⟩).mono fun u w'' h => by
  obtain ⟨k, h1, h2, h3⟩ := h
  refine ⟨?_, h3⟩
  rw [h2]
  rcases h1 with ⟨-, h1⟩ | ⟨j, rfl, hj, h4, h5⟩
  ·have := h1 2 (by decide); cases this
  ·match j, hj with
   | 0, _ => cases h5
   | 1, _ => cases h5
   | 2, _ => rfl
   | n + 3, h => omega) ?_)
 refine hwNB ?_
 refine HL.one (H1.ldAgg (b := b3) (vs := [.slice al 1 cl, .slice ac 3 cc, zv 0, .string ⟨#[]⟩]) rfl memA rfl (fun i v hv => by rw [Nat.zero_add]; exact hv) rfl ?_)
 refine hwNB ?_
 refine HL.one (H1.callx (vs := [_]) rfl rfl (fun w' hM => cvalid_fn (by decide) (by decide) (fun i _ => xpL_ok i) (fun i _ => xpC_ok i) xpC_asc w' (hRl.ext hM.ext) (hRc.ext hM.ext)) ?_)
 refine hwNB ?_
 refine HL.one (H1.ldAgg (b := b3) (vs := [.slice al 1 cl, .slice ac 3 cc, zv 0, .string ⟨#[]⟩]) rfl memA rfl (fun i v hv => by rw [Nat.zero_add]; exact hv) rfl ?_)
 refine hwNB ?_
 refine HL.build (cs := [.slice al 1 cl, .slice ac 3 cc, zv 0, .string ⟨#[]⟩]) rfl rfl rfl ?_
 refine hwNB ?_
 refine HL.one (H1.callz (vs := [_]) rfl rfl (fun w' hM => (values_fn (.slice al 1 cl) (.slice ac 3 cc) rfl w' (hRc.ext hM.ext)).shapedF) ?_)
 rintro ⟨az, cz⟩ hz
 dsimp only at hz ⊢
 obtain ⟨bz, rfl⟩ := hz.resolve_left (by decide)
 refine hwNB ?_
 refine HL.one (H1.ldg (b := bz) (c := cz) (n := 3) (vs := ints xpV) (v := zv 12) rfl memA rfl rfl ?_)
 refine hwNB ?_
 exact HX.ret2 rfl rfl rfl fun w' hM => ⟨rfl, hM.ext⟩
end Go.Sx
/- Plain, chapter 20: records, which of them are valid, how they are encoded. -/
namespace Go.Sx
open Go
def vint (z : Nat) : List UInt8 := if h : z < 128 then [UInt8.ofNat z] else UInt8.ofNat (z % 128 + 128) :: vint (z / 128)
termination_by z
decreasing_by omega
theorem vint_lt {z : Nat} (h : z < 128) : vint z = [UInt8.ofNat z] := by rw [vint, dif_pos h]
theorem vint_ge {z : Nat} (h : ¬ z < 128) : vint z = UInt8.ofNat (z % 128 + 128) :: vint (z / 128) := by rw [vint, dif_neg h]
theorem u8_inj {a b : Nat} (ha : a < 256) (hb : b < 256) (h : UInt8.ofNat a = UInt8.ofNat b) : a = b := by
 have := congrArg UInt8.toNat h
 simp only [UInt8.toNat_ofNat'] at this
 omega
theorem vint_inj : ∀ (n a b : Nat), a ≤ n → ∀ {x y : List UInt8}, vint a ++ x = vint b ++ y → a = b ∧ x = y
 | n, a, b, hn, x, y, h => by
  by_cases ha : a < 128
  ·rw [vint_lt ha] at h
   by_cases hb : b < 128
   ·rw [vint_lt hb] at h
    simp only [List.cons_append, List.nil_append, List.cons.injEq] at h
    exact ⟨u8_inj (by omega) (by omega) h.1, h.2⟩
   ·rw [vint_ge hb] at h
    simp only [List.cons_append, List.nil_append, List.cons.injEq] at h
    have := u8_inj (by omega) (by omega) h.1
    omega
  ·rw [vint_ge ha] at h
   by_cases hb : b < 128
   ·rw [vint_lt hb] at h
    simp only [List.cons_append, List.nil_append, List.cons.injEq] at h
    have := u8_inj (by omega) (by omega) h.1
    omega
   ·rw [vint_ge hb] at h
    simp only [List.cons_append, List.cons.injEq] at h
    have h1 := u8_inj (by omega) (by omega) h.1
    match n, hn with
    | 0, hn => omega
    | n + 1, hn =>
     have h2 := vint_inj n (a / 128) (b / 128) (by omega) h.2
     exact ⟨by omega, h2.2⟩
def putN (n : Nat) : List UInt8 := vint (2 * n)
theorem putN_inj {a b : Nat} {x y : List UInt8} (h : putN a ++ x = putN b ++ y) : a = b ∧ x = y := by
 have := vint_inj (2 * a) _ _ (Nat.le_refl _) h
 exact ⟨by omega, this.2⟩
structure Rc where
 kind : Int
 id : Int
 version : Int
 day : Int
 gone : Bool
 start : Int
 stop : Int
 pack : Int
 person : Int
 role : Int
 purpose : Int
 clause : Int
 adm : Bool
 party : Int
 text : ByteArray
def b01 (b : Bool) : Int := if b = true then 1 else 0
def Rc.get (r : Rc) : Nat → Int
 | 0 => r.id
 | 1 => r.start
 | 2 => r.stop
 | 3 => r.pack
 | 4 => r.person
 | 5 => r.role
 | 6 => r.purpose
 | 7 => r.clause
 | 8 => b01 r.adm
 | 9 => r.party
 | _ => 0
def specF (k : Int) : List (Nat × Int × Int) :=
 if k = 1 then [(0, 1, 1000000), (1, 0, 100000), (2, 0, 100000), (4, 1, 1000000), (5, 1, 1000000)]
 else if k = 2 then [(7, 1, 1000000), (1, 0, 100000), (2, 0, 100000), (3, 0, 1000000), (5, 0, 1000000), (6, 0, 1000000), (8, 0, 1), (9, 0, 1000000)]
 else if k = 3 then [(0, 1, 1000000), (1, 0, 100000), (2, 0, 100000), (3, 1, 1000000), (6, 0, 1000000), (9, 1, 1000000)]
 else if k = 4 then [(0, 1, 1000000), (1, 0, 100000), (2, 0, 100000), (3, 1, 1000000)]
 else if k = 5 then [(0, 1, 1000000), (1, 0, 100000), (2, 0, 100000), (3, 0, 1000000)]
 else if k = 6 then [(9, 1, 1000000), (1, 0, 100000)]
 else if k = 7 then [(0, 1, 1000000), (1, 0, 100000), (2, 0, 100000), (3, 1, 1000000), (6, 0, 1000000), (7, 0, 63)]
 else if k = 8 then [(0, 1, 1000000), (1, 0, 100000), (3, 1, 1000000), (7, 1, 1000000)]
 else []
def keyF (k : Int) : Nat := if k = 2 then 7 else if k = 6 then 9 else 0
def restP (r : Rc) : Prop := (r.kind ≠ 6 → r.kind ≠ 8 → r.start ≤ r.stop) ∧ (r.kind = 2 → r.clause ≠ r.party)
structure ValidR (r : Rc) : Prop where
 kind : 1 ≤ r.kind ∧ r.kind ≤ 8
 ver : 1 ≤ r.version ∧ r.version ≤ 1000000
 day : 0 ≤ r.day ∧ r.day ≤ 100000
 text : r.text.size ≤ 200
 rest : restP r
 lim : ∀ p ∈ specF r.kind, p.2.1 ≤ r.get p.1 ∧ r.get p.1 ≤ p.2.2
 zero : ∀ i, i < 10 → i ∉ (specF r.kind).map Prod.fst → r.get i = 0
theorem b01_inj {a b : Bool} (h : b01 a = b01 b) : a = b := by
 cases a <;> cases b <;> first | rfl | (exfalso; revert h; decide)
theorem ByteArray_ext' {a b : ByteArray} (h : a.data.toList = b.data.toList) : a = b := by
 cases a; cases b
 congr 1
 exact Array.toList_inj.1 h
theorem Rc.ext_get {r s : Rc} (hk : r.kind = s.kind) (hv : r.version = s.version) (hd : r.day = s.day) (hg : r.gone = s.gone) (ht : r.text = s.text) (h : ∀ i, i < 10 → r.get i = s.get i) : r = s := by
 cases r; cases s
 simp only at hk hv hd hg ht
 have h0 := h 0 (by decide)
 have h1 := h 1 (by decide)
 have h2 := h 2 (by decide)
 have h3 := h 3 (by decide)
 have h4 := h 4 (by decide)
 have h5 := h 5 (by decide)
 have h6 := h 6 (by decide)
 have h7 := h 7 (by decide)
 have h8 := h 8 (by decide)
 have h9 := h 9 (by decide)
 simp only [Rc.get] at h0 h1 h2 h3 h4 h5 h6 h7 h8 h9
 have h8' := b01_inj h8
 subst hk hv hd hg ht h0 h1 h2 h3 h4 h5 h6 h7 h8' h9
 rfl
def encF (r : Rc) (l : List (Nat × Int × Int)) : List UInt8 := (l.map fun p => putN (r.get p.1).toNat).flatten
def encR (r : Rc) : List UInt8 := putN r.kind.toNat ++ (putN r.version.toNat ++ (putN r.day.toNat ++ (putN (b01 r.gone).toNat ++ (encF r (specF r.kind) ++ (putN r.text.size ++ r.text.data.toList)))))
def keyR (r : Rc) : List UInt8 := putN r.kind.toNat ++ putN (r.get (keyF r.kind)).toNat
theorem encF_inj {r s : Rc} : ∀ (l : List (Nat × Int × Int)), (∀ p ∈ l, 0 ≤ r.get p.1 ∧ 0 ≤ s.get p.1) → ∀ {x y : List UInt8}, encF r l ++ x = encF s l ++ y → (∀ p ∈ l, r.get p.1 = s.get p.1) ∧ x = y
 | [], _, x, y, h => ⟨fun p hp => absurd hp (by simp), h⟩
 | p :: l, h0, x, y, h => by
  have e : ∀ r : Rc, encF r (p :: l) = putN (r.get p.1).toNat ++ encF r l := fun r => rfl
  rw [e r, e s, List.append_assoc, List.append_assoc] at h
  obtain ⟨h1, h2⟩ := putN_inj h
  obtain ⟨h3, h4⟩ := encF_inj l (fun q hq => h0 q (List.mem_cons_of_mem _ hq)) h2
  have h5 := h0 p (List.mem_cons_self ..)
  refine ⟨fun q hq => ?_, h4⟩
  rcases List.mem_cons.1 hq with rfl | hq
  ·omega
  ·exact h3 q hq
theorem spec_lo {k : Int} {p : Nat × Int × Int} (h : p ∈ specF k) : 0 ≤ p.2.1 ∧ p.1 < 10 := by
 unfold specF at h
 repeat' split at h
 all_goals (simp only [List.mem_cons, List.not_mem_nil, or_false] at h)
 all_goals (first | (rcases h with rfl | rfl | rfl | rfl | rfl | rfl | rfl | rfl <;> decide) | (rcases h with rfl | rfl | rfl | rfl | rfl | rfl <;> decide) | (rcases h with rfl | rfl | rfl | rfl | rfl <;> decide) | (rcases h with rfl | rfl | rfl | rfl <;> decide) | (rcases h with rfl | rfl <;> decide))
theorem enc_inj {r s : Rc} (hr : ValidR r) (hs : ValidR s) (h : encR r = encR s) : r = s := by
 unfold encR at h
 obtain ⟨h1, h⟩ := putN_inj h
 obtain ⟨h2, h⟩ := putN_inj h
 obtain ⟨h3, h⟩ := putN_inj h
 obtain ⟨h4, h⟩ := putN_inj h
 have hk : r.kind = s.kind := by have := hr.kind; have := hs.kind; omega
 rw [← hk] at h
 obtain ⟨h5, h⟩ := encF_inj _ (fun p hp => ⟨by have := (hr.lim p hp).1; have := (spec_lo hp).1; omega, by have := (hs.lim p (hk ▸ hp)).1; have := (spec_lo hp).1; omega⟩) h
 obtain ⟨h6, h⟩ := putN_inj h
 have hb : ∀ b, 0 ≤ b01 b := fun b => by cases b <;> decide
 refine Rc.ext_get hk (by have := hr.ver; have := hs.ver; omega) (by have := hr.day; have := hs.day; omega) (b01_inj (by have := hb r.gone; have := hb s.gone; omega)) (ByteArray_ext' h) fun i hi => ?_
 by_cases hm : i ∈ (specF r.kind).map Prod.fst
 ·obtain ⟨p, hp, rfl⟩ := List.mem_map.1 hm
  exact h5 p hp
 ·rw [hr.zero i hi hm, hs.zero i hi (hk ▸ hm)]
end Go.Sx
/-
 The layer with atoms: maps whose keys are strings.
-/
namespace Go.Sx
open Go Go.RowKit
theorem ba_beq (a b : ByteArray) : (a == b) = decide (a = b) := by
 rw [Bool.eq_iff_iff, Go.MapKept.bytes_beq, decide_eq_true_eq]
def msetS : List (ByteArray × Value) → ByteArray → Value → List (ByteArray × Value)
 | [], x, v => [(x, v)]
 | (y, u) :: l, x, v => if x = y then (x, v) :: l else (y, u) :: msetS l x v
def mgetS : List (ByteArray × Value) → ByteArray → Option Value
 | [], _ => none
 | (y, u) :: l, x => if x = y then some u else mgetS l x
def midxS : List (ByteArray × Value) → ByteArray → Option (Nat × Value)
 | [], _ => none
 | (y, u) :: l, x => if x = y then some (0, u) else (midxS l x).map fun p => (p.1 + 1, p.2)
theorem findNow_str (x : ByteArray) : ∀ (es : List MapEntry) (l : List (ByteArray × Value)) (i : Nat), es.map (fun e => (e.key, e.val)) = l.map (fun p => (Value.string p.1, p.2)) →
  Instr.findNow (.string) (.string x) es i = some ((midxS l x).map fun p => (p.1 + i, p.2))
 | [], [], i, _ => rfl
 | [], _ :: _, _, h => by simp at h
 | _ :: _, [], _, h => by simp at h
 | e :: es, (y, u) :: l, i, h => by
  simp only [List.map_cons, List.cons.injEq, Prod.mk.injEq] at h
  obtain ⟨⟨h1, h2⟩, h3⟩ := h
  unfold Instr.findNow
  rw [h1]
  simp only [Instr.sameNow, midxS]
  rw [ba_beq]
  by_cases hxy : x = y
  ·subst hxy
   simp [h2]
  ·rw [decide_eq_false hxy, if_neg hxy]
   simp only
   rw [findNow_str x es l (i + 1) h3]
   cases midxS l x with
   | none => rfl
   | some p => simp; omega
theorem midxS_none {l : List (ByteArray × Value)} {x : ByteArray} (v : Value) (h : midxS l x = none) : msetS l x v = l ++ [(x, v)] := by
 induction l with
 | nil => rfl
 | cons p l ih =>
  obtain ⟨y, u⟩ := p
  simp only [midxS] at h
  by_cases hxy : x = y
  ·rw [if_pos hxy] at h; cases h
  ·rw [if_neg hxy] at h
   simp only [msetS, if_neg hxy, List.cons_append]
   rw [ih (by simpa using h)]
theorem midxS_some {l : List (ByteArray × Value)} {x : ByteArray} (v : Value) {i : Nat} {u : Value} (h : midxS l x = some (i, u)) : msetS l x v = l.set i (x, v) ∧ i < l.length ∧ l[i]? = some (x, u) := by
 induction l generalizing i u with
 | nil => cases h
 | cons p l ih =>
  obtain ⟨y, u'⟩ := p
  simp only [midxS] at h
  by_cases hxy : x = y
  ·rw [if_pos hxy] at h
   cases h
   simp [msetS, hxy]
  ·rw [if_neg hxy] at h
   rw [Option.map_eq_some_iff] at h
   obtain ⟨⟨j, u2⟩, h1, h2⟩ := h
   cases h2
   obtain ⟨h3, h4, h5⟩ := ih h1
   simp only [msetS, if_neg hxy, h3]
   exact ⟨by simp, by simpa using h4, by simpa using h5⟩
theorem run_checkKey_str {P : Program} {w : World} {k : TypeId} (hk : P.underlying k = some (.string)) (e : Bool) (n : Nat) (x : ByteArray) : (Instr.checkKey e (n + 1) k (.string x)).run P w = .ok () w := by
 unfold Instr.checkKey
 simp only [Sem.run_bind, run_underlying hk, Result.andThen]
 rfl
theorem run_keyStaysS {P : Program} {w : World} (x : ByteArray) : (Instr.keyThatStays (.string x) (.string x)).run P w = .ok (.string x) w := by
 have : Instr.sameBits 10000 (.string x) (.string x) = true := by unfold Instr.sameBits; rw [ba_beq, decide_eq_true rfl]
 unfold Instr.keyThatStays
 rw [this]; rfl
theorem run_findKey_str {P : Program} {w : World} {k : TypeId} (hk : P.underlying k = some (.string)) (x : ByteArray) (es : List MapEntry) (l : List (ByteArray × Value)) (hes : es.map (fun e => (e.key, e.val)) = l.map (fun p => (Value.string p.1, p.2))) :
  (Instr.findKey k (.string x) es).run P w = .ok (midxS l x) w := by
 unfold Instr.findKey
 simp only [Sem.run_bind, run_underlying hk, Result.andThen, findNow_str x es l 0 hes, Sem.run_pure]
 cases midxS l x <;> rfl
theorem midxS_get (l : List (ByteArray × Value)) (x : ByteArray) : (midxS l x).map (·.2) = mgetS l x := by
 induction l with
 | nil => rfl
 | cons p l ih =>
  obtain ⟨y, u⟩ := p
  simp only [midxS, mgetS]
  split
  ·rfl
  ·rw [← ih]; cases midxS l x <;> rfl
structure MS (l : List (ByteArray × Value)) (es : Array MapEntry) (clk : Nat) : Prop where
 ents : es.toList.map (fun e => (e.key, e.val)) = l.map fun p => (Value.string p.1, p.2)
 born : ∀ e ∈ es.toList, e.born < clk
 nd : (es.toList.map (·.born)).Nodup
theorem MS.nil : MS [] #[] 0 := ⟨rfl, by simp, by simp⟩
theorem MS.ent {l : List (ByteArray × Value)} {es : Array MapEntry} {clk : Nat} (h : MS l es clk) {e : MapEntry} (he : e ∈ es.toList) : ∃ p ∈ l, e.key = .string p.1 ∧ e.val = p.2 := by
 have h1 : (e.key, e.val) ∈ es.toList.map (fun e => (e.key, e.val)) := List.mem_map.2 ⟨e, he, rfl⟩
 rw [h.ents] at h1
 obtain ⟨p, hp, e1⟩ := List.mem_map.1 h1
 simp only [Prod.mk.injEq] at e1
 exact ⟨p, hp, e1.1.symm, e1.2.symm⟩
theorem MS.of {l : List (ByteArray × Value)} {es : Array MapEntry} {clk : Nat} (h : MS l es clk) {p : ByteArray × Value} (hp : p ∈ l) : ∃ e ∈ es.toList, e.key = .string p.1 ∧ e.val = p.2 := by
 have h1 : (Value.string p.1, p.2) ∈ l.map fun p => (Value.string p.1, p.2) := List.mem_map.2 ⟨p, hp, rfl⟩
 rw [← h.ents] at h1
 obtain ⟨e, he, e1⟩ := List.mem_map.1 h1
 simp only [Prod.mk.injEq] at e1
 exact ⟨e, he, e1.1, e1.2⟩
def msP (l : List (ByteArray × Value)) (o : Obj) : Prop := ∃ es clk, o = .map es clk ∧ MS l es clk
def A.ms (b : Nat) (l : List (ByteArray × Value)) : Atom := A.obj b (msP l)
section
variable {P : Program} {w : World} {t k e : TypeId} {b : Nat} {l : List (ByteArray × Value)} {o : Obj} {z : Value} {sz bb : Nat}
theorem run_lookup_ms2 (ht : P.underlying t = some (.map k e)) (hk : P.underlying k = some (.string)) [hi : ITy P e z sz bb] (hb : w.heap[b]? = some o) (ho : msP l o) (x : ByteArray) :
  (Instr.lookup t (.map (some b)) (.string x) true).run P w = .ok (.tuple #[(mgetS l x).getD z, .bool (mgetS l x).isSome]) w := by
 obtain ⟨es, clk, rfl, h⟩ := ho
 have hf := run_findKey_str (P := P) (w := w) hk x es.toList l h.ents
 unfold Instr.lookup
 simp only [Sem.run_bind, run_underlying ht, Result.andThen, run_getMap hb, Sem.run_pure, run_checkKey_str hk _ 9999 x, hf]
 rw [← midxS_get]
 cases midxS l x with
 | none => simp [run_zeroValue (h := hi)]
 | some p => simp
theorem run_mapUpdate_ms (ht : P.underlying t = some (.map k e)) (hk : P.underlying k = some (.string)) (hb : w.heap[b]? = some o) (ho : msP l o) (x : ByteArray) (v : Value) :
  ∃ o', (Instr.mapUpdate t (.map (some b)) (.string x) v).run P w = .ok () (w.putObj b o') ∧ msP (msetS l x v) o' := by
 obtain ⟨es, clk, rfl, h⟩ := ho
 have hes := h.ents
 have hf := run_findKey_str (P := P) (w := w) hk x es.toList l hes
 have hlen : es.size = l.length := by have := congrArg List.length hes; simpa using this
 cases hm : midxS l x with
 | none =>
  refine ⟨.map (es.push { key := .string x, val := v, born := clk }) (clk + 1), ?_, ?_⟩
  ·rw [hm] at hf
   unfold Instr.mapUpdate
   simp only [Sem.run_bind, run_underlying ht, Result.andThen, run_getMap hb, run_checkKey_str hk _ 9999 x, hf, run_setMap _ hb]
  ·refine ⟨_, _, rfl, ?_, ?_, ?_⟩
   ·rw [midxS_none v hm]
    simp [hes]
   ·intro y hy
    rw [Array.toList_push] at hy
    rcases List.mem_append.1 hy with hy | hy
    ·exact Nat.lt_succ_of_lt (h.born y hy)
    ·rw [List.mem_singleton] at hy; subst hy; exact Nat.lt_succ_self _
   ·rw [Array.toList_push, List.map_append]
    refine List.nodup_append.2 ⟨h.nd, by simp, fun a ha c hc e => ?_⟩
    obtain ⟨y, hy, rfl⟩ := List.mem_map.1 ha
    simp only [List.map_cons, List.map_nil, List.mem_singleton] at hc
    have := h.born y hy
    omega
 | some p =>
  obtain ⟨i, u⟩ := p
  obtain ⟨h1, h2, h3⟩ := midxS_some v hm
  have hi : i < es.size := by omega
  have hkey : es[i].key = .string x := by
   have := congrArg (fun l => l[i]?) hes
   simp [h3, hi] at this
   exact this.1
  have hb2 : (es.modify i fun e => { e with key := .string x, val := v }).toList.map (·.born) = es.toList.map (·.born) := by
   apply List.ext_getElem?
   intro j
   simp only [List.getElem?_map, Array.getElem?_toList]
   rw [Array.getElem?_modify]
   by_cases e : i = j
   ·subst e; simp [hi]
   ·simp [e]
  refine ⟨.map (es.modify i fun e => { e with key := .string x, val := v }) clk, ?_, ?_⟩
  ·rw [hm] at hf
   have hk2 : ((es[i]?).map (·.key)).getD (.string x) = .string x := by simp [hi, hkey]
   unfold Instr.mapUpdate
   simp only [Sem.run_bind, run_underlying ht, Result.andThen, run_getMap hb, run_checkKey_str hk _ 9999 x, hf, hk2, run_keyStaysS, run_setMap _ hb]
  ·refine ⟨_, _, rfl, ?_, ?_, ?_⟩
   ·rw [h1]
    apply List.ext_getElem?
    intro j
    have hj := congrArg (fun l => l[j]?) hes
    simp only [List.getElem?_map, Array.getElem?_toList] at hj ⊢
    rw [Array.getElem?_modify, List.getElem?_set]
    by_cases e : i = j
    ·subst e
     simp [hi, h2]
    ·simp only [if_neg e]
     exact hj
   ·intro y hy
    have h4 : y.born ∈ (es.modify i fun e => { e with key := .string x, val := v }).toList.map (·.born) := List.mem_map.2 ⟨y, hy, rfl⟩
    rw [hb2] at h4
    obtain ⟨y0, h5, h6⟩ := List.mem_map.1 h4
    rw [← h6]; exact h.born y0 h5
   ·rw [hb2]; exact h.nd
end
section
variable {P : Program} {r : Option Nat} {N : Nat} {ds : List Deferred} {ol rest : List Oper} {Q : Post} {E : Env} {w0 : World} {H : List Atom} {next : Act → World → Prop} {g : Option (Nat × Bool)}
variable {d : Nat} {t ty : TypeId} {pos : String} {af : Array Edge} {x y z : Operand}
theorem H1.mkms (hd : Nat.blt d N = true) (h : ∀ b, HN N ds next ((d, .map (some b)) :: E) w0 (A.ms b [] :: H)) : H1 P r N ds next ⟨some d, .makeMap t none, ty, pos, af, g⟩ Q E w0 H := fun w hM =>
 W1.run (v := .map (some w.heap.size)) (w' := w.alloc (.map #[] 0)) (fun _ _ => rfl) rfl hd (h _ _ (by
  refine (hM.more (Ext.alloc w _)).cons ⟨_, World.alloc_heap_new w _, _, _, rfl, MS.nil⟩ (by simp [A.ms, A.obj]) fun b hb => ?_
  have hb' : b = w.heap.size := by simpa [A.ms, A.obj] using hb
  subst hb'
  refine ⟨fun hm => ?_, hM.ext.size, by simp⟩
  have := (hM.rng _ hm).2
  omega))
theorem H1.msget2 {b : Nat} {k e : TypeId} {l : List (ByteArray × Value)} {n : ByteArray} {zv : Value} {sz bb : Nat} [ht : UTy P t (.map k e)] [hk : UTy P k (.string)] [hi : ITy P e zv sz bb] (hx : Env.ev E x = some (.map (some b))) (hy : Env.ev E y = some (.string n))
  (hm : A.ms b l ∈ H) (hd : Nat.blt d N = true) (h : HN N ds next ((d, .tuple #[(mgetS l n).getD zv, .bool (mgetS l n).isSome]) :: E) w0 H) : H1 P r N ds next ⟨some d, .lookup t x y true, ty, pos, af, g⟩ Q E w0 H := fun w hM => by
 obtain ⟨o, h1, h2⟩ : ∃ o, w.heap[b]? = some o ∧ msP l o := hM.all _ hm
 refine W1.run (v := .tuple #[(mgetS l n).getD zv, .bool (mgetS l n).isSome]) (w' := w) (fun a ha' => ?_) rfl hd (h w hM)
 simp only [execOp, ha'.ev hx, ha'.ev hy, Sem.run_bind, run_lookup_ms2 ht.is hk.is h1 h2 n, Result.andThen, Sem.run_pure]
theorem H1.msset {b : Nat} {k e : TypeId} {l : List (ByteArray × Value)} {n : ByteArray} {v : Value} {H' : List Atom} [ht : UTy P t (.map k e)] [hk : UTy P k (.string)] (hx : Env.ev E x = some (.map (some b))) (hy : Env.ev E y = some (.string n)) (hz : Env.ev E z = some v)
  (hr : Rpl (A.ms b l) (A.ms b (msetS l n v)) H H') (h : HN N ds next E w0 H') : H1 P r N ds next ⟨none, .mapUpdate t x y z, ty, pos, af, g⟩ Q E w0 H := fun w hM => by
 obtain ⟨o, hb, ho⟩ : ∃ o, w.heap[b]? = some o ∧ msP l o := hM.all _ hr.mem
 obtain ⟨o', hrun, ho'⟩ := run_mapUpdate_ms (P := P) ht.is hk.is hb ho n v
 have hlt := (Array.getElem?_eq_some_iff.1 hb).1
 refine W1.skip (w' := w.putObj b o') (fun a ha => ?_) rfl rfl (h _ (hM.turn hr rfl rfl rfl (by simp) (fun k _ hk' => ?_) ⟨o', World.putObj_heap_same hlt, ho'⟩ (by simp [A.ms, A.obj]) fun b' hb' => .inl hb'))
 ·simp only [execOp, ha.ev hx, ha.ev hy, ha.ev hz, Sem.run_bind, hrun, Result.andThen, Sem.run_pure]
 ·exact World.putObj_heap_other (by simpa [A.ms, A.obj] using hk')
end
theorem Mm.head {w0 w : World} {a a' : Atom} {H : List Atom} (h : Mm w0 (a :: H) w) (hfp : a'.fp = a.fp) (hp : a'.p w) : Mm w0 (a' :: H) w := by
 refine ⟨h.ext, fun x hx => ?_, ?_, fun b hb => ?_⟩
 ·rcases List.mem_cons.1 hx with rfl | hx
  ·exact hp
  ·exact h.all x (List.mem_cons_of_mem _ hx)
 ·have := h.nd
  rw [fps_cons] at this ⊢
  rwa [hfp]
 ·refine h.rng b ?_
  rw [fps_cons] at hb ⊢
  rwa [hfp] at hb
def A.mx (b : Nat) (es : Array MapEntry) (clk : Nat) : Atom := A.obj b fun o => o = .map es clk
theorem Mm.mx {w0 w : World} {b clk : Nat} {es : Array MapEntry} {H : List Atom} (h : Mm w0 H w) (hm : A.mx b es clk ∈ H) : w.heap[b]? = some (.map es clk) := by
 obtain ⟨o, h1, rfl⟩ : ∃ o, w.heap[b]? = some o ∧ o = .map es clk := h.all _ hm
 exact h1
theorem stamp_inj : ∀ {es : List MapEntry}, (es.map (·.born)).Nodup → ∀ {e e' : MapEntry}, e ∈ es → e' ∈ es → e.born = e'.born → e = e'
 | [], _, _, _, he, _, _ => absurd he (by simp)
 | x :: es, h, e, e', he, he', hb => by
  rw [List.map_cons, List.nodup_cons] at h
  rcases List.mem_cons.1 he with h1 | h1 <;> rcases List.mem_cons.1 he' with h2 | h2
  ·rw [h1, h2]
  ·exact absurd (List.mem_map.2 ⟨e', h2, by rw [← hb, h1]⟩) h.1
  ·exact absurd (List.mem_map.2 ⟨e, h1, by rw [hb, h2]⟩) h.1
  ·exact stamp_inj h.2 h1 h2 hb
theorem map_eraseIdx {α β : Type} (f : α → β) : ∀ (l : List α) (i : Nat), (l.map f).eraseIdx i = (l.eraseIdx i).map f
 | [], _ => rfl
 | _ :: _, 0 => rfl
 | a :: l, i + 1 => by
  simp only [List.map_cons, List.eraseIdx_cons_succ]
  rw [map_eraseIdx f l i]
theorem mleft_erase (es : Array MapEntry) (i : Nat) (seen : Array Nat) : mleft (es.eraseIdxIfInBounds i) seen ≤ mleft es seen := by
 unfold mleft
 rw [Array.toList_eraseIdxIfInBounds]
 exact ((List.eraseIdx_sublist _ i).filter _).length_le
end Go.Sx
/- Plain, chapter 21: which record prevails; what is in effect. -/
namespace Go.Sx
open Go
theorem less_irr : ∀ x : List UInt8, Op.bytesLess x x = false
 | [] => rfl
 | a :: x => by
  simp only [Op.bytesLess, Bool.or_eq_false_iff, Bool.and_eq_false_iff, decide_eq_false_iff_not]
  exact ⟨UInt8.lt_irrefl a, .inr (less_irr x)⟩
theorem less_tri : ∀ x y : List UInt8, x ≠ y → Op.bytesLess x y = true ∨ Op.bytesLess y x = true
 | [], [], h => absurd rfl h
 | [], _ :: _, _ => .inl rfl
 | _ :: _, [], _ => .inr rfl
 | a :: x, b :: y, h => by
  simp only [Op.bytesLess, Bool.or_eq_true, Bool.and_eq_true, decide_eq_true_eq, beq_iff_eq]
  by_cases e : a = b
  ·subst e
   rcases less_tri x y (fun e => h (by rw [e])) with h1 | h1
   ·exact .inl (.inr ⟨rfl, h1⟩)
   ·exact .inr (.inr ⟨rfl, h1⟩)
  ·rcases UInt8.lt_or_lt_of_ne e with h1 | h1
   ·exact .inl (.inl h1)
   ·exact .inr (.inl h1)
theorem less_trans : ∀ x y z : List UInt8, Op.bytesLess x y = true → Op.bytesLess y z = true → Op.bytesLess x z = true
 | _, [], _, h, _ => by simp [Op.bytesLess] at h
 | _, _ :: _, [], _, h => by simp [Op.bytesLess] at h
 | [], _ :: _, _ :: _, _, _ => rfl
 | a :: x, b :: y, c :: z, h1, h2 => by
  simp only [Op.bytesLess, Bool.or_eq_true, Bool.and_eq_true, decide_eq_true_eq, beq_iff_eq] at h1 h2 ⊢
  rcases h1 with h1 | ⟨rfl, h1⟩
  ·rcases h2 with h2 | ⟨rfl, h2⟩
   ·exact .inl (UInt8.lt_trans h1 h2)
   ·exact .inl h1
  ·rcases h2 with h2 | ⟨rfl, h2⟩
   ·exact .inl h2
   ·exact .inr ⟨rfl, less_trans x y z h1 h2⟩
def Prev (a b : Rc) : Prop := (ValidR a ∧ ValidR b ∧ keyR a = keyR b) ∧ (b.version < a.version ∨ a.version = b.version ∧ Op.bytesLess (encR b) (encR a) = true)
theorem prev_irr (a : Rc) : ¬ Prev a a := fun h => by
 rcases h.2 with h1 | ⟨-, h1⟩
 ·omega
 ·rw [less_irr] at h1; cases h1
theorem prev_trans {a b c : Rc} (h1 : Prev a b) (h2 : Prev b c) : Prev a c := by
 refine ⟨⟨h1.1.1, h2.1.2.1, h1.1.2.2.trans h2.1.2.2⟩, ?_⟩
 rcases h1.2 with h3 | ⟨h3, h4⟩
 ·rcases h2.2 with h5 | ⟨h5, h6⟩
  ·exact .inl (by omega)
  ·exact .inl (by omega)
 ·rcases h2.2 with h5 | ⟨h5, h6⟩
  ·exact .inl (by omega)
  ·exact .inr ⟨by omega, less_trans _ _ _ h6 h4⟩
theorem prev_tri {a b : Rc} (ha : ValidR a) (hb : ValidR b) (hk : keyR a = keyR b) (h : a ≠ b) : Prev a b ∨ Prev b a := by
 by_cases h1 : a.version = b.version
 ·rcases less_tri (encR b) (encR a) (fun e => h (enc_inj ha hb e.symm)) with h2 | h2
  ·exact .inl ⟨⟨ha, hb, hk⟩, .inr ⟨h1, h2⟩⟩
  ·exact .inr ⟨⟨hb, ha, hk.symm⟩, .inr ⟨h1.symm, h2⟩⟩
 ·by_cases h2 : b.version < a.version
  ·exact .inl ⟨⟨ha, hb, hk⟩, .inl h2⟩
  ·exact .inr ⟨⟨hb, ha, hk.symm⟩, .inl (by omega)⟩
def Now (day : Int) (r : Rc) : Prop := ValidR r ∧ r.day ≤ day
structure Top (l : List Rc) (day : Int) (r : Rc) : Prop where
 mem : r ∈ l
 now : Now day r
 top : ∀ s ∈ l, s.day ≤ day → ¬ Prev s r
structure EffM (l : List Rc) (day : Int) (m : List (List UInt8 × Rc)) : Prop where
 nd : (m.map Prod.fst).Nodup
 top : ∀ p ∈ m, p.1 = keyR p.2 ∧ Top l day p.2
 all : ∀ r ∈ l, Now day r → ∃ p ∈ m, p.1 = keyR r
theorem EffM.nil (day : Int) : EffM [] day [] := ⟨by simp, by simp, by simp⟩
theorem top_uniq {l : List Rc} {day : Int} {r s : Rc} (hr : Top l day r) (hs : Top l day s) (hk : keyR r = keyR s) : r = s := by
 apply Classical.byContradiction
 intro h
 rcases prev_tri hr.now.1 hs.now.1 hk h with h1 | h1
 ·exact hs.top r hr.mem hr.now.2 h1
 ·exact hr.top s hs.mem hs.now.2 h1
theorem EffM.has {l : List Rc} {day : Int} {m : List (List UInt8 × Rc)} (h : EffM l day m) (r : Rc) : (∃ p ∈ m, p.2 = r) ↔ Top l day r := by
 constructor
 ·rintro ⟨p, hp, rfl⟩
  exact (h.top p hp).2
 ·intro hr
  obtain ⟨p, hp, e⟩ := h.all r hr.mem hr.now
  have h1 := h.top p hp
  exact ⟨p, hp, top_uniq h1.2 hr (by rw [← h1.1, e])⟩
theorem top_snoc {l : List Rc} {day : Int} {r s : Rc} (h : Top l day r) (hs : ¬ (s.day ≤ day ∧ Prev s r)) : Top (l ++ [s]) day r :=
 ⟨List.mem_append_left _ h.mem, h.now, fun t ht hd hp => by
  rcases List.mem_append.1 ht with ht | ht
  ·exact h.top t ht hd hp
  ·obtain rfl := List.mem_singleton.1 ht
   exact hs ⟨hd, hp⟩⟩
theorem EffM.skip {l : List Rc} {day : Int} {m : List (List UInt8 × Rc)} (h : EffM l day m) {r : Rc} (hr : ¬ Now day r) : EffM (l ++ [r]) day m :=
 ⟨h.nd, fun p hp => ⟨(h.top p hp).1, top_snoc (h.top p hp).2 fun e => hr ⟨e.2.1.1, e.1⟩⟩, fun s hs hn => by
  rcases List.mem_append.1 hs with hs | hs
  ·exact h.all s hs hn
  ·obtain rfl := List.mem_singleton.1 hs
   exact absurd hn hr⟩
theorem EffM.keep {l : List Rc} {day : Int} {m : List (List UInt8 × Rc)} (h : EffM l day m) {r : Rc} {p : List UInt8 × Rc} (hp : p ∈ m) (hk : p.1 = keyR r) (hn : ¬ Prev r p.2) : EffM (l ++ [r]) day m :=
 ⟨h.nd, fun q hq => ⟨(h.top q hq).1, top_snoc (h.top q hq).2 fun e => by
  have h1 := (h.top q hq).1
  have h2 := (h.top p hp).1
  have h3 : q.2 = p.2 := top_uniq (h.top q hq).2 (h.top p hp).2 (by rw [← h1, ← h2, hk, h1]; exact e.2.1.2.2.symm)
  rw [h3] at e
  exact hn e.2⟩, fun s hs hs2 => by
  rcases List.mem_append.1 hs with hs | hs
  ·exact h.all s hs hs2
  ·obtain rfl := List.mem_singleton.1 hs
   exact ⟨p, hp, hk⟩⟩
theorem EffM.add {l : List Rc} {day : Int} {m : List (List UInt8 × Rc)} (h : EffM l day m) {r : Rc} (hr : Now day r) (hk : ∀ p ∈ m, p.1 ≠ keyR r) : EffM (l ++ [r]) day (m ++ [(keyR r, r)]) := by
 have hno : ∀ s ∈ l, Now day s → keyR s ≠ keyR r := fun s hs hn e => by
  obtain ⟨p, hp, e2⟩ := h.all s hs hn
  exact hk p hp (e2.trans e)
 refine ⟨?_, fun q hq => ?_, fun s hs hs2 => ?_⟩
 ·rw [List.map_append]
  refine List.nodup_append.2 ⟨h.nd, by simp, fun a ha b hb e => ?_⟩
  obtain ⟨p, hp, rfl⟩ := List.mem_map.1 ha
  simp only [List.map_cons, List.map_nil, List.mem_singleton] at hb
  exact hk p hp (e.trans hb)
 ·rcases List.mem_append.1 hq with hq | hq
  ·have h1 := h.top q hq
   exact ⟨h1.1, top_snoc h1.2 fun e => hk q hq (by rw [h1.1]; exact e.2.1.2.2.symm)⟩
  ·obtain rfl := List.mem_singleton.1 hq
   refine ⟨rfl, List.mem_append_right _ (List.mem_singleton.2 rfl), hr, fun t ht hd hp => ?_⟩
   rcases List.mem_append.1 ht with ht | ht
   ·exact hno t ht ⟨hp.1.1, hd⟩ hp.1.2.2
   ·obtain rfl := List.mem_singleton.1 ht
    exact prev_irr _ hp
 ·rcases List.mem_append.1 hs with hs | hs
  ·obtain ⟨p, hp, e⟩ := h.all s hs hs2
   exact ⟨p, List.mem_append_left _ hp, e⟩
  ·obtain rfl := List.mem_singleton.1 hs
   exact ⟨_, List.mem_append_right _ (List.mem_singleton.2 rfl), rfl⟩
theorem EffM.put {l : List Rc} {day : Int} {m : List (List UInt8 × Rc)} (h : EffM l day m) {r : Rc} (hr : Now day r) {i : Nat} {s : Rc} (hi : m[i]? = some (keyR r, s)) (hp : Prev r s) : EffM (l ++ [r]) day (m.set i (keyR r, r)) := by
 have hlt : i < m.length := (List.getElem?_eq_some_iff.1 hi).1
 have hmi : (keyR r, s) ∈ m := List.mem_of_getElem? hi
 have hts := (h.top _ hmi).2
 have hfst : (m.set i (keyR r, r)).map Prod.fst = m.map Prod.fst := by
  rw [List.map_set]
  apply List.ext_getElem?
  intro j
  rw [List.getElem?_set]
  by_cases e : i = j
  ·subst e
   rw [List.getElem?_eq_getElem hlt] at hi
   have e2 := Option.some.inj hi
   simp [hlt, e2]
  ·simp [e]
 have hmem : ∀ q, q ∈ m.set i (keyR r, r) → q = (keyR r, r) ∨ (q ∈ m ∧ q.1 ≠ keyR r) := fun q hq => by
  obtain ⟨j, hj⟩ := List.mem_iff_getElem?.1 hq
  rw [List.getElem?_set] at hj
  by_cases e : i = j
  ·subst e
   simp [hlt] at hj
   exact .inl hj.symm
  ·rw [if_neg e] at hj
   refine .inr ⟨List.mem_of_getElem? hj, fun e2 => e ?_⟩
   have hjl : j < m.length := (List.getElem?_eq_some_iff.1 hj).1
   have n1 : (m.map Prod.fst)[i]? = some (keyR r) := by simp [hi]
   have n2 : (m.map Prod.fst)[j]? = some (keyR r) := by simp [hj, e2]
   exact (List.getElem?_inj (by simpa using hlt) h.nd).1 (n1.trans n2.symm)
 refine ⟨by rw [hfst]; exact h.nd, fun q hq => ?_, fun t ht hn => ?_⟩
 ·rcases hmem q hq with rfl | ⟨hq, hne⟩
  ·refine ⟨rfl, List.mem_append_right _ (List.mem_singleton.2 rfl), hr, fun t ht hd hpt => ?_⟩
   rcases List.mem_append.1 ht with ht | ht
   ·exact hts.top t ht hd (prev_trans hpt hp)
   ·obtain rfl := List.mem_singleton.1 ht
    exact prev_irr _ hpt
  ·have h1 := h.top q hq
   exact ⟨h1.1, top_snoc h1.2 fun e => hne (by rw [h1.1]; exact e.2.1.2.2.symm)⟩
 ·have hin : (keyR r, r) ∈ m.set i (keyR r, r) := List.mem_set hlt _
  rcases List.mem_append.1 ht with ht | ht
  ·obtain ⟨p, hpm, e⟩ := h.all t ht hn
   obtain ⟨j, hj⟩ := List.mem_iff_getElem?.1 hpm
   by_cases e2 : i = j
   ·subst e2
    rw [hi] at hj
    cases hj
    exact ⟨_, hin, e⟩
   ·refine ⟨p, List.mem_of_getElem? (i := j) ?_, e⟩
    rw [List.getElem?_set, if_neg e2]; exact hj
  ·obtain rfl := List.mem_singleton.1 ht
   exact ⟨_, hin, rfl⟩
def numR (r : Rc) : Int := r.get (keyF r.kind)
def asK (L : List Rc) : Prop := L.Pairwise fun a b => numR a < numR b
theorem asK_uniq : ∀ {L M : List Rc}, asK L → asK M → (∀ r, r ∈ L ↔ r ∈ M) → L = M
 | [], [], _, _, _ => rfl
 | [], b :: M, _, _, h => by have := (h b).2 (List.mem_cons_self ..); simp at this
 | a :: L, [], _, _, h => by have := (h a).1 (List.mem_cons_self ..); simp at this
 | a :: L, b :: M, hL, hM, h => by
  have h1 := List.pairwise_cons.1 hL
  have h2 := List.pairwise_cons.1 hM
  have e : a = b := by
   rcases List.mem_cons.1 ((h a).1 (List.mem_cons_self ..)) with e | ha
   ·exact e
   ·rcases List.mem_cons.1 ((h b).2 (List.mem_cons_self ..)) with e | hb
    ·exact e.symm
    ·have := h1.1 b hb
     have := h2.1 a ha
     omega
  subst e
  congr 1
  refine asK_uniq h1.2 h2.2 fun r => ?_
  constructor
  ·intro hr
   rcases List.mem_cons.1 ((h r).1 (List.mem_cons_of_mem _ hr)) with rfl | hr2
   ·have := h1.1 r hr; omega
   ·exact hr2
  ·intro hr
   rcases List.mem_cons.1 ((h r).2 (List.mem_cons_of_mem _ hr)) with rfl | hr2
   ·have := h2.1 r hr; omega
   ·exact hr2
structure IsOf (l : List Rc) (day : Int) (k : Int) (L : List Rc) : Prop where
 asc : asK L
 mem : ∀ r, r ∈ L ↔ (Top l day r ∧ r.gone = false) ∧ r.kind = k
theorem IsOf.uniq {l l' : List Rc} {day day' k : Int} {L M : List Rc} (hL : IsOf l day k L) (hM : IsOf l' day' k M) (h : ∀ r, r.kind = k → r.gone = false → (Top l day r ↔ Top l' day' r)) : L = M :=
 asK_uniq hL.asc hM.asc fun r => by
  rw [hL.mem, hM.mem]
  constructor
  ·rintro ⟨⟨h1, h2⟩, h3⟩
   exact ⟨⟨(h r h3 h2).1 h1, h2⟩, h3⟩
  ·rintro ⟨⟨h1, h2⟩, h3⟩
   exact ⟨⟨(h r h3 h2).2 h1, h2⟩, h3⟩
end Go.Sx
/-
 The layer with atoms: many atoms as one; append of a list that may be nil.
-/
namespace Go.Sx
open Go Go.RowKit
def A.all (K : List Atom) : Atom := ⟨fps K, fun w => ∀ x ∈ K, x.p w, fun w w' hs h hp x hx => x.loc w w' hs (fun b hb => h b (mem_fps hx hb)) (hp x hx)⟩
theorem Mm.pack {w0 w : World} {K H : List Atom} (h : Mm w0 (K ++ H) w) : Mm w0 (A.all K :: H) w := by
 refine ⟨h.ext, fun x hx => ?_, ?_, fun b hb => ?_⟩
 ·rcases List.mem_cons.1 hx with rfl | hx
  ·exact fun y hy => h.all y (List.mem_append_left _ hy)
  ·exact h.all x (List.mem_append_right _ hx)
 ·have := h.nd; rwa [fps_append] at this
 ·refine h.rng b ?_
  rw [fps_append]; exact hb
theorem Mm.pack1 {w0 w : World} {K : List Atom} (h : Mm w0 K w) : Mm w0 [A.all K] w := Mm.pack (H := []) (by simpa using h)
theorem Mm.unpack {w0 w : World} {K H : List Atom} (h : Mm w0 (A.all K :: H) w) : Mm w0 (K ++ H) w := by
 refine ⟨h.ext, fun x hx => ?_, ?_, fun b hb => h.rng b ?_⟩
 ·rcases List.mem_append.1 hx with hx | hx
  ·exact h.all (A.all K) (List.Mem.head _) x hx
  ·exact h.all x (List.Mem.tail _ hx)
 ·have := h.nd; rw [fps_append]; exact this
 ·rw [fps_append] at hb; exact hb
theorem Mm.allNil {w0 w : World} {H : List Atom} (h : Mm w0 H w) : Mm w0 (A.all [] :: H) w := Mm.pack (K := []) h
theorem Mm.allAdd {w0 w : World} {a : Atom} {K H : List Atom} (h : Mm w0 (a :: A.all K :: H) w) : Mm w0 (A.all (K ++ [a]) :: H) w := by
 refine Mm.pack ?_
 have h1 : Mm w0 (A.all K :: a :: H) w := h.perm (List.Perm.swap _ _ _)
 have h2 := h1.unpack
 simpa using h2
theorem run_append_none {P : Program} {w : World} (base : Nat) (t ty e : TypeId) (i : TypeInfo) (size : Nat) (ht : P.underlying t = some (.slice e)) (hi : P.info? e = some i)
  (v : Value) (n c : Nat) (xs : List Value) (hown : w.ownsRow base e size v n xs) :
  (Builtin.append_ #[t, t] ty #[v, .slice none 0 c]).run P w = .ok v w := by
 rcases hown.2 with ⟨rfl, rfl⟩ | ⟨g, cap, cur, rfl, _, _, hnc, _⟩
 ·simp [Builtin.append_, run_underlying ht, sizeOf, typeInfo, hi, Builtin.lenOf, Builtin.firstCells]
 ·simp [Builtin.append_, run_underlying ht, sizeOf, typeInfo, hi, Builtin.lenOf, Builtin.firstCells, hnc, storeCells]
theorem Rpl.same {x : Atom} {H H' : List Atom} (h : Rpl x x H H') : H = H' := by
 generalize hy : x = y at h
 induction h with
 | here => rfl
 | there _ ih => rw [ih]
theorem H1.appR {P : Program} {r : Option Nat} {N : Nat} {ds : List Deferred} {Q : Post} {E : Env} {w0 : World} {H : List Atom} {next : Act → World → Prop} {g : Option (Nat × Bool)}
  {d : Nat} {t ty : TypeId} {pos : String} {af : Array Edge} {x y : Operand}
  {e : TypeId} {z : Value} {bb n c c2 : Nat} {a ao : Option Addr} {xs vs : List Value} {H' : Option Addr → Nat → List Atom} [h : UTy P t (.slice e)] [hi : ITy P e z 1 bb] (hzs : z.cells.size = 1)
  (hx : Env.ev E x = some (.slice a n c)) (hy : Env.ev E y = some (.slice ao vs.length c2)) (hr : ∀ a' c', Rpl (A.grow e 1 a c n xs) (A.grow e 1 a' c' (n + vs.length) (xs ++ vs)) H (H' a' c'))
  (hR : ∀ w, Mm w0 H w → Rd w (.slice ao vs.length c2) vs) (h1 : ∀ u ∈ vs, u.oneCell' = true) (hnm : n + vs.length ≤ 1000000) (hb : bb ≤ 1000) (hd : Nat.blt d N = true)
  (ha0 : n = 0 ∨ ∃ b, a = some ⟨b, 0, none⟩) (hn : ∀ a' c', (n + vs.length = 0 ∨ ∃ b, a' = some ⟨b, 0, none⟩) → HN N ds next ((d, .slice a' (n + vs.length) c') :: E) w0 (H' a' c')) :
  H1 P r N ds next ⟨some d, .call ⟨.builtin .append, #[x, y], #[t, t]⟩, ty, pos, af, g⟩ Q E w0 H := by
 cases ao with
 | some ad =>
  refine H1.app hzs (by decide) hx hy hr (by simp) (fun w hM => ?_) h1 hnm hb hd hn
  intro j u hu
  obtain ⟨a', c', h2, h3, h4⟩ := hR w hM
  cases h2
  rcases h4 with rfl | ⟨b, off, h5, h6, h7⟩
  ·simp at hu
  ·cases h5; rw [add_lit]; exact h7 j u hu
 | none =>
  intro w hM
  obtain ⟨a', c', h2, h3, h4⟩ := hR w hM
  cases h2
  have e0 : vs = [] := by
   rcases h4 with h4 | ⟨b, off, h5, -⟩
   ·exact h4
   ·cases h5
  subst e0
  obtain ⟨i, hi1, hi2, hi3, hi4⟩ := hi.parts
  have hsame : H = H' a c := Rpl.same (x := A.grow e 1 a c n xs) (by have := hr a c; simpa using this)
  have hown := hM.own (hr a c).mem
  refine W1.run (v := .slice a n c) (w' := w) (fun ac ha => ?_) rfl hd (by have := hn a c ha0 w (hsame ▸ hM); rwa [List.length_nil, Nat.add_zero] at this)
  have hrun := run_append_none (P := P) 0 t ty e i 1 h.is hi1 (.slice a n c) n c2 xs hown
  simp only [List.length_nil] at hy
  simp only [execOp, resolve, invoke, Go.builtin, Sem.run_bind, Sem.run_pure, Result.andThen, List.map_toArray, List.map_cons, List.map_nil, ha.ev hx, ha.ev hy, hrun]
theorem HO.drop_a {P : Program} {N : Nat} {ds : List Deferred} {ol : List Oper} {Q : Post} {E : Env} {w0 : World} {H : List Atom} {fuel : Nat} {listed : Array Bool} {ty : TypeId} {pos : String} {af : Array Edge} {op : Op} {d : Option Nat} {i j : Nat} {want b : Bool} (hj : guardE ol E j = some b)
  (h : HA P N ds ol fuel (listed.setIfInBounds i true) Q (putE d undef E) w0 H)
  (hb : b = !want := by
   first | with_reducible rfl | assumption | (simp only [Bool.not_true, Bool.not_false]; done) | (simp only [decide_eq_true_eq, decide_eq_false_iff_not, Bool.not_true, Bool.not_false, not_true_eq_false, not_false_eq_true, reduceCtorEq]; first | done | assumption | omega)) (hd : dOk d N = true := by exact rfl) : HO P N ds ol fuel listed i ⟨d, op, ty, pos, af, some (j, want)⟩ Q E w0 H := fun w hM a ha => by
 have hy := guardE_spec hj ha
 have hne : ((some (!want) : Option Bool) == some want) = false := by cases want <;> rfl
 simp only [Region.wanted, hy, hb, hne, Bool.false_eq_true, if_false]
 exact h w hM _ (ha.putO hd undef)
section
variable {l : List (Addr × Value)} {w0 : World} {H : List Atom}
variable {P : Program} {N : Nat} {ds : List Deferred} {ol : List Oper} {Q : Post} {E : Env} {fuel : Nat} {listed : Array Bool} {ty : TypeId} {pos : String} {af : Array Edge}
end
end Go.Sx
/-
 More operations that ask nothing of the world: quotients and shifts of any number; a slice from an index on.
-/
namespace Go.Sx
open Go Go.RowKit
section
variable {P : Program} {N : Nat} {ds : List Deferred} {E : Env} {t ty t' : TypeId} {x y lo : Operand} {m n : Int} {k' : IntKind}
theorem tdiv_abs {m n : Int} (h : 0 < n) (h1 : -9223372036854775808 ≤ m) (h2 : m ≤ 9223372036854775807) : -9223372036854775808 ≤ m.tdiv n ∧ m.tdiv n ≤ 9223372036854775807 := by
 by_cases hm : 0 ≤ m
 ·rw [Int.tdiv_eq_ediv_of_nonneg hm]
  have h3 := Int.ediv_le_self n hm
  have h4 := Int.ediv_nonneg hm (Int.le_of_lt h)
  omega
 ·have e : m.tdiv n = -((-m) / n) := by
   rw [← Int.tdiv_eq_ediv_of_nonneg (by omega), Int.neg_tdiv, Int.neg_neg]
  have h3 := Int.ediv_le_self n (show 0 ≤ -m by omega)
  have h4 := Int.ediv_nonneg (show 0 ≤ -m by omega) (Int.le_of_lt h)
  omega
theorem POp.quoT (hx : Env.ev E x = some (.int .i64 m)) (hy : Env.ev E y = some (.int .i64 n)) (h0 : -9223372036854775808 ≤ m) (h1 : m ≤ 9223372036854775807) (h2 : 0 < n) :
  POp P N ds E (.binOp .quo t x y t') ty (.int .i64 (m.tdiv n)) := POp.bin hx hy guard_int fun w => by
 have e : n ≠ 0 := by omega
 rw [binOp_quo]
 simp only [Op.intDiv, e, if_false]
 have h3 := tdiv_abs h2 h0 h1
 rw [IntWalk.i64_in _ ⟨h3.1, h3.2⟩]; rfl
theorem shr_abs {m : Int} (n : Nat) (h1 : -9223372036854775808 ≤ m) (h2 : m ≤ 9223372036854775807) : -9223372036854775808 ≤ m / 2 ^ n ∧ m / 2 ^ n ≤ 9223372036854775807 := by
 have hp : (0 : Int) < 2 ^ n := Int.pow_pos (by decide)
 constructor
 ·refine Int.le_ediv_of_mul_le hp ?_
  have : (1 : Int) ≤ 2 ^ n := hp
  generalize (2 : Int) ^ n = q at *
  omega
 ·by_cases h : 0 ≤ m
  ·have := Int.ediv_le_self (2 ^ n) h
   omega
  ·have := Int.ediv_neg_of_neg_of_pos (show m < 0 by omega) hp
   omega
theorem POp.shrI {b : Nat} (hx : Env.ev E x = some (.int .i64 m)) (hy : Env.ev E y = some (.int k' n)) (en : n = (b : Int)) (h1 : b < 64) :
  POp P N ds E (.binOp .shr t x y t') ty (.int .i64 (m / 2 ^ b)) := POp.bin hx hy guard_int fun w => by
 subst en
 rw [binOp_shr, shift_shr_i64 k' m b (by omega) (by omega)]
 simp
theorem POp.cut_l {e : TypeId} {b off l c : Nat} {z : Value} {sz bb : Nat} [h : UTy P t (.slice e)] [hi' : ITy P e z sz bb] (hx : Env.ev E x = some (.slice (some ⟨b, off, none⟩) l c))
  (hl : Env.ev E lo = some (.int k' m)) (h0 : 0 ≤ m) (h1 : m ≤ l) (hne : m < c) :
  POp P N ds E (.slice t x (some lo) none none) ty (.slice (some ⟨b, off + m.toNat * sz, none⟩) (l - m.toNat) (c - m.toNat)) := fun a ha d pos af g w => by
 have hc : ¬ c = m.toNat := by omega
 simp [execOp, ha.ev hx, ha.ev hl, Instr.sliceAt, Instr.slice, run_underlying h.is, Instr.sliceBounds, run_bound h0 h1, Sem.run_bind, run_sizeOf, hc, add_lit]
end
end Go.Sx
/- Chapter 20: records as they lie in the memory; equality of records. -/
namespace Go.Sx
open Go Go.Proofs
def rcells (r : Rc) : List Value := [zv r.kind, zv r.id, zv r.version, zv r.day, .bool r.gone, zv r.start, zv r.stop, zv r.pack, zv r.person, zv r.role, zv r.purpose, zv r.clause, .bool r.adm, zv r.party, .string r.text]
abbrev recV (r : Rc) : Value := .agg (rcells r).toArray
def i64W (x : Int) : Prop := -9223372036854775808 ≤ x ∧ x ≤ 9223372036854775807
theorem i64W.wf {x : Int} (h : i64W x) : (Lit.int .i64 x).wf = true := by
 obtain ⟨h1, h2⟩ := h
 have e1 : IntKind.i64.min = -9223372036854775808 := rfl
 have e2 : IntKind.i64.max = 9223372036854775807 := rfl
 simp only [Lit.wf, Bool.and_eq_true, decide_eq_true_eq, e1, e2]
 omega
structure RcOk (r : Rc) : Prop where
 kind : i64W r.kind
 id : i64W r.id
 version : i64W r.version
 day : i64W r.day
 start : i64W r.start
 stop : i64W r.stop
 pack : i64W r.pack
 person : i64W r.person
 role : i64W r.role
 purpose : i64W r.purpose
 clause : i64W r.clause
 party : i64W r.party
 text : r.text.size ≤ maxLen
def rlits (r : Rc) : List Lit := [.int .i64 r.kind, .int .i64 r.id, .int .i64 r.version, .int .i64 r.day, .bool r.gone, .int .i64 r.start, .int .i64 r.stop, .int .i64 r.pack, .int .i64 r.person, .int .i64 r.role, .int .i64 r.purpose, .int .i64 r.clause, .bool r.adm, .int .i64 r.party, .string r.text.data.toList]
theorem rlits_inj {r s : Rc} (h : rlits r = rlits s) : r = s := by
 unfold rlits at h
 simp only [List.cons.injEq, Lit.int.injEq, Lit.bool.injEq, Lit.string.injEq, true_and, and_true] at h
 obtain ⟨h1, h2, h3, h4, h5, h6, h7, h8, h9, h10, h11, h12, h13, h14, h15⟩ := h
 cases r; cases s
 simp only at h1 h2 h3 h4 h5 h6 h7 h8 h9 h10 h11 h12 h13 h14 h15
 have h15' := ByteArray_ext' h15
 subst h1 h2 h3 h4 h5 h6 h7 h8 h9 h10 h11 h12 h13 h14 h15'
 rfl
theorem keyLits_rec {r : Rc} (h : RcOk r) : Tryz.prog.keyLits 3 33 (rcells r) = some (rlits r) := by
 have c1 : Tryz.prog.cellsOf 3 = 1 := by kernel_rfl
 have c2 : Tryz.prog.cellsOf 4 = 1 := by kernel_rfl
 have c3 : Tryz.prog.cellsOf 9 = 1 := by kernel_rfl
 have c4 : Tryz.prog.cellsOf 33 = 15 := by kernel_rfl
 have w1 := h.kind.wf
 have w2 := h.id.wf
 have w3 := h.version.wf
 have w4 := h.day.wf
 have w5 := h.start.wf
 have w6 := h.stop.wf
 have w7 := h.pack.wf
 have w8 := h.person.wf
 have w9 := h.role.wf
 have w10 := h.purpose.wf
 have w11 := h.clause.wf
 have w12 := h.party.wf
 have w13 := h.text
 simp [Program.keyLits, Tryz.underlying33, Tryz.underlying3, Tryz.underlying4, Tryz.underlying9, c1, c2, c3, c4, rcells, rlits, w1, w2, w3, w4, w5, w6, w7, w8, w9, w10, w11, w12, w13]
theorem formed_rec (r : Rc) : (recV r).formed Tryz.prog 33 = true := by
 have c4 : Tryz.prog.cellsOf 33 = 15 := by kernel_rfl
 simp [Value.formed, Tryz.underlying33, c4, rcells]
open Classical in
theorem run_eqRec {r s : Rc} (hr : RcOk r) (hs : RcOk s) (w : World) : (Op.equal 33 (recV r) (recV s)).run Tryz.prog w = .ok (decide (r = s)) w := by
 have hk : Tryz.prog.keyTypeAt 3 33 = true := by kernel_rfl
 obtain ⟨b, h1, h2⟩ := run_equalIn_deep (P := Tryz.prog) 9997 3 33 hk w 3 3 (recV r) (recV s) (rlits r) (rlits s) (formed_rec r) (formed_rec s) (by simpa [Value.cells] using keyLits_rec hr) (by simpa [Value.cells] using keyLits_rec hs)
 have e : b = decide (r = s) := by
  rw [Bool.eq_iff_iff, h2, decide_eq_true_eq]
  exact ⟨rlits_inj, fun e => by rw [e]⟩
 rw [← e]; exact h1
open Classical in
theorem POp.eqRec {N : Nat} {ds : List Deferred} {E : Env} {x y : Operand} {t' ty : TypeId} {r s : Rc} (hx : Env.ev E x = some (recV r)) (hy : Env.ev E y = some (recV s)) (hr : RcOk r) (hs : RcOk s) :
  POp Tryz.prog N ds E (.binOp .eql 33 x y t') ty (.bool (decide (r = s))) :=
 POp.bin hx hy (fun w => run_eqGuard_agg w _ _ _ _ _ _ (by kernel_rfl)) fun w => by
  have h := run_eqRec hr hs w
  simp only [Go.binOp, Sem.run_bind, h, Result.andThen, Sem.run_pure]
end Go.Sx
