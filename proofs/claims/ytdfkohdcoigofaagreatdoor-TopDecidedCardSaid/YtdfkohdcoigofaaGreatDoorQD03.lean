/-
  The layer with atoms: numbers without sign of 64 bits; maps with numbers as keys that are looked up, filled and ranged over.
-/
import Derived.Test.YtdfkohdcoigofaaGreatDoorQD02
import Derived.Maps.RangeRun
import Derived.Test.YtdfkohdcoigofaaGreatDoorProg
import Derived.Laws.OwnMore
import Derived.Shelf.Strings.Builder1
import Derived.Shelf.Strings.Builder2
import Derived.Shelf.Strings.OnBuilder
import Derived.Shelf.Strings.Trim
import Derived.Shelf.Small.Utf8
import Derived.Shelf.Small.Bits
import Derived.Shelf.Small.Strs
import Derived.Shelf.Small.Wraps
import Derived.Shelf.Strings.BuilderF
import Derived.Shelf.Strings.BuilderK
import Derived.Shelf.Strings.BuilderRune
import Derived.Shelf.Utf8.AppendRune
import Derived.Shelf.Utf8.AppendRunePlain
import Derived.Shelf.Utf8.RuneCount
import Derived.Shelf.Strings.Builder2Cap
import Derived.Shelf.Strconv.Itoa0
import Derived.Shelf.Strings.Search1
import Derived.Shelf.Strings.Search2
import Derived.Shelf.Strings.Search3
import Derived.Shelf.Strings.Count
import Derived.Shelf.LaysM
import Derived.Shelf.Strings.Shaped
import Derived.Shelf.Sort.Plain
import Derived.Shelf.GgClosure.StringsIndexFunc
import Derived.Ground.GgwProg
import Derived.Shelf.GgClosure.StringsIndexFuncTop
import Derived.Shelf.Strings.Prefix
import Derived.Shelf.Unicode.Latin
import Derived.Shelf.Unicode.Decode
import Derived.Shelf.Strings.Runes
import Derived.Shelf.Strings.AsciiSet
import Derived.Shelf.Bits.Mul64
import Derived.Shelf.Strings.Repeat
import Derived.Shelf.Unicode.DecodeSlow
import Derived.Shelf.Unicode.DecodeAny
import Derived.Shelf.Unicode.DecodeLast
import Derived.Shelf.Unicode.CaseLookup
import Derived.Shelf.Unicode.CaseConvert
import Derived.Shelf.Unicode.CaseTo
import Derived.Shelf.Unicode.CaseLaid
import Derived.Shelf.Strings.BuilderCap
import Derived.Shelf.Slices.Turned
import Derived.Ground.Names2Prog
import Derived.Shelf.Slices.Clone
import Derived.Shelf.Slices.CompactI
import Derived.Shelf.Slices.SearchI
import Derived.Shelf.Slices.Cells
import Derived.Shelf.Slices.In.SortNone
import Derived.Ground.SlgnProg
import Derived.Shelf.SlicesE.Clone
namespace Go.Sx
open Go Go.RowKit
theorem wrap_u64 {n : Nat} (h : n < 18446744073709551616) : IntKind.u64.wrap (n : Int) = (n : Int) := by
  simp [IntKind.wrap, IntKind.bits, IntKind.signed]; omega
section
variable {P : Program} {r : Option Nat} {N : Nat} {ds : List Deferred} {E : Env} {t t' ty : TypeId} {x y : Operand} {k' : IntKind} {m n : Int} {a b : Nat}
theorem POp.and64 (hx : Env.ev E x = some (.int .u64 m)) (hy : Env.ev E y = some (.int .u64 n)) (em : m = (a : Int)) (en : n = (b : Int)) (h1 : a < 18446744073709551616) (h2 : b < 18446744073709551616) :
    POp P N ds E (.binOp .and t x y t') ty (.int .u64 ((a &&& b : Nat) : Int)) := POp.bin hx hy guard_int fun w => by
  subst em; subst en
  have e : bits .and .u64 (a : Int) (b : Int) = ((a &&& b : Nat) : Int) := by
    show IntKind.u64.wrap (((BitVec.ofInt 64 a &&& BitVec.ofInt 64 b).toNat : Nat) : Int) = _
    rw [BitVec.toNat_and, ofInt_toNat a h1, ofInt_toNat b h2]
    exact wrap_u64 (Nat.lt_of_le_of_lt Nat.and_le_left h1)
  rw [binOp_and, intBits_and, e]; rfl
theorem POp.or64 (hx : Env.ev E x = some (.int .u64 m)) (hy : Env.ev E y = some (.int .u64 n)) (em : m = (a : Int)) (en : n = (b : Int)) (h1 : a < 18446744073709551616) (h2 : b < 18446744073709551616) :
    POp P N ds E (.binOp .or t x y t') ty (.int .u64 ((a ||| b : Nat) : Int)) := POp.bin hx hy guard_int fun w => by
  subst em; subst en
  have e : bits .or .u64 (a : Int) (b : Int) = ((a ||| b : Nat) : Int) := by
    show IntKind.u64.wrap (((BitVec.ofInt 64 a ||| BitVec.ofInt 64 b).toNat : Nat) : Int) = _
    rw [BitVec.toNat_or, ofInt_toNat a h1, ofInt_toNat b h2]
    exact wrap_u64 (Nat.or_lt_two_pow (n := 64) h1 h2)
  rw [binOp_or, intBits_or, e]; rfl
theorem POp.shr64 (hx : Env.ev E x = some (.int .u64 m)) (hy : Env.ev E y = some (.int k' n)) (em : m = (a : Int)) (en : n = (b : Int)) (h1 : b < 64) :
    POp P N ds E (.binOp .shr t x y t') ty (.int .u64 ((a >>> b : Nat) : Int)) := POp.bin hx hy guard_int fun w => by
  subst em; subst en
  rw [binOp_shr, shift_shr .u64 k' a b (by omega) (by simp [IntKind.bits]; omega), Nat.shiftRight_eq_div_pow]
  simp
theorem POp.shl64 (hx : Env.ev E x = some (.int .u64 m)) (hy : Env.ev E y = some (.int k' n)) (em : m = (a : Int)) (en : n = (b : Int)) (h1 : b < 64) (h2 : a <<< b < 18446744073709551616) :
    POp P N ds E (.binOp .shl t x y t') ty (.int .u64 ((a <<< b : Nat) : Int)) := POp.bin hx hy guard_int fun w => by
  subst em; subst en
  have e : ((a : Int) * 2 ^ ((b : Int).toNat)) = ((a <<< b : Nat) : Int) := by rw [Nat.shiftLeft_eq]; simp
  rw [binOp_shl, shift_shl .u64 k' a b (by omega) (by simp [IntKind.bits]; omega), e, wrap_u64 h2]; rfl
end
theorem midx_get (l : List (Int × Value)) (x : Int) : (midx l x).map (·.2) = mget l x := by
  induction l with
  | nil => rfl
  | cons p l ih =>
    obtain ⟨y, u⟩ := p
    simp only [midx, mget]
    split
    · rfl
    · rw [← ih]; cases midx l x <;> rfl
/-- A map that may be ranged over: what it holds, in the order in which it came; no stamp twice. -/
structure MQ (q : IntKind) (l : List (Int × Value)) (es : Array MapEntry) (clk : Nat) : Prop where
  ents : es.toList.map (fun e => (e.key, e.val)) = l.map fun p => (Value.int q p.1, p.2)
  born : ∀ e ∈ es.toList, e.born < clk
  nd : (es.toList.map (·.born)).Nodup
theorem MQ.nil (q : IntKind) : MQ q [] #[] 0 := ⟨rfl, by simp, by simp⟩
theorem MQ.ent {q : IntKind} {l : List (Int × Value)} {es : Array MapEntry} {clk : Nat} (h : MQ q l es clk) {e : MapEntry} (he : e ∈ es.toList) : ∃ p ∈ l, e.key = .int q p.1 ∧ e.val = p.2 := by
  have h1 : (e.key, e.val) ∈ es.toList.map (fun e => (e.key, e.val)) := List.mem_map.2 ⟨e, he, rfl⟩
  rw [h.ents] at h1
  obtain ⟨p, hp, e1⟩ := List.mem_map.1 h1
  simp only [Prod.mk.injEq] at e1
  exact ⟨p, hp, e1.1.symm, e1.2.symm⟩
theorem MQ.of {q : IntKind} {l : List (Int × Value)} {es : Array MapEntry} {clk : Nat} (h : MQ q l es clk) {p : Int × Value} (hp : p ∈ l) : ∃ e ∈ es.toList, e.key = .int q p.1 ∧ e.val = p.2 := by
  have h1 : (Value.int q p.1, p.2) ∈ l.map fun p => (Value.int q p.1, p.2) := List.mem_map.2 ⟨p, hp, rfl⟩
  rw [← h.ents] at h1
  obtain ⟨e, he, e1⟩ := List.mem_map.1 h1
  simp only [Prod.mk.injEq] at e1
  exact ⟨e, he, e1.1, e1.2⟩
def mqP (q : IntKind) (l : List (Int × Value)) (o : Obj) : Prop := ∃ es clk, o = .map es clk ∧ MQ q l es clk
def A.mq (b : Nat) (q : IntKind) (l : List (Int × Value)) : Atom := A.obj b (mqP q l)
/-- An iterator over map b: the stamps of what has come. -/
def A.mit (r b clk : Nat) (seen : Array Nat) : Atom := A.obj r fun o => o = .mapIter (some b) clk seen clk
section
variable {P : Program} {w : World} {t k e : TypeId} {q : IntKind} {b : Nat} {l : List (Int × Value)} {o : Obj} {z : Value} {sz bb : Nat}
theorem run_lookup_mq (ht : P.underlying t = some (.map k e)) (hk : P.underlying k = some (.int q)) [hi : ITy P e z sz bb] (hb : w.heap[b]? = some o) (ho : mqP q l o) (x : Int) :
    (Instr.lookup t (.map (some b)) (.int q x) false).run P w = .ok ((mget l x).getD z) w := by
  obtain ⟨es, clk, rfl, h⟩ := ho
  have hf := run_findKey_int (P := P) (w := w) hk x es.toList l h.ents
  unfold Instr.lookup
  simp only [Sem.run_bind, run_underlying ht, Result.andThen, run_getMap hb, Sem.run_pure, run_checkKey_int hk _ 9999 x, hf]
  rw [← midx_get]
  cases midx l x with
  | none => simp [run_zeroValue (h := hi)]
  | some p => simp
theorem run_mapUpdate_mq (ht : P.underlying t = some (.map k e)) (hk : P.underlying k = some (.int q)) (hb : w.heap[b]? = some o) (ho : mqP q l o) (x : Int) (v : Value) :
    ∃ o', (Instr.mapUpdate t (.map (some b)) (.int q x) v).run P w = .ok () (w.putObj b o') ∧ mqP q (mset l x v) o' := by
  obtain ⟨es, clk, rfl, h⟩ := ho
  have hes := h.ents
  have hf := run_findKey_int (P := P) (w := w) hk x es.toList l hes
  have hlen : es.size = l.length := by have := congrArg List.length hes; simpa using this
  cases hm : midx l x with
  | none =>
    refine ⟨.map (es.push { key := .int q x, val := v, born := clk }) (clk + 1), ?_, ?_⟩
    · rw [hm] at hf
      unfold Instr.mapUpdate
      simp only [Sem.run_bind, run_underlying ht, Result.andThen, run_getMap hb, run_checkKey_int hk _ 9999 x, hf, run_setMap _ hb]
    · refine ⟨_, _, rfl, ?_, ?_, ?_⟩
      · rw [midx_none v hm]
        simp [hes]
      · intro y hy
        rw [Array.toList_push] at hy
        rcases List.mem_append.1 hy with hy | hy
        · exact Nat.lt_succ_of_lt (h.born y hy)
        · rw [List.mem_singleton] at hy; subst hy; exact Nat.lt_succ_self _
      · rw [Array.toList_push, List.map_append]
        refine List.nodup_append.2 ⟨h.nd, by simp, fun a ha c hc e => ?_⟩
        obtain ⟨y, hy, rfl⟩ := List.mem_map.1 ha
        simp only [List.map_cons, List.map_nil, List.mem_singleton] at hc
        have := h.born y hy
        omega
  | some p =>
    obtain ⟨i, u⟩ := p
    obtain ⟨h1, h2, h3⟩ := midx_some v hm
    have hi : i < es.size := by omega
    have hkey : es[i].key = .int q x := by
      have := congrArg (fun l => l[i]?) hes
      simp [h3, hi] at this
      exact this.1
    have hb2 : (es.modify i fun e => { e with key := .int q x, val := v }).toList.map (·.born) = es.toList.map (·.born) := by
      apply List.ext_getElem?
      intro j
      simp only [List.getElem?_map, Array.getElem?_toList]
      rw [Array.getElem?_modify]
      by_cases e : i = j
      · subst e; simp [hi]
      · simp [e]
    refine ⟨.map (es.modify i fun e => { e with key := .int q x, val := v }) clk, ?_, ?_⟩
    · rw [hm] at hf
      have hk2 : ((es[i]?).map (·.key)).getD (.int q x) = .int q x := by simp [hi, hkey]
      unfold Instr.mapUpdate
      simp only [Sem.run_bind, run_underlying ht, Result.andThen, run_getMap hb, run_checkKey_int hk _ 9999 x, hf, hk2, run_keyStays, run_setMap _ hb]
    · refine ⟨_, _, rfl, ?_, ?_, ?_⟩
      · rw [h1]
        apply List.ext_getElem?
        intro j
        have hj := congrArg (fun l => l[j]?) hes
        simp only [List.getElem?_map, Array.getElem?_toList] at hj ⊢
        rw [Array.getElem?_modify, List.getElem?_set]
        by_cases e : i = j
        · subst e
          simp [hi, h2]
        · simp only [if_neg e]
          exact hj
      · intro y hy
        have h4 : y.born ∈ (es.modify i fun e => { e with key := .int q x, val := v }).toList.map (·.born) := List.mem_map.2 ⟨y, hy, rfl⟩
        rw [hb2] at h4
        obtain ⟨y0, h5, h6⟩ := List.mem_map.1 h4
        rw [← h6]; exact h.born y0 h5
      · rw [hb2]; exact h.nd
end
section
variable {P : Program} {r : Option Nat} {N : Nat} {ds : List Deferred} {ol rest : List Oper} {Q : Post} {E : Env} {w0 : World} {H : List Atom} {next : Act → World → Prop} {g : Option (Nat × Bool)}
variable {d : Nat} {t ty : TypeId} {pos : String} {af : Array Edge} {x y z : Operand}
theorem H1.mkmq (q : IntKind) (hd : Nat.blt d N = true) (h : ∀ b, HN N ds next ((d, .map (some b)) :: E) w0 (A.mq b q [] :: H)) : H1 P r N ds next ⟨some d, .makeMap t none, ty, pos, af, g⟩ Q E w0 H := fun w hM =>
  W1.run (v := .map (some w.heap.size)) (w' := w.alloc (.map #[] 0)) (fun _ _ => rfl) rfl hd (h _ _ (by
    refine (hM.more (Ext.alloc w _)).cons ⟨_, World.alloc_heap_new w _, _, _, rfl, MQ.nil q⟩ (by simp [A.mq, A.obj]) fun b hb => ?_
    have hb' : b = w.heap.size := by simpa [A.mq, A.obj] using hb
    subst hb'
    refine ⟨fun hm => ?_, hM.ext.size, by simp⟩
    have := (hM.rng _ hm).2
    omega))
theorem H1.mqget {b : Nat} {k e : TypeId} {q : IntKind} {l : List (Int × Value)} {n : Int} {zv : Value} {sz bb : Nat} [ht : UTy P t (.map k e)] [hk : UTy P k (.int q)] [hi : ITy P e zv sz bb] (hx : Env.ev E x = some (.map (some b))) (hy : Env.ev E y = some (.int q n))
    (hm : A.mq b q l ∈ H) (hd : Nat.blt d N = true) (h : HN N ds next ((d, (mget l n).getD zv) :: E) w0 H) : H1 P r N ds next ⟨some d, .lookup t x y false, ty, pos, af, g⟩ Q E w0 H := fun w hM => by
  obtain ⟨o, h1, h2⟩ : ∃ o, w.heap[b]? = some o ∧ mqP q l o := hM.all _ hm
  refine W1.run (v := (mget l n).getD zv) (w' := w) (fun a ha' => ?_) rfl hd (h w hM)
  simp only [execOp, ha'.ev hx, ha'.ev hy, Sem.run_bind, run_lookup_mq ht.is hk.is h1 h2 n, Result.andThen, Sem.run_pure]
theorem H1.mqset {b : Nat} {k e : TypeId} {q : IntKind} {l : List (Int × Value)} {n : Int} {v : Value} {H' : List Atom} [ht : UTy P t (.map k e)] [hk : UTy P k (.int q)] (hx : Env.ev E x = some (.map (some b))) (hy : Env.ev E y = some (.int q n)) (hz : Env.ev E z = some v)
    (hr : Rpl (A.mq b q l) (A.mq b q (mset l n v)) H H') (h : HN N ds next E w0 H') : H1 P r N ds next ⟨none, .mapUpdate t x y z, ty, pos, af, g⟩ Q E w0 H := fun w hM => by
  obtain ⟨o, hb, ho⟩ : ∃ o, w.heap[b]? = some o ∧ mqP q l o := hM.all _ hr.mem
  obtain ⟨o', hrun, ho'⟩ := run_mapUpdate_mq (P := P) ht.is hk.is hb ho n v
  have hlt := (Array.getElem?_eq_some_iff.1 hb).1
  refine W1.skip (w' := w.putObj b o') (fun a ha => ?_) rfl rfl (h _ (hM.turn hr rfl rfl rfl (by simp) (fun k _ hk' => ?_) ⟨o', World.putObj_heap_same hlt, ho'⟩ (by simp [A.mq, A.obj]) fun b' hb' => .inl hb'))
  · simp only [execOp, ha.ev hx, ha.ev hy, ha.ev hz, Sem.run_bind, hrun, Result.andThen, Sem.run_pure]
  · exact World.putObj_heap_other (by simpa [A.mq, A.obj] using hk')
theorem H1.mqrange {b clk : Nat} {k e : TypeId} {es : Array MapEntry} [ht : UTy P t (.map k e)] (hx : Env.ev E x = some (.map (some b))) (hb : ∀ w, Mm w0 H w → w.heap[b]? = some (.map es clk)) (hd : Nat.blt d N = true)
    (h : ∀ i, HN N ds next ((d, .pointer (some ⟨i, 0, none⟩)) :: E) w0 (A.mit i b clk #[] :: H)) : H1 P r N ds next ⟨some d, .range t x, ty, pos, af, g⟩ Q E w0 H := fun w hM => by
  refine W1.run (v := .pointer (some ⟨w.heap.size, 0, none⟩)) (w' := w.alloc (.mapIter (some b) clk #[] clk)) (fun a ha => ?_) rfl hd (h _ _ ?_)
  · simp only [execOp, ha.ev hx, Instr.range, Sem.run_bind, run_underlying ht.is, run_getMap (hb w hM), Result.andThen, Sem.run_pure, run_newObj_alloc]
  · refine (hM.more (Ext.alloc w _)).cons ⟨_, World.alloc_heap_new w _, rfl⟩ (by simp [A.mit, A.obj]) fun b' hb' => ?_
    have hb2 : b' = w.heap.size := by simpa [A.mit, A.obj] using hb'
    subst hb2
    refine ⟨fun hm => ?_, hM.ext.size, by simp⟩
    have := (hM.rng _ hm).2
    omega
theorem H1.mqnext {i b clk : Nat} {es : Array MapEntry} {seen : Array Nat} {H' : Array Nat → List Atom} (hx : Env.ev E x = some (.pointer (some ⟨i, 0, none⟩))) (hb : ∀ w, Mm w0 H w → w.heap[b]? = some (.map es clk)) (hborn : ∀ e ∈ es.toList, e.born < clk)
    (hr : ∀ s, Rpl (A.mit i b clk seen) (A.mit i b clk s) H (H' s)) (hd : Nat.blt d N = true)
    (h0 : (∀ e ∈ es.toList, e.born ∈ seen) → HN N ds next ((d, .tuple #[.bool false]) :: E) w0 H)
    (h1 : ∀ e ∈ es.toList, e.born ∉ seen → HN N ds next ((d, .tuple #[.bool true, e.key, e.val]) :: E) w0 (H' (seen.push e.born))) : H1 P r N ds next ⟨some d, .next x false, ty, pos, af, g⟩ Q E w0 H := fun w hM => by
  have hr0 : w.heap[i]? = some (.mapIter (some b) clk seen clk) := by
    obtain ⟨o, h1, rfl⟩ : ∃ o, w.heap[i]? = some o ∧ o = .mapIter (some b) clk seen clk := hM.all _ (hr #[]).mem
    exact h1
  have hlt := (Array.getElem?_eq_some_iff.1 hr0).1
  rcases run_next_at (P := P) w ty i b clk clk seen es clk hr0 (hb w hM) hborn (Nat.le_refl _) with ⟨hz, hrun⟩ | ⟨e, he, w1, hw1, hrun⟩
  · refine W1.run (v := .tuple #[.bool false]) (w' := w) (fun a ha => ?_) rfl hd (h0 (fun e he => ?_) w hM)
    · simp only [execOp, ha.ev hx, Sem.run_bind, hrun, Result.andThen, Sem.run_pure]
    · refine Classical.byContradiction fun hn => ?_
      have : leftOf es seen = #[] := Array.eq_empty_of_size_eq_zero hz
      unfold leftOf at this
      rw [Array.filter_eq_empty_iff] at this
      exact this e (by simpa using he) (by simp [hn])
  · have he2 : e ∈ es.toList ∧ e.born ∉ seen := by
      unfold leftOf at he
      simp at he
      exact ⟨by simpa using he.1, he.2⟩
    have hM1 : Mm w0 H w1 := by
      rcases hw1 with rfl | rfl
      · exact hM
      · exact hM.more (Ext.drew w)
    refine W1.run (v := .tuple #[.bool true, e.key, e.val]) (w' := ChangeMaps.setBlock w1 i (.mapIter (some b) clk (seen.push e.born) clk)) (fun a ha => ?_) rfl hd (h1 e he2.1 he2.2 _ ?_)
    · simp only [execOp, ha.ev hx, Sem.run_bind, hrun, Result.andThen, Sem.run_pure]
    · have hlt1 : i < w1.heap.size := by rcases hw1 with rfl | rfl <;> exact hlt
      refine hM1.turn (hr _) rfl rfl rfl (by simp [ChangeMaps.setBlock]) (fun k _ hk => ?_) ⟨_, by simp [ChangeMaps.setBlock, hlt1], rfl⟩ (by simp [A.mit, A.obj]) fun b' hb' => .inl hb'
      have hne : i ≠ k := fun e => hk (by simp [A.mit, A.obj, e])
      simp [ChangeMaps.setBlock, hne]
theorem H1.mqentry {i b clk : Nat} {es : Array MapEntry} {seen : Array Nat} {e : MapEntry} (hx : Env.ev E x = some (.pointer (some ⟨i, 0, none⟩))) (hb : ∀ w, Mm w0 H w → w.heap[b]? = some (.map es clk)) (he : e ∈ es.toList) (hn : (es.toList.map (·.born)).Nodup)
    (hm : A.mit i b clk (seen.push e.born) ∈ H) (hd : Nat.blt d N = true) (h : HN N ds next ((d, .tuple #[e.key, e.val]) :: E) w0 H) : H1 P r N ds next ⟨some d, .entry x, ty, pos, af, g⟩ Q E w0 H := fun w hM => by
  have hr0 : w.heap[i]? = some (.mapIter (some b) clk (seen.push e.born) clk) := by
    obtain ⟨o, h1, rfl⟩ : ∃ o, w.heap[i]? = some o ∧ o = .mapIter (some b) clk (seen.push e.born) clk := hM.all _ hm
    exact h1
  refine W1.run (v := .tuple #[e.key, e.val]) (w' := w) (fun a ha => ?_) rfl hd (h w hM)
  simp only [execOp, ha.ev hx, Sem.run_bind, run_entry_at w i b clk seen es clk e hr0 (hb w hM) he hn, Result.andThen, Sem.run_pure]
end
/-- How many entries are still to come. -/
def mleft (es : Array MapEntry) (seen : Array Nat) : Nat := (es.toList.filter fun e => decide (e.born ∉ seen)).length
theorem mleft_lt {es : Array MapEntry} {seen : Array Nat} {e : MapEntry} (he : e ∈ es.toList) (hn : e.born ∉ seen) : mleft es (seen.push e.born) < mleft es seen := by
  unfold mleft
  have h1 : (es.toList.filter fun x => decide (x.born ∉ seen.push e.born)) = (es.toList.filter fun x => decide (x.born ∉ seen)).filter fun x => decide (x.born ≠ e.born) := by
    rw [List.filter_filter]
    refine List.filter_congr fun x _ => ?_
    rw [Bool.eq_iff_iff, Bool.and_eq_true, decide_eq_true_eq, decide_eq_true_eq, decide_eq_true_eq, Array.mem_push, not_or]
    exact And.comm
  rw [h1]
  exact List.length_filter_lt_length_iff_exists.2 ⟨e, List.mem_filter.2 ⟨he, decide_eq_true hn⟩, by simp⟩
end Go.Sx
/-
  The layer with atoms: aggregates loaded first in open orders; several results; the head of a slice; slices of structs.
-/
namespace Go.Sx
open Go Go.RowKit
/-- The cells of a block from its beginning on. -/
def cellsA (b : Nat) (vs : List Value) : List (Addr × Value) := vs.zipIdx.map fun p => (⟨b, p.2, none⟩, p.1)
section
variable {P : Program} {N : Nat} {ds : List Deferred} {ol : List Oper} {Q : Post} {E : Env} {w0 : World} {H : List Atom} {fuel : Nat} {listed : Array Bool} {ty : TypeId} {pos : String} {af : Array Edge} {l : List (Addr × Value)}
/- several results -/
def ResAll (P : Program) (E : Env) (w : World) : List ResultVar → List Value → Prop
  | [], [] => True
  | .tmp t :: rs, v :: vs => Env.g E t = some v ∧ ResAll P E w rs vs
  | .cell p t :: rs, v :: vs => (∃ ad, Env.g E p = some (.pointer (some ad)) ∧ (loadVar t ad).run P w = .ok v w) ∧ ResAll P E w rs vs
  | _, _ => False
def resOne (tmps : Array Value) : ResultVar → Sem Value
  | .tmp t => pure (tmps.getD t undef)
  | .cell a t => do loadVar t (← asAddr (tmps.getD a undef))
end
end Go.Sx
/-
  The layer with atoms: in open orders, loads of cells that stay as they are may go first, under a guard too.
-/
namespace Go.Sx
open Go Go.RowKit
section
variable {P : Program} {ops : Array Oper} {Q : Post} {C : World → Prop}
theorem op_swap_g {j : Nat} {oi oj : Oper} {t : TypeId} {x : Operand} {v : Value} (ho : oi.op = .load t x) (hx : ∀ d, oi.dst = some d → x ≠ .tmp d) (hl' : ∀ d, oi.dst = some d → d ∉ oi.looksAt ops) (hj : ops[j]? = some oj) (hap : oi.apart ops oj = true) (hsj : ∀ cs b, oj.op ≠ .select cs b)
    (hQ : ∀ c a w, Q (.panic c) (a.put oi.dst v) w → Q (.panic c) a w) {K : Act → World → Prop} {a : Act} {w : World} (hu : a.eval x ≠ undef) (hw : Region.wanted oi (yielded ops a.tmps) = true) (h : wpOpIn (FW none) 0 P ops Q j K (a.put oi.dst v) w) :
    wpOpIn (FW none) 0 P ops Q j (fun a' w' => (a'.eval x = a.eval x ∧ Region.wanted oi (yielded ops a'.tmps) = true) ∧ K (a'.put oi.dst v) w') a w := by
  have hl : oi.looksAt ops = (⟨none, .move x, oi.type, oi.pos, #[], oi.guard⟩ : Oper).looksAt ops := by simp [Oper.looksAt, ho, Op.operands]
  obtain ⟨h0, h1⟩ := apart_parts hap
  have hev : ∀ a' : Act, (a'.put oi.dst v).eval x = a'.eval x := fun a' => Act.eval_put hx
  have hwp : ∀ a' : Act, Region.wanted oi (yielded ops (a'.put oi.dst v).tmps) = Region.wanted oi (yielded ops a'.tmps) := fun a' => wanted_put oi a' oi.dst v hl'
  have s1 := wpOpIn_put (F := FW none) (n := 0) (P := P) (ops := ops) (Q := Q) (oi := ⟨none, .move x, oi.type, oi.pos, #[], oi.guard⟩) (v := a.eval x) rfl hj (h0 _ rfl hl.symm) (fun _ _ e => by cases e) hsj (fun _ _ _ h => h) (a := a.put oi.dst v) (w := w) (K := K)
    ⟨.inl ⟨(hwp a).trans hw, fun w => by show Result.ok (Next.value ((a.put oi.dst v).eval x)) w = _; rw [hev]⟩, fun _ => rfl⟩ h
  have s2 := wpOpIn_put (F := FW none) (n := 0) (P := P) (ops := ops) (Q := Q) (oi := ⟨oi.dst, .move (.const v), oi.type, oi.pos, #[], none⟩) (v := v) rfl hj (h1 _ rfl (by simp [Oper.looksAt, Op.operands])) (fun _ _ e => by cases e) hsj hQ (a := a) (w := w)
    ⟨.inl ⟨rfl, fun w => rfl⟩, fun _ => rfl⟩ s1
  refine wpOpIn_mono (fun a' w' h3 => ⟨?_, h3.2.2⟩) s2
  rcases h3.2.1.1 with ⟨h4w, h4⟩ | ⟨-, h4⟩
  · have h5 := h4 w'
    have h6 : Result.ok (Next.value ((a'.put oi.dst v).eval x)) w' = Result.ok (Next.value (a.eval x)) w' := h5
    rw [hev] at h6
    injection h6 with h7
    injection h7 with h7
    exact ⟨h7, (hwp a').symm.trans h4w⟩
  · exact absurd h4 hu
theorem anyC_load_g {i : Nat} {oi : Oper} {t : TypeId} {x : Operand} {v : Value} {fuel : Nat} {listed : Array Bool} {a : Act} {w : World} (ho : oi.op = .load t x) (hx : ∀ d, oi.dst = some d → x ≠ .tmp d) (hl' : ∀ d, oi.dst = some d → d ∉ oi.looksAt ops) (hi : ops[i]? = some oi) (hs : Region.noSelect ops = true)
    (hf : Region.free .any ops listed i = true) (hr : (Region.ready .any ops listed).contains i = true) (hQ : ∀ c a w, Q (.panic c) (a.put oi.dst v) w → Q (.panic c) a w) (hu : a.eval x ≠ undef) (hw : Region.wanted oi (yielded ops a.tmps) = true)
    (hrun : ∀ a' : Act, a'.eval x = a.eval x → ∀ w, C w → (execOp a'.eval oi).run P w = .ok (.value v) w) (h : AnyC C P ops Q fuel (listed.setIfInBounds i true) (a.put oi.dst v) w) : AnyC C P ops Q (fuel + 1) listed a w := by
  refine anyC_first (fun a' => a'.eval x = a.eval x ∧ Region.wanted oi (yielded ops a'.tmps) = true) (fun {K a' w'} hy hC hk => ?_) (fun hj hap hy h => ?_) fuel listed a w (Region.free_spec hi hf) (by simpa using hr) ⟨rfl, hw⟩ h
  · unfold wpOpIn
    rw [hi]
    dsimp only
    rw [if_pos hy.2]
    refine ⟨fun _ _ => trivial, ?_⟩
    rw [semAt_of (by rw [ho]; rfl), hrun a' hy.1 w' hC]
    exact hk
  · refine wpOpIn_mono (fun a'' w'' h3 => ⟨⟨h3.1.1.trans hy.1, h3.1.2⟩, h3.2⟩) (op_swap_g ho hx hl' hj hap (fun cs b => Region.noSelect_spec hs _ _ cs b hj) hQ (by rw [hy.1]; exact hu) hy.2 h)
end
section
variable {P : Program} {N : Nat} {ds : List Deferred} {ol : List Oper} {Q : Post} {E : Env} {w0 : World} {H : List Atom} {fuel : Nat} {listed : Array Bool} {ty : TypeId} {pos : String} {af : Array Edge} {l : List (Addr × Value)}
theorem HB.ldg [hq : QPanic Q] {d : Nat} {t : TypeId} {x : Operand} {ad : Addr} {v : Value} {j : Nat} {want b : Bool} [hat : ATy P t false] (i : Nat) (ho : ol[i]? = some ⟨some d, .load t x, ty, pos, af, some (j, want)⟩) (hj : guardE ol E j = some b) (hx : Env.ev E x = some (.pointer (some ad))) (hc : (ad, v) ∈ l)
    (h : HB l P N ds ol fuel (listed.setIfInBounds i true) Q ((d, v) :: E) w0 H)
    (hb : b = want := by
      first | with_reducible rfl | assumption | (simp only [Bool.not_true, Bool.not_false]; done) | (simp only [decide_eq_true_eq, decide_eq_false_iff_not, Bool.not_true, Bool.not_false, not_true_eq_false, not_false_eq_true, reduceCtorEq]; first | done | assumption | omega))
    (hne : (match x with | .tmp t => !(Nat.beq t d) | _ => true) = true := by exact rfl)
    (hla : ((⟨some d, .load t x, ty, pos, af, some (j, want)⟩ : Oper).looksAt ol.toArray).contains d = false := by kernel_rfl)
    (hs : (Region.noSelect ol.toArray && Region.free .any ol.toArray listed i && (Region.ready .any ol.toArray listed).contains i) = true := by kernel_rfl)
    (hd : Nat.blt d N = true := by exact rfl) : HB l P N ds ol (fuel + 1) listed Q E w0 H := fun w hM a ha => by
  simp only [Bool.and_eq_true] at hs
  have ho' : ol.toArray[i]? = some ⟨some d, .load t x, ty, pos, af, some (j, want)⟩ := by simpa using ho
  have hy := guardE_spec hj ha
  refine anyC_load_g (t := t) (x := x) rfl (fun d' hd' e => ?_) (fun d' hd' hm => ?_) ho' hs.1.1 hs.1.2 hs.2 (fun c a w => hq.is c a _ _ w) (by rw [ha.ev hx]; intro h; cases h) (by simp only [Region.wanted, hy, hb, beq_self_eq_true]) (fun a' ha' w' hC => ?_) (h w hM _ (ha.put hd v))
  · cases hd'; subst e; simp at hne
  · cases hd'
    rw [List.contains_eq_mem, decide_eq_false_iff_not] at hla
    exact hla hm
  · have h1 : a'.eval x = .pointer (some ad) := ha'.trans (ha.ev hx)
    have h2 := hC _ hc
    simp only [execOp, h1, Instr.loadAt, Instr.sureAddr, loadVar, Sem.run_bind, Sem.run_pure]
    simp [run_isAgg, h2]
theorem HB.ldAg [hq : QPanic Q] {d : Nat} {t : TypeId} {x : Operand} {bb : Nat} {vs : List Value} {z : Value} {n sz : Nat} {j : Nat} {want b : Bool} [hat : ATy P t true] [hit : ITy P t z n sz] (i : Nat) (ho : ol[i]? = some ⟨some d, .load t x, ty, pos, af, some (j, want)⟩) (hj : guardE ol E j = some b) (hx : Env.ev E x = some (.pointer (some ⟨bb, 0, none⟩))) (hn : vs.length = n)
    (hc : ∀ i v, vs[i]? = some v → ((⟨bb, i, none⟩ : Addr), v) ∈ l)
    (h : HB l P N ds ol fuel (listed.setIfInBounds i true) Q ((d, .agg vs.toArray) :: E) w0 H)
    (hb : b = want := by
      first | with_reducible rfl | assumption | (simp only [Bool.not_true, Bool.not_false]; done) | (simp only [decide_eq_true_eq, decide_eq_false_iff_not, Bool.not_true, Bool.not_false, not_true_eq_false, not_false_eq_true, reduceCtorEq]; first | done | assumption | omega))
    (hne : (match x with | .tmp t => !(Nat.beq t d) | _ => true) = true := by exact rfl)
    (hla : ((⟨some d, .load t x, ty, pos, af, some (j, want)⟩ : Oper).looksAt ol.toArray).contains d = false := by kernel_rfl)
    (hs : (Region.noSelect ol.toArray && Region.free .any ol.toArray listed i && (Region.ready .any ol.toArray listed).contains i) = true := by kernel_rfl)
    (hd : Nat.blt d N = true := by exact rfl) : HB l P N ds ol (fuel + 1) listed Q E w0 H := fun w hM a ha => by
  simp only [Bool.and_eq_true] at hs
  have ho' : ol.toArray[i]? = some ⟨some d, .load t x, ty, pos, af, some (j, want)⟩ := by simpa using ho
  have hy := guardE_spec hj ha
  refine anyC_load_g (t := t) (x := x) rfl (fun d' hd' e => ?_) (fun d' hd' hm => ?_) ho' hs.1.1 hs.1.2 hs.2 (fun c a w => hq.is c a _ _ w) (by rw [ha.ev hx]; intro h; cases h) (by simp only [Region.wanted, hy, hb, beq_self_eq_true]) (fun a' ha' w' hC => ?_) (h w hM _ (ha.put hd (.agg vs.toArray)))
  · cases hd'; subst e; simp at hne
  · cases hd'
    rw [List.contains_eq_mem, decide_eq_false_iff_not] at hla
    exact hla hm
  · have h1 : a'.eval x = .pointer (some ⟨bb, 0, none⟩) := ha'.trans (ha.ev hx)
    have h2 : ∀ i v, vs[i]? = some v → w'.cell? ⟨bb, 0 + i, none⟩ = some v := fun i v hv => by rw [Nat.zero_add]; exact hC _ (hc i v hv)
    simp only [execOp, h1, Instr.loadAt, Instr.sureAddr, loadVar, Sem.run_bind, Sem.run_pure]
    simp [run_isAgg, run_sizeOf, loadCells, run_loadCellsFrom P w' bb 0 vs h2 n 0 #[] (by omega), Result.andThen, Sem.run_bind]
end
end Go.Sx
/-
  By program: the facts of this seat about functions and types, as instances of the layer's classes.
-/
namespace Go.Sx
open Go Go.Proofs
instance : FnIs Tryz.prog 3 Tryz.f3 := ⟨Tryz.func3⟩
instance : CallOk Tryz.prog 5 := ⟨Tryz.call5⟩
instance : FnIs Tryz.prog 5 Tryz.f5 := ⟨Tryz.func5⟩
instance : CallOk Tryz.prog 6 := ⟨Tryz.call6⟩
instance : FnIs Tryz.prog 6 Tryz.f6 := ⟨Tryz.func6⟩
instance : CallOk Tryz.prog 7 := ⟨Tryz.call7⟩
instance : FnIs Tryz.prog 7 Tryz.f7 := ⟨Tryz.func7⟩
instance : CallOk Tryz.prog 8 := ⟨Tryz.call8⟩
instance : FnIs Tryz.prog 8 Tryz.f8 := ⟨Tryz.func8⟩
instance : CallOk Tryz.prog 9 := ⟨Tryz.call9⟩
instance : FnIs Tryz.prog 9 Tryz.f9 := ⟨Tryz.func9⟩
instance : CallOk Tryz.prog 10 := ⟨Tryz.call10⟩
instance : FnIs Tryz.prog 10 Tryz.f10 := ⟨Tryz.func10⟩
instance : CallOk Tryz.prog 11 := ⟨Tryz.call11⟩
instance : FnIs Tryz.prog 11 Tryz.f11 := ⟨Tryz.func11⟩
instance : CallOk Tryz.prog 12 := ⟨Tryz.call12⟩
instance : FnIs Tryz.prog 12 Tryz.f12 := ⟨Tryz.func12⟩
instance : CallOk Tryz.prog 13 := ⟨Tryz.call13⟩
instance : FnIs Tryz.prog 13 Tryz.f13 := ⟨Tryz.func13⟩
instance : CallOk Tryz.prog 14 := ⟨Tryz.call14⟩
instance : FnIs Tryz.prog 14 Tryz.f14 := ⟨Tryz.func14⟩
instance : CallOk Tryz.prog 23 := ⟨Tryz.call23⟩
instance : FnIs Tryz.prog 23 Tryz.f23 := ⟨Tryz.func23⟩
instance : CallOk Tryz.prog 24 := ⟨Tryz.call24⟩
instance : FnIs Tryz.prog 24 Tryz.f24 := ⟨Tryz.func24⟩
instance : CallOk Tryz.prog 25 := ⟨Tryz.call25⟩
instance : FnIs Tryz.prog 25 Tryz.f25 := ⟨Tryz.func25⟩
instance : CallOk Tryz.prog 26 := ⟨Tryz.call26⟩
instance : FnIs Tryz.prog 26 Tryz.f26 := ⟨Tryz.func26⟩
instance : CallOk Tryz.prog 27 := ⟨Tryz.call27⟩
instance : FnIs Tryz.prog 27 Tryz.f27 := ⟨Tryz.func27⟩
instance : CallOk Tryz.prog 28 := ⟨Tryz.call28⟩
instance : FnIs Tryz.prog 28 Tryz.f28 := ⟨Tryz.func28⟩
instance : CallOk Tryz.prog 29 := ⟨Tryz.call29⟩
instance : FnIs Tryz.prog 29 Tryz.f29 := ⟨Tryz.func29⟩
instance : CallOk Tryz.prog 30 := ⟨Tryz.call30⟩
instance : FnIs Tryz.prog 30 Tryz.f30 := ⟨Tryz.func30⟩
instance : CallOk Tryz.prog 31 := ⟨Tryz.call31⟩
instance : FnIs Tryz.prog 31 Tryz.f31 := ⟨Tryz.func31⟩
instance : CallOk Tryz.prog 32 := ⟨Tryz.call32⟩
instance : FnIs Tryz.prog 32 Tryz.f32 := ⟨Tryz.func32⟩
instance : CallOk Tryz.prog 33 := ⟨Tryz.call33⟩
instance : CallOk Tryz.prog 34 := ⟨Tryz.call34⟩
instance : FnIs Tryz.prog 34 Tryz.f34 := ⟨Tryz.func34⟩
instance : CallOk Tryz.prog 35 := ⟨Tryz.call35⟩
instance : CallOk Tryz.prog 36 := ⟨Tryz.call36⟩
instance : FnIs Tryz.prog 36 Tryz.f36 := ⟨Tryz.func36⟩
instance : CallOk Tryz.prog 37 := ⟨Tryz.call37⟩
instance : FnIs Tryz.prog 37 Tryz.f37 := ⟨Tryz.func37⟩
instance : CallOk Tryz.prog 38 := ⟨Tryz.call38⟩
instance : FnIs Tryz.prog 38 Tryz.f38 := ⟨Tryz.func38⟩
instance : CallOk Tryz.prog 39 := ⟨Tryz.call39⟩
instance : FnIs Tryz.prog 39 Tryz.f39 := ⟨Tryz.func39⟩
instance : CallOk Tryz.prog 40 := ⟨Tryz.call40⟩
instance : FnIs Tryz.prog 40 Tryz.f40 := ⟨Tryz.func40⟩
instance : CallOk Tryz.prog 41 := ⟨Tryz.call41⟩
instance : FnIs Tryz.prog 41 Tryz.f41 := ⟨Tryz.func41⟩
instance : CallOk Tryz.prog 42 := ⟨Tryz.call42⟩
instance : FnIs Tryz.prog 42 Tryz.f42 := ⟨Tryz.func42⟩
instance : CallOk Tryz.prog 44 := ⟨Tryz.call44⟩
instance : FnIs Tryz.prog 44 Tryz.f44 := ⟨Tryz.func44⟩
instance : CallOk Tryz.prog 55 := ⟨Tryz.call55⟩
instance : FnIs Tryz.prog 55 Tryz.f55 := ⟨Tryz.func55⟩
instance : CallOk Tryz.prog 56 := ⟨Tryz.call56⟩
instance : FnIs Tryz.prog 56 Tryz.f56 := ⟨Tryz.func56⟩
instance : CallOk Tryz.prog 57 := ⟨Tryz.call57⟩
instance : FnIs Tryz.prog 57 Tryz.f57 := ⟨Tryz.func57⟩
instance : CallOk Tryz.prog 64 := ⟨Tryz.call64⟩
instance : FnIs Tryz.prog 64 Tryz.f64 := ⟨Tryz.func64⟩
instance : CallOk Tryz.prog 65 := ⟨Tryz.call65⟩
instance : FnIs Tryz.prog 65 Tryz.f65 := ⟨Tryz.func65⟩
instance : CallOk Tryz.prog 66 := ⟨Tryz.call66⟩
instance : FnIs Tryz.prog 66 Tryz.f66 := ⟨Tryz.func66⟩
instance : CallOk Tryz.prog 67 := ⟨Tryz.call67⟩
instance : FnIs Tryz.prog 67 Tryz.f67 := ⟨Tryz.func67⟩
instance : CallOk Tryz.prog 68 := ⟨Tryz.call68⟩
instance : FnIs Tryz.prog 68 Tryz.f68 := ⟨Tryz.func68⟩
instance : CallOk Tryz.prog 69 := ⟨Tryz.call69⟩
instance : CallOk Tryz.prog 70 := ⟨Tryz.call70⟩
instance : FnIs Tryz.prog 70 Tryz.f70 := ⟨Tryz.func70⟩
instance : CallOk Tryz.prog 71 := ⟨Tryz.call71⟩
instance : FnIs Tryz.prog 71 Tryz.f71 := ⟨Tryz.func71⟩
instance : CallOk Tryz.prog 72 := ⟨Tryz.call72⟩
instance : FnIs Tryz.prog 72 Tryz.f72 := ⟨Tryz.func72⟩
instance : CallOk Tryz.prog 73 := ⟨Tryz.call73⟩
instance : FnIs Tryz.prog 73 Tryz.f73 := ⟨Tryz.func73⟩
instance : CallOk Tryz.prog 74 := ⟨Tryz.call74⟩
instance : FnIs Tryz.prog 74 Tryz.f74 := ⟨Tryz.func74⟩
instance : CallOk Tryz.prog 75 := ⟨Tryz.call75⟩
instance : FnIs Tryz.prog 75 Tryz.f75 := ⟨Tryz.func75⟩
instance : CallOk Tryz.prog 76 := ⟨Tryz.call76⟩
instance : FnIs Tryz.prog 76 Tryz.f76 := ⟨Tryz.func76⟩
instance : CallOk Tryz.prog 77 := ⟨Tryz.call77⟩
instance : FnIs Tryz.prog 77 Tryz.f77 := ⟨Tryz.func77⟩
instance : CallOk Tryz.prog 78 := ⟨Tryz.call78⟩
instance : FnIs Tryz.prog 78 Tryz.f78 := ⟨Tryz.func78⟩
instance : CallOk Tryz.prog 79 := ⟨Tryz.call79⟩
instance : FnIs Tryz.prog 79 Tryz.f79 := ⟨Tryz.func79⟩
instance : CallOk Tryz.prog 83 := ⟨Tryz.call83⟩
instance : FnIs Tryz.prog 83 Tryz.f83 := ⟨Tryz.func83⟩
instance : CallOk Tryz.prog 84 := ⟨Tryz.call84⟩
instance : FnIs Tryz.prog 84 Tryz.f84 := ⟨Tryz.func84⟩
instance : CallOk Tryz.prog 85 := ⟨Tryz.call85⟩
instance : FnIs Tryz.prog 85 Tryz.f85 := ⟨Tryz.func85⟩
instance : CallOk Tryz.prog 86 := ⟨Tryz.call86⟩
instance : FnIs Tryz.prog 86 Tryz.f86 := ⟨Tryz.func86⟩
instance : CallOk Tryz.prog 87 := ⟨Tryz.call87⟩
instance : FnIs Tryz.prog 87 Tryz.f87 := ⟨Tryz.func87⟩
instance : CallOk Tryz.prog 88 := ⟨Tryz.call88⟩
instance : FnIs Tryz.prog 88 Tryz.f88 := ⟨Tryz.func88⟩
instance : CallOk Tryz.prog 89 := ⟨Tryz.call89⟩
instance : CallOk Tryz.prog 90 := ⟨Tryz.call90⟩
instance : CallOk Tryz.prog 91 := ⟨Tryz.call91⟩
instance : FnIs Tryz.prog 91 Tryz.f91 := ⟨Tryz.func91⟩
instance : CallOk Tryz.prog 92 := ⟨Tryz.call92⟩
instance : FnIs Tryz.prog 92 Tryz.f92 := ⟨Tryz.func92⟩
instance : CallOk Tryz.prog 93 := ⟨Tryz.call93⟩
instance : FnIs Tryz.prog 93 Tryz.f93 := ⟨Tryz.func93⟩
instance : CallOk Tryz.prog 94 := ⟨Tryz.call94⟩
instance : FnIs Tryz.prog 94 Tryz.f94 := ⟨Tryz.func94⟩
instance : CallOk Tryz.prog 95 := ⟨Tryz.call95⟩
instance : FnIs Tryz.prog 95 Tryz.f95 := ⟨Tryz.func95⟩
instance : CallOk Tryz.prog 96 := ⟨Tryz.call96⟩
instance : FnIs Tryz.prog 96 Tryz.f96 := ⟨Tryz.func96⟩
instance : CallOk Tryz.prog 97 := ⟨Tryz.call97⟩
instance : FnIs Tryz.prog 97 Tryz.f97 := ⟨Tryz.func97⟩
instance : CallOk Tryz.prog 98 := ⟨Tryz.call98⟩
instance : FnIs Tryz.prog 98 Tryz.f98 := ⟨Tryz.func98⟩
instance : CallOk Tryz.prog 100 := ⟨Tryz.call100⟩
instance : FnIs Tryz.prog 100 Tryz.f100 := ⟨Tryz.func100⟩
instance : CallOk Tryz.prog 101 := ⟨Tryz.call101⟩
instance : FnIs Tryz.prog 101 Tryz.f101 := ⟨Tryz.func101⟩
instance : CallOk Tryz.prog 102 := ⟨Tryz.call102⟩
instance : FnIs Tryz.prog 102 Tryz.f102 := ⟨Tryz.func102⟩
instance : CallOk Tryz.prog 103 := ⟨Tryz.call103⟩
instance : FnIs Tryz.prog 103 Tryz.f103 := ⟨Tryz.func103⟩
instance : CallOk Tryz.prog 104 := ⟨Tryz.call104⟩
instance : FnIs Tryz.prog 104 Tryz.f104 := ⟨Tryz.func104⟩
instance : CallOk Tryz.prog 111 := ⟨Tryz.call111⟩
instance : FnIs Tryz.prog 111 Tryz.f111 := ⟨Tryz.func111⟩
instance : CallOk Tryz.prog 113 := ⟨Tryz.call113⟩
instance : CallOk Tryz.prog 114 := ⟨Tryz.call114⟩
instance : FnIs Tryz.prog 114 Tryz.f114 := ⟨Tryz.func114⟩
instance : CallOk Tryz.prog 115 := ⟨Tryz.call115⟩
instance : FnIs Tryz.prog 115 Tryz.f115 := ⟨Tryz.func115⟩
instance : CallOk Tryz.prog 118 := ⟨Tryz.call118⟩
instance : FnIs Tryz.prog 118 Tryz.f118 := ⟨Tryz.func118⟩
instance : CallOk Tryz.prog 119 := ⟨Tryz.call119⟩
instance : FnIs Tryz.prog 119 Tryz.f119 := ⟨Tryz.func119⟩
instance : CallOk Tryz.prog 120 := ⟨Tryz.call120⟩
instance : FnIs Tryz.prog 120 Tryz.f120 := ⟨Tryz.func120⟩
instance : CallOk Tryz.prog 121 := ⟨Tryz.call121⟩
instance : FnIs Tryz.prog 121 Tryz.f121 := ⟨Tryz.func121⟩
instance : CallOk Tryz.prog 131 := ⟨Tryz.call131⟩
instance : FnIs Tryz.prog 131 Tryz.f131 := ⟨Tryz.func131⟩
instance : CallOk Tryz.prog 132 := ⟨Tryz.call132⟩
instance : FnIs Tryz.prog 132 Tryz.f132 := ⟨Tryz.func132⟩
instance : CallOk Tryz.prog 133 := ⟨Tryz.call133⟩
instance : FnIs Tryz.prog 133 Tryz.f133 := ⟨Tryz.func133⟩
instance : CallOk Tryz.prog 134 := ⟨Tryz.call134⟩
instance : FnIs Tryz.prog 134 Tryz.f134 := ⟨Tryz.func134⟩
instance : CallOk Tryz.prog 135 := ⟨Tryz.call135⟩
instance : FnIs Tryz.prog 135 Tryz.f135 := ⟨Tryz.func135⟩
instance : CallOk Tryz.prog 136 := ⟨Tryz.call136⟩
instance : FnIs Tryz.prog 136 Tryz.f136 := ⟨Tryz.func136⟩
instance : CallOk Tryz.prog 137 := ⟨Tryz.call137⟩
instance : FnIs Tryz.prog 137 Tryz.f137 := ⟨Tryz.func137⟩
instance : CallOk Tryz.prog 138 := ⟨Tryz.call138⟩
instance : FnIs Tryz.prog 138 Tryz.f138 := ⟨Tryz.func138⟩
instance : CallOk Tryz.prog 139 := ⟨Tryz.call139⟩
instance : FnIs Tryz.prog 139 Tryz.f139 := ⟨Tryz.func139⟩
instance : CallOk Tryz.prog 140 := ⟨Tryz.call140⟩
instance : FnIs Tryz.prog 140 Tryz.f140 := ⟨Tryz.func140⟩
instance : CallOk Tryz.prog 148 := ⟨Tryz.call148⟩
instance : FnIs Tryz.prog 148 Tryz.f148 := ⟨Tryz.func148⟩
instance : CallOk Tryz.prog 149 := ⟨Tryz.call149⟩
instance : FnIs Tryz.prog 149 Tryz.f149 := ⟨Tryz.func149⟩
instance : CallOk Tryz.prog 150 := ⟨Tryz.call150⟩
instance : FnIs Tryz.prog 150 Tryz.f150 := ⟨Tryz.func150⟩
instance : CallOk Tryz.prog 151 := ⟨Tryz.call151⟩
instance : FnIs Tryz.prog 151 Tryz.f151 := ⟨Tryz.func151⟩
instance : CallOk Tryz.prog 152 := ⟨Tryz.call152⟩
instance : FnIs Tryz.prog 152 Tryz.f152 := ⟨Tryz.func152⟩
instance : CallOk Tryz.prog 153 := ⟨Tryz.call153⟩
instance : FnIs Tryz.prog 153 Tryz.f153 := ⟨Tryz.func153⟩
instance : CallOk Tryz.prog 164 := ⟨Tryz.call164⟩
instance : FnIs Tryz.prog 164 Tryz.f164 := ⟨Tryz.func164⟩
instance : CallOk Tryz.prog 165 := ⟨Tryz.call165⟩
instance : FnIs Tryz.prog 165 Tryz.f165 := ⟨Tryz.func165⟩
instance : CallOk Tryz.prog 166 := ⟨Tryz.call166⟩
instance : FnIs Tryz.prog 166 Tryz.f166 := ⟨Tryz.func166⟩
instance : CallOk Tryz.prog 167 := ⟨Tryz.call167⟩
instance : FnIs Tryz.prog 167 Tryz.f167 := ⟨Tryz.func167⟩
instance : CallOk Tryz.prog 168 := ⟨Tryz.call168⟩
instance : FnIs Tryz.prog 168 Tryz.f168 := ⟨Tryz.func168⟩
instance : CallOk Tryz.prog 169 := ⟨Tryz.call169⟩
instance : FnIs Tryz.prog 169 Tryz.f169 := ⟨Tryz.func169⟩
instance : CallOk Tryz.prog 171 := ⟨Tryz.call171⟩
instance : FnIs Tryz.prog 171 Tryz.f171 := ⟨Tryz.func171⟩
instance : CallOk Tryz.prog 172 := ⟨Tryz.call172⟩
instance : FnIs Tryz.prog 172 Tryz.f172 := ⟨Tryz.func172⟩
instance : CallOk Tryz.prog 173 := ⟨Tryz.call173⟩
instance : FnIs Tryz.prog 173 Tryz.f173 := ⟨Tryz.func173⟩
instance : CallOk Tryz.prog 174 := ⟨Tryz.call174⟩
instance : FnIs Tryz.prog 174 Tryz.f174 := ⟨Tryz.func174⟩
instance : CallOk Tryz.prog 175 := ⟨Tryz.call175⟩
instance : FnIs Tryz.prog 175 Tryz.f175 := ⟨Tryz.func175⟩
instance : CallOk Tryz.prog 176 := ⟨Tryz.call176⟩
instance : FnIs Tryz.prog 176 Tryz.f176 := ⟨Tryz.func176⟩
instance : CallOk Tryz.prog 178 := ⟨Tryz.call178⟩
instance : CallOk Tryz.prog 179 := ⟨Tryz.call179⟩
instance : FnIs Tryz.prog 179 Tryz.f179 := ⟨Tryz.func179⟩
instance : CallOk Tryz.prog 180 := ⟨Tryz.call180⟩
instance : FnIs Tryz.prog 180 Tryz.f180 := ⟨Tryz.func180⟩
instance : CallOk Tryz.prog 188 := ⟨Tryz.call188⟩
instance : FnIs Tryz.prog 188 Tryz.f188 := ⟨Tryz.func188⟩
instance : CallOk Tryz.prog 190 := ⟨Tryz.call190⟩
instance : FnIs Tryz.prog 190 Tryz.f190 := ⟨Tryz.func190⟩
instance : CallOk Tryz.prog 194 := ⟨Tryz.call194⟩
instance : FnIs Tryz.prog 194 Tryz.f194 := ⟨Tryz.func194⟩
instance : CallOk Tryz.prog 195 := ⟨Tryz.call195⟩
instance : FnIs Tryz.prog 195 Tryz.f195 := ⟨Tryz.func195⟩
instance : CallOk Tryz.prog 196 := ⟨Tryz.call196⟩
instance : FnIs Tryz.prog 196 Tryz.f196 := ⟨Tryz.func196⟩
instance : CallOk Tryz.prog 204 := ⟨Tryz.call204⟩
instance : CallOk Tryz.prog 208 := ⟨Tryz.call208⟩
instance : FnIs Tryz.prog 208 Tryz.f208 := ⟨Tryz.func208⟩
instance : CallOk Tryz.prog 209 := ⟨Tryz.call209⟩
instance : CallOk Tryz.prog 213 := ⟨Tryz.call213⟩
instance : FnIs Tryz.prog 213 Tryz.f213 := ⟨Tryz.func213⟩
instance : CallOk Tryz.prog 214 := ⟨Tryz.call214⟩
instance : FnIs Tryz.prog 214 Tryz.f214 := ⟨Tryz.func214⟩
instance : CallOk Tryz.prog 215 := ⟨Tryz.call215⟩
instance : FnIs Tryz.prog 215 Tryz.f215 := ⟨Tryz.func215⟩
instance : CallOk Tryz.prog 216 := ⟨Tryz.call216⟩
instance : FnIs Tryz.prog 216 Tryz.f216 := ⟨Tryz.func216⟩
instance : CallOk Tryz.prog 217 := ⟨Tryz.call217⟩
instance : FnIs Tryz.prog 217 Tryz.f217 := ⟨Tryz.func217⟩
instance : CallOk Tryz.prog 218 := ⟨Tryz.call218⟩
instance : FnIs Tryz.prog 218 Tryz.f218 := ⟨Tryz.func218⟩
instance : CallOk Tryz.prog 219 := ⟨Tryz.call219⟩
instance : FnIs Tryz.prog 219 Tryz.f219 := ⟨Tryz.func219⟩
instance : CallOk Tryz.prog 220 := ⟨Tryz.call220⟩
instance : FnIs Tryz.prog 220 Tryz.f220 := ⟨Tryz.func220⟩
instance : CallOk Tryz.prog 221 := ⟨Tryz.call221⟩
instance : FnIs Tryz.prog 221 Tryz.f221 := ⟨Tryz.func221⟩
instance : CallOk Tryz.prog 222 := ⟨Tryz.call222⟩
instance : FnIs Tryz.prog 222 Tryz.f222 := ⟨Tryz.func222⟩
instance : CallOk Tryz.prog 223 := ⟨Tryz.call223⟩
instance : FnIs Tryz.prog 223 Tryz.f223 := ⟨Tryz.func223⟩
instance : CallOk Tryz.prog 224 := ⟨Tryz.call224⟩
instance : FnIs Tryz.prog 224 Tryz.f224 := ⟨Tryz.func224⟩
instance : CallOk Tryz.prog 225 := ⟨Tryz.call225⟩
instance : FnIs Tryz.prog 225 Tryz.f225 := ⟨Tryz.func225⟩
instance : CallOk Tryz.prog 226 := ⟨Tryz.call226⟩
instance : FnIs Tryz.prog 226 Tryz.f226 := ⟨Tryz.func226⟩
instance : CallOk Tryz.prog 227 := ⟨Tryz.call227⟩
instance : FnIs Tryz.prog 227 Tryz.f227 := ⟨Tryz.func227⟩
instance : CallOk Tryz.prog 228 := ⟨Tryz.call228⟩
instance : FnIs Tryz.prog 228 Tryz.f228 := ⟨Tryz.func228⟩
instance : CallOk Tryz.prog 234 := ⟨Tryz.call234⟩
instance : FnIs Tryz.prog 234 Tryz.f234 := ⟨Tryz.func234⟩
instance : CallOk Tryz.prog 244 := ⟨Tryz.call244⟩
instance : FnIs Tryz.prog 244 Tryz.f244 := ⟨Tryz.func244⟩
instance : CallOk Tryz.prog 251 := ⟨Tryz.call251⟩
instance : FnIs Tryz.prog 251 Tryz.f251 := ⟨Tryz.func251⟩
instance : CallOk Tryz.prog 252 := ⟨Tryz.call252⟩
instance : FnIs Tryz.prog 252 Tryz.f252 := ⟨Tryz.func252⟩
instance : CallOk Tryz.prog 265 := ⟨Tryz.call265⟩
instance : FnIs Tryz.prog 265 Tryz.f265 := ⟨Tryz.func265⟩
instance : UTy Tryz.prog 3 (.int .i64) := ⟨Tryz.underlying3⟩
instance : ITy Tryz.prog 3 (Go.Value.int Go.IntKind.i64 0) 1 8 := ⟨by kernel_rfl⟩
instance : ATy Tryz.prog 3 false := ⟨by kernel_rfl⟩
instance : UTy Tryz.prog 4 .bool := ⟨Tryz.underlying4⟩
instance : ITy Tryz.prog 4 (Go.Value.bool Bool.false) 1 1 := ⟨by kernel_rfl⟩
instance : ATy Tryz.prog 4 false := ⟨by kernel_rfl⟩
instance : UTy Tryz.prog 5 (.int .u8) := ⟨Tryz.underlying5⟩
instance : ITy Tryz.prog 5 (Go.Value.int Go.IntKind.u8 0) 1 1 := ⟨by kernel_rfl⟩
instance : UTy Tryz.prog 9 .string := ⟨Tryz.underlying9⟩
instance : ITy Tryz.prog 9 (Go.Value.string (ByteArray.mk #[])) 1 16 := ⟨by kernel_rfl⟩
instance : ATy Tryz.prog 9 false := ⟨by kernel_rfl⟩
instance : UTy Tryz.prog 22 (.slice 81) := ⟨Tryz.underlying22⟩
instance : UTy Tryz.prog 23 (.slice 82) := ⟨Tryz.underlying23⟩
instance : UTy Tryz.prog 24 (.array 3 3) := ⟨Tryz.underlying24⟩
instance : ITy Tryz.prog 24 (Go.Value.agg #[(Go.Value.int Go.IntKind.i64 0), (Go.Value.int Go.IntKind.i64 0), (Go.Value.int Go.IntKind.i64 0)]) 3 24 := ⟨by kernel_rfl⟩
instance : ATy Tryz.prog 24 true := ⟨by kernel_rfl⟩
instance : UTy Tryz.prog 25 (.slice 3) := ⟨Tryz.underlying25⟩
instance : ITy Tryz.prog 25 (Go.Value.slice none 0 0) 1 24 := ⟨by kernel_rfl⟩
instance : ATy Tryz.prog 25 false := ⟨by kernel_rfl⟩
instance : UTy Tryz.prog 27 (.slice 36) := ⟨Tryz.underlying27⟩
instance : ITy Tryz.prog 27 (Go.Value.slice none 0 0) 1 24 := ⟨by kernel_rfl⟩
instance : ATy Tryz.prog 27 false := ⟨by kernel_rfl⟩
instance : ITy Tryz.prog 32 (Go.Value.agg #[(Go.Value.int Go.IntKind.i64 0), (Go.Value.int Go.IntKind.i64 0), (Go.Value.int Go.IntKind.i64 0), (Go.Value.int Go.IntKind.i64 0)]) 4 32 := ⟨by kernel_rfl⟩
instance : ATy Tryz.prog 32 true := ⟨by kernel_rfl⟩
instance : FTy Tryz.prog 32 0 0 3 := ⟨by kernel_rfl⟩
instance : FTy Tryz.prog 32 1 1 3 := ⟨by kernel_rfl⟩
instance : FTy Tryz.prog 32 2 2 3 := ⟨by kernel_rfl⟩
instance : FTy Tryz.prog 32 3 3 3 := ⟨by kernel_rfl⟩
instance : ITy Tryz.prog 36 (Go.Value.agg #[(Go.Value.int Go.IntKind.i64 0), (Go.Value.int Go.IntKind.i64 0), (Go.Value.int Go.IntKind.i64 0), (Go.Value.int Go.IntKind.i64 0), (Go.Value.bool Bool.false), (Go.Value.int Go.IntKind.i64 0), (Go.Value.int Go.IntKind.i64 0), (Go.Value.int Go.IntKind.i64 0), (Go.Value.int Go.IntKind.i64 0), (Go.Value.int Go.IntKind.i64 0), (Go.Value.int Go.IntKind.i64 0), (Go.Value.int Go.IntKind.i64 0), (Go.Value.bool Bool.false), (Go.Value.int Go.IntKind.i64 0), (Go.Value.string (ByteArray.mk #[]))]) 15 128 := ⟨by kernel_rfl⟩
instance : ATy Tryz.prog 36 true := ⟨by kernel_rfl⟩
instance : FTy Tryz.prog 36 0 0 3 := ⟨by kernel_rfl⟩
instance : FTy Tryz.prog 36 1 1 3 := ⟨by kernel_rfl⟩
instance : FTy Tryz.prog 36 2 2 3 := ⟨by kernel_rfl⟩
instance : FTy Tryz.prog 36 3 3 3 := ⟨by kernel_rfl⟩
instance : FTy Tryz.prog 36 4 4 4 := ⟨by kernel_rfl⟩
instance : FTy Tryz.prog 36 5 5 3 := ⟨by kernel_rfl⟩
instance : FTy Tryz.prog 36 6 6 3 := ⟨by kernel_rfl⟩
instance : FTy Tryz.prog 36 7 7 3 := ⟨by kernel_rfl⟩
instance : FTy Tryz.prog 36 8 8 3 := ⟨by kernel_rfl⟩
instance : FTy Tryz.prog 36 9 9 3 := ⟨by kernel_rfl⟩
instance : FTy Tryz.prog 36 10 10 3 := ⟨by kernel_rfl⟩
instance : FTy Tryz.prog 36 11 11 3 := ⟨by kernel_rfl⟩
instance : FTy Tryz.prog 36 12 12 4 := ⟨by kernel_rfl⟩
instance : FTy Tryz.prog 36 13 13 3 := ⟨by kernel_rfl⟩
instance : FTy Tryz.prog 36 14 14 9 := ⟨by kernel_rfl⟩
instance : ITy Tryz.prog 38 (Go.Value.agg #[(Go.Value.slice none 0 0), (Go.Value.slice none 0 0), (Go.Value.slice none 0 0), (Go.Value.slice none 0 0), (Go.Value.slice none 0 0), (Go.Value.slice none 0 0), (Go.Value.slice none 0 0), (Go.Value.slice none 0 0)]) 8 192 := ⟨by kernel_rfl⟩
instance : ATy Tryz.prog 38 true := ⟨by kernel_rfl⟩
instance : FTy Tryz.prog 38 0 0 27 := ⟨by kernel_rfl⟩
instance : FTy Tryz.prog 38 1 1 27 := ⟨by kernel_rfl⟩
instance : FTy Tryz.prog 38 2 2 27 := ⟨by kernel_rfl⟩
instance : FTy Tryz.prog 38 3 3 27 := ⟨by kernel_rfl⟩
instance : FTy Tryz.prog 38 4 4 27 := ⟨by kernel_rfl⟩
instance : FTy Tryz.prog 38 5 5 27 := ⟨by kernel_rfl⟩
instance : FTy Tryz.prog 38 6 6 27 := ⟨by kernel_rfl⟩
instance : FTy Tryz.prog 38 7 7 27 := ⟨by kernel_rfl⟩
instance : ITy Tryz.prog 41 (Go.Value.agg #[(Go.Value.bool Bool.false), (Go.Value.int Go.IntKind.i64 0), (Go.Value.slice none 0 0)]) 3 40 := ⟨by kernel_rfl⟩
instance : ATy Tryz.prog 41 true := ⟨by kernel_rfl⟩
instance : FTy Tryz.prog 41 0 0 4 := ⟨by kernel_rfl⟩
instance : FTy Tryz.prog 41 1 1 3 := ⟨by kernel_rfl⟩
instance : FTy Tryz.prog 41 2 2 25 := ⟨by kernel_rfl⟩
instance : UTy Tryz.prog 51 (.slice 66) := ⟨Tryz.underlying51⟩
instance : ITy Tryz.prog 51 (Go.Value.slice none 0 0) 1 24 := ⟨by kernel_rfl⟩
instance : ATy Tryz.prog 51 false := ⟨by kernel_rfl⟩
instance : UTy Tryz.prog 52 (.slice 72) := ⟨Tryz.underlying52⟩
instance : ITy Tryz.prog 52 (Go.Value.slice none 0 0) 1 24 := ⟨by kernel_rfl⟩
instance : ATy Tryz.prog 52 false := ⟨by kernel_rfl⟩
instance : ITy Tryz.prog 54 (Go.Value.agg #[(Go.Value.slice none 0 0), (Go.Value.slice none 0 0), (Go.Value.int Go.IntKind.i64 0), (Go.Value.string (ByteArray.mk #[]))]) 4 72 := ⟨by kernel_rfl⟩
instance : ATy Tryz.prog 54 true := ⟨by kernel_rfl⟩
instance : FTy Tryz.prog 54 0 0 51 := ⟨by kernel_rfl⟩
instance : FTy Tryz.prog 54 1 1 52 := ⟨by kernel_rfl⟩
instance : FTy Tryz.prog 54 2 2 3 := ⟨by kernel_rfl⟩
instance : FTy Tryz.prog 54 3 3 9 := ⟨by kernel_rfl⟩
instance : ITy Tryz.prog 57 (Go.Value.int Go.IntKind.i64 0) 1 8 := ⟨by kernel_rfl⟩
instance : ATy Tryz.prog 57 false := ⟨by kernel_rfl⟩
instance : ITy Tryz.prog 66 (Go.Value.agg #[(Go.Value.string (ByteArray.mk #[])), (Go.Value.int Go.IntKind.i64 0)]) 2 24 := ⟨by kernel_rfl⟩
instance : ATy Tryz.prog 66 true := ⟨by kernel_rfl⟩
instance : FTy Tryz.prog 66 0 0 9 := ⟨by kernel_rfl⟩
instance : FTy Tryz.prog 66 1 1 3 := ⟨by kernel_rfl⟩
instance : ITy Tryz.prog 72 (Go.Value.agg #[(Go.Value.int Go.IntKind.i64 0), (Go.Value.int Go.IntKind.i64 0), (Go.Value.bool Bool.false), (Go.Value.int Go.IntKind.i64 0), (Go.Value.int Go.IntKind.i64 0), (Go.Value.int Go.IntKind.i64 0)]) 6 48 := ⟨by kernel_rfl⟩
instance : ATy Tryz.prog 72 true := ⟨by kernel_rfl⟩
instance : FTy Tryz.prog 72 0 0 3 := ⟨by kernel_rfl⟩
instance : FTy Tryz.prog 72 1 1 3 := ⟨by kernel_rfl⟩
instance : FTy Tryz.prog 72 2 2 4 := ⟨by kernel_rfl⟩
instance : FTy Tryz.prog 72 3 3 3 := ⟨by kernel_rfl⟩
instance : FTy Tryz.prog 72 4 4 3 := ⟨by kernel_rfl⟩
instance : FTy Tryz.prog 72 5 5 3 := ⟨by kernel_rfl⟩
instance : ITy Tryz.prog 79 (Go.Value.agg #[(Go.Value.int Go.IntKind.i64 0), (Go.Value.int Go.IntKind.i64 0)]) 2 16 := ⟨by kernel_rfl⟩
instance : ATy Tryz.prog 79 true := ⟨by kernel_rfl⟩
instance : FTy Tryz.prog 79 0 0 3 := ⟨by kernel_rfl⟩
instance : FTy Tryz.prog 79 1 1 3 := ⟨by kernel_rfl⟩
instance : UTy Tryz.prog 80 (.slice 79) := ⟨Tryz.underlying80⟩
instance : UTy Tryz.prog 81 (.array 4 3) := ⟨Tryz.underlying81⟩
instance : ITy Tryz.prog 81 (Go.Value.agg #[(Go.Value.int Go.IntKind.i64 0), (Go.Value.int Go.IntKind.i64 0), (Go.Value.int Go.IntKind.i64 0), (Go.Value.int Go.IntKind.i64 0)]) 4 32 := ⟨by kernel_rfl⟩
instance : ATy Tryz.prog 81 true := ⟨by kernel_rfl⟩
instance : UTy Tryz.prog 82 (.array 6 3) := ⟨Tryz.underlying82⟩
instance : ITy Tryz.prog 82 (Go.Value.agg #[(Go.Value.int Go.IntKind.i64 0), (Go.Value.int Go.IntKind.i64 0), (Go.Value.int Go.IntKind.i64 0), (Go.Value.int Go.IntKind.i64 0), (Go.Value.int Go.IntKind.i64 0), (Go.Value.int Go.IntKind.i64 0)]) 6 48 := ⟨by kernel_rfl⟩
instance : ATy Tryz.prog 82 true := ⟨by kernel_rfl⟩
instance : UTy Tryz.prog 87 (.map 9 36) := ⟨Tryz.underlying87⟩
instance : ITy Tryz.prog 89 (Go.Value.pointer none) 1 8 := ⟨by kernel_rfl⟩
instance : ATy Tryz.prog 89 false := ⟨by kernel_rfl⟩
instance : ATy Tryz.prog 93 false := ⟨by kernel_rfl⟩
instance : UTy Tryz.prog 97 (.map 3 27) := ⟨Tryz.underlying97⟩
instance : ATy Tryz.prog 97 false := ⟨by kernel_rfl⟩
instance : UTy Tryz.prog 101 (.map 3 36) := ⟨Tryz.underlying101⟩
instance : ITy Tryz.prog 126 Go.Value.nilFunc 1 8 := ⟨by kernel_rfl⟩
instance : ATy Tryz.prog 126 false := ⟨by kernel_rfl⟩
instance : ITy Tryz.prog 128 (Go.Value.agg #[(Go.Value.int Go.IntKind.i64 0), (Go.Value.int Go.IntKind.i64 0), (Go.Value.int Go.IntKind.i64 0)]) 3 24 := ⟨by kernel_rfl⟩
instance : ATy Tryz.prog 128 true := ⟨by kernel_rfl⟩
instance : FTy Tryz.prog 128 0 0 3 := ⟨by kernel_rfl⟩
instance : FTy Tryz.prog 128 1 1 3 := ⟨by kernel_rfl⟩
instance : FTy Tryz.prog 128 2 2 3 := ⟨by kernel_rfl⟩
instance : ATy Tryz.prog 138 false := ⟨by kernel_rfl⟩
instance : FTy Tryz.prog 140 0 0 54 := ⟨by kernel_rfl⟩
instance : ITy Tryz.prog 142 Go.Value.nilFunc 1 8 := ⟨by kernel_rfl⟩
instance : UTy Tryz.prog 144 (.map 3 142) := ⟨Tryz.underlying144⟩
instance : UTy Tryz.prog 147 (.pointer 150) := ⟨Tryz.underlying147⟩
instance : ITy Tryz.prog 147 (Go.Value.pointer none) 1 8 := ⟨by kernel_rfl⟩
instance : ATy Tryz.prog 147 false := ⟨by kernel_rfl⟩
instance : UTy Tryz.prog 148 (.slice 5) := ⟨Tryz.underlying148⟩
instance : ITy Tryz.prog 148 (Go.Value.slice none 0 0) 1 24 := ⟨by kernel_rfl⟩
instance : ATy Tryz.prog 148 false := ⟨by kernel_rfl⟩
instance : ITy Tryz.prog 150 (Go.Value.agg #[(Go.Value.pointer none), (Go.Value.slice none 0 0)]) 2 32 := ⟨by kernel_rfl⟩
instance : FTy Tryz.prog 150 0 0 147 := ⟨by kernel_rfl⟩
instance : FTy Tryz.prog 150 1 1 148 := ⟨by kernel_rfl⟩
instance : FTy Tryz.prog 152 0 0 150 := ⟨by kernel_rfl⟩
instance : UTy Tryz.prog 158 (.slice 215) := ⟨Tryz.underlying158⟩
instance : ITy Tryz.prog 158 (Go.Value.slice none 0 0) 1 24 := ⟨by kernel_rfl⟩
instance : ATy Tryz.prog 158 false := ⟨by kernel_rfl⟩
instance : ITy Tryz.prog 160 (Go.Value.agg #[(Go.Value.bool Bool.false), (Go.Value.slice none 0 0), (Go.Value.int Go.IntKind.i64 0), (Go.Value.int Go.IntKind.i64 0), (Go.Value.string (ByteArray.mk #[]))]) 5 64 := ⟨by kernel_rfl⟩
instance : ATy Tryz.prog 160 true := ⟨by kernel_rfl⟩
instance : FTy Tryz.prog 160 0 0 4 := ⟨by kernel_rfl⟩
instance : FTy Tryz.prog 160 1 1 158 := ⟨by kernel_rfl⟩
instance : ITy Tryz.prog 162 Go.Value.nilFunc 1 8 := ⟨by kernel_rfl⟩
instance : ATy Tryz.prog 162 false := ⟨by kernel_rfl⟩
instance : ITy Tryz.prog 163 Go.Value.nilFunc 1 8 := ⟨by kernel_rfl⟩
instance : ATy Tryz.prog 163 false := ⟨by kernel_rfl⟩
instance : ITy Tryz.prog 165 (Go.Value.agg #[(Go.Value.slice none 0 0), Go.Value.nilFunc, Go.Value.nilFunc]) 3 40 := ⟨by kernel_rfl⟩
instance : FTy Tryz.prog 165 0 0 25 := ⟨by kernel_rfl⟩
instance : FTy Tryz.prog 165 1 1 162 := ⟨by kernel_rfl⟩
instance : FTy Tryz.prog 165 2 2 163 := ⟨by kernel_rfl⟩
instance : UTy Tryz.prog 166 (.array 7 165) := ⟨Tryz.underlying166⟩
instance : ITy Tryz.prog 166 (Go.Value.agg #[(Go.Value.slice none 0 0), Go.Value.nilFunc, Go.Value.nilFunc, (Go.Value.slice none 0 0), Go.Value.nilFunc, Go.Value.nilFunc, (Go.Value.slice none 0 0), Go.Value.nilFunc, Go.Value.nilFunc, (Go.Value.slice none 0 0), Go.Value.nilFunc, Go.Value.nilFunc, (Go.Value.slice none 0 0), Go.Value.nilFunc, Go.Value.nilFunc, (Go.Value.slice none 0 0), Go.Value.nilFunc, Go.Value.nilFunc, (Go.Value.slice none 0 0), Go.Value.nilFunc, Go.Value.nilFunc]) 21 280 := ⟨by kernel_rfl⟩
instance : ATy Tryz.prog 166 true := ⟨by kernel_rfl⟩
instance : UTy Tryz.prog 173 (.array 9 89) := ⟨Tryz.underlying173⟩
instance : ITy Tryz.prog 181 Go.Value.nilFunc 1 8 := ⟨by kernel_rfl⟩
instance : ATy Tryz.prog 181 false := ⟨by kernel_rfl⟩
instance : ITy Tryz.prog 188 Go.Value.nilFunc 1 8 := ⟨by kernel_rfl⟩
instance : ATy Tryz.prog 188 false := ⟨by kernel_rfl⟩
instance : ATy Tryz.prog 190 false := ⟨by kernel_rfl⟩
instance : UTy Tryz.prog 208 (.pointer 5) := ⟨Tryz.underlying208⟩
instance : FTy Tryz.prog 213 0 0 9 := ⟨by kernel_rfl⟩
instance : FTy Tryz.prog 213 1 1 3 := ⟨by kernel_rfl⟩
instance : ITy Tryz.prog 215 (Go.Value.agg #[(Go.Value.string (ByteArray.mk #[])), (Go.Value.slice none 0 0)]) 2 40 := ⟨by kernel_rfl⟩
instance : ATy Tryz.prog 215 true := ⟨by kernel_rfl⟩
instance : FTy Tryz.prog 215 0 0 9 := ⟨by kernel_rfl⟩
instance : FTy Tryz.prog 215 1 1 25 := ⟨by kernel_rfl⟩
instance : ATy Tryz.prog 218 false := ⟨by kernel_rfl⟩
instance : UTy Tryz.prog 222 (.slice 225) := ⟨Tryz.underlying222⟩
instance : ITy Tryz.prog 222 (Go.Value.slice none 0 0) 1 24 := ⟨by kernel_rfl⟩
instance : ATy Tryz.prog 222 false := ⟨by kernel_rfl⟩
instance : ITy Tryz.prog 223 Go.Value.nilFunc 1 8 := ⟨by kernel_rfl⟩
instance : ATy Tryz.prog 223 false := ⟨by kernel_rfl⟩
instance : ITy Tryz.prog 225 (Go.Value.agg #[Go.Value.nilFunc, (Go.Value.int Go.IntKind.i64 0), (Go.Value.int Go.IntKind.i64 0)]) 3 24 := ⟨by kernel_rfl⟩
instance : ATy Tryz.prog 225 true := ⟨by kernel_rfl⟩
instance : FTy Tryz.prog 225 0 0 223 := ⟨by kernel_rfl⟩
instance : FTy Tryz.prog 225 1 1 3 := ⟨by kernel_rfl⟩
instance : FTy Tryz.prog 225 2 2 3 := ⟨by kernel_rfl⟩
instance : ITy Tryz.prog 227 (Go.Value.agg #[(Go.Value.slice none 0 0), Go.Value.nilFunc, (Go.Value.int Go.IntKind.i64 0), (Go.Value.int Go.IntKind.i64 0), Go.Value.nilFunc]) 5 56 := ⟨by kernel_rfl⟩
instance : ATy Tryz.prog 227 true := ⟨by kernel_rfl⟩
instance : FTy Tryz.prog 227 0 0 222 := ⟨by kernel_rfl⟩
instance : FTy Tryz.prog 227 1 1 225 := ⟨by kernel_rfl⟩
instance : FTy Tryz.prog 227 2 4 126 := ⟨by kernel_rfl⟩
instance : ITy Tryz.prog 232 (Go.Value.agg #[(Go.Value.pointer none), (Go.Value.slice none 0 0)]) 2 32 := ⟨by kernel_rfl⟩
instance : FTy Tryz.prog 232 0 0 150 := ⟨by kernel_rfl⟩
instance : UTy Tryz.prog 244 (.int .u64) := ⟨Tryz.underlying244⟩
instance : ITy Tryz.prog 244 (Go.Value.int Go.IntKind.u64 0) 1 8 := ⟨by kernel_rfl⟩
instance : ATy Tryz.prog 244 false := ⟨by kernel_rfl⟩
instance : UTy Tryz.prog 331 .unsafePointer := ⟨Tryz.underlying331⟩
end Go.Sx
/- By program: how the values of structs and arrays are laid out. -/
namespace Go.Sx
open Go Go.Proofs
instance : BTy Tryz.prog 32 [(0, 1), (1, 1), (2, 1), (3, 1)] [(Go.Value.int Go.IntKind.i64 0), (Go.Value.int Go.IntKind.i64 0), (Go.Value.int Go.IntKind.i64 0), (Go.Value.int Go.IntKind.i64 0)] := ⟨by kernel_rfl⟩
instance : BTy Tryz.prog 36 [(0, 1), (1, 1), (2, 1), (3, 1), (4, 1), (5, 1), (6, 1), (7, 1), (8, 1), (9, 1), (10, 1), (11, 1), (12, 1), (13, 1), (14, 1)] [(Go.Value.int Go.IntKind.i64 0), (Go.Value.int Go.IntKind.i64 0), (Go.Value.int Go.IntKind.i64 0), (Go.Value.int Go.IntKind.i64 0), (Go.Value.bool Bool.false), (Go.Value.int Go.IntKind.i64 0), (Go.Value.int Go.IntKind.i64 0), (Go.Value.int Go.IntKind.i64 0), (Go.Value.int Go.IntKind.i64 0), (Go.Value.int Go.IntKind.i64 0), (Go.Value.int Go.IntKind.i64 0), (Go.Value.int Go.IntKind.i64 0), (Go.Value.bool Bool.false), (Go.Value.int Go.IntKind.i64 0), (Go.Value.string (ByteArray.mk #[]))] := ⟨by kernel_rfl⟩
instance : BTy Tryz.prog 41 [(0, 1), (1, 1), (2, 1)] [(Go.Value.bool Bool.false), (Go.Value.int Go.IntKind.i64 0), (Go.Value.slice none 0 0)] := ⟨by kernel_rfl⟩
instance : BTy Tryz.prog 54 [(0, 1), (1, 1), (2, 1), (3, 1)] [(Go.Value.slice none 0 0), (Go.Value.slice none 0 0), (Go.Value.int Go.IntKind.i64 0), (Go.Value.string (ByteArray.mk #[]))] := ⟨by kernel_rfl⟩
instance : BTy Tryz.prog 66 [(0, 1), (1, 1)] [(Go.Value.string (ByteArray.mk #[])), (Go.Value.int Go.IntKind.i64 0)] := ⟨by kernel_rfl⟩
instance : BTy Tryz.prog 72 [(0, 1), (1, 1), (2, 1), (3, 1), (4, 1), (5, 1)] [(Go.Value.int Go.IntKind.i64 0), (Go.Value.int Go.IntKind.i64 0), (Go.Value.bool Bool.false), (Go.Value.int Go.IntKind.i64 0), (Go.Value.int Go.IntKind.i64 0), (Go.Value.int Go.IntKind.i64 0)] := ⟨by kernel_rfl⟩
instance : BTy Tryz.prog 79 [(0, 1), (1, 1)] [(Go.Value.int Go.IntKind.i64 0), (Go.Value.int Go.IntKind.i64 0)] := ⟨by kernel_rfl⟩
instance : BTy Tryz.prog 128 [(0, 1), (1, 1), (2, 1)] [(Go.Value.int Go.IntKind.i64 0), (Go.Value.int Go.IntKind.i64 0), (Go.Value.int Go.IntKind.i64 0)] := ⟨by kernel_rfl⟩
instance : BTy Tryz.prog 140 [(0, 4)] [(Go.Value.slice none 0 0), (Go.Value.slice none 0 0), (Go.Value.int Go.IntKind.i64 0), (Go.Value.string (ByteArray.mk #[]))] := ⟨by kernel_rfl⟩
instance : BTy Tryz.prog 152 [(0, 2)] [(Go.Value.pointer none), (Go.Value.slice none 0 0)] := ⟨by kernel_rfl⟩
instance : BTy Tryz.prog 165 [(0, 1), (1, 1), (2, 1)] [(Go.Value.slice none 0 0), Go.Value.nilFunc, Go.Value.nilFunc] := ⟨by kernel_rfl⟩
instance : BTy Tryz.prog 166 [(0, 3), (3, 3), (6, 3), (9, 3), (12, 3), (15, 3), (18, 3)] [(Go.Value.slice none 0 0), Go.Value.nilFunc, Go.Value.nilFunc, (Go.Value.slice none 0 0), Go.Value.nilFunc, Go.Value.nilFunc, (Go.Value.slice none 0 0), Go.Value.nilFunc, Go.Value.nilFunc, (Go.Value.slice none 0 0), Go.Value.nilFunc, Go.Value.nilFunc, (Go.Value.slice none 0 0), Go.Value.nilFunc, Go.Value.nilFunc, (Go.Value.slice none 0 0), Go.Value.nilFunc, Go.Value.nilFunc, (Go.Value.slice none 0 0), Go.Value.nilFunc, Go.Value.nilFunc] := ⟨by kernel_rfl⟩
instance : BTy Tryz.prog 173 [(0, 1), (1, 1), (2, 1), (3, 1), (4, 1), (5, 1), (6, 1), (7, 1), (8, 1)] [(Go.Value.pointer none), (Go.Value.pointer none), (Go.Value.pointer none), (Go.Value.pointer none), (Go.Value.pointer none), (Go.Value.pointer none), (Go.Value.pointer none), (Go.Value.pointer none), (Go.Value.pointer none)] := ⟨by kernel_rfl⟩
instance : BTy Tryz.prog 213 [(0, 1), (1, 1)] [(Go.Value.string (ByteArray.mk #[])), (Go.Value.int Go.IntKind.i64 0)] := ⟨by kernel_rfl⟩
instance : BTy Tryz.prog 225 [(0, 1), (1, 1), (2, 1)] [Go.Value.nilFunc, (Go.Value.int Go.IntKind.i64 0), (Go.Value.int Go.IntKind.i64 0)] := ⟨by kernel_rfl⟩
instance : BTy Tryz.prog 227 [(0, 1), (1, 3), (4, 1)] [(Go.Value.slice none 0 0), Go.Value.nilFunc, (Go.Value.int Go.IntKind.i64 0), (Go.Value.int Go.IntKind.i64 0), Go.Value.nilFunc] := ⟨by kernel_rfl⟩
end Go.Sx
/- The seat's own facts that many texts need. -/
namespace Go.Sx
open Go Go.Proofs
instance mixedI : Mixed Tryz.prog := ⟨by kernel_rfl⟩
end Go.Sx
/-
  The layer with atoms: many atoms as one; append of a list that may be nil.
-/
namespace Go.Sx
open Go Go.RowKit
/-- Some atoms as one. -/
def A.all (K : List Atom) : Atom := ⟨fps K, fun w => ∀ x ∈ K, x.p w, fun w w' hs h hp x hx => x.loc w w' hs (fun b hb => h b (mem_fps hx hb)) (hp x hx)⟩
theorem Mm.pack {w0 w : World} {K H : List Atom} (h : Mm w0 (K ++ H) w) : Mm w0 (A.all K :: H) w := by
  refine ⟨h.ext, fun x hx => ?_, ?_, fun b hb => ?_⟩
  · rcases List.mem_cons.1 hx with rfl | hx
    · exact fun y hy => h.all y (List.mem_append_left _ hy)
    · exact h.all x (List.mem_append_right _ hx)
  · have := h.nd; rwa [fps_append] at this
  · refine h.rng b ?_
    rw [fps_append]; exact hb
theorem Mm.pack1 {w0 w : World} {K : List Atom} (h : Mm w0 K w) : Mm w0 [A.all K] w := Mm.pack (H := []) (by simpa using h)
theorem run_append_none {P : Program} {w : World} (base : Nat) (t ty e : TypeId) (i : TypeInfo) (size : Nat) (ht : P.underlying t = some (.slice e)) (hi : P.info? e = some i)
    (v : Value) (n c : Nat) (xs : List Value) (hown : w.ownsRow base e size v n xs) :
    (Builtin.append_ #[t, t] ty #[v, .slice none 0 c]).run P w = .ok v w := by
  rcases hown.2 with ⟨rfl, rfl⟩ | ⟨g, cap, cur, rfl, _, _, hnc, _⟩
  · simp [Builtin.append_, run_underlying ht, sizeOf, typeInfo, hi, Builtin.lenOf, Builtin.firstCells]
  · simp [Builtin.append_, run_underlying ht, sizeOf, typeInfo, hi, Builtin.lenOf, Builtin.firstCells, hnc, storeCells]
theorem Rpl.same {x : Atom} {H H' : List Atom} (h : Rpl x x H H') : H = H' := by
  generalize hy : x = y at h
  induction h with
  | here => rfl
  | there _ ih => rw [ih]
/-- A guarded operation, a call at that, that is not performed. -/
theorem HO.drop_a {P : Program} {N : Nat} {ds : List Deferred} {ol : List Oper} {Q : Post} {E : Env} {w0 : World} {H : List Atom} {fuel : Nat} {listed : Array Bool} {ty : TypeId} {pos : String} {af : Array Edge} {op : Op} {d : Option Nat} {i j : Nat} {want b : Bool} (hj : guardE ol E j = some b)
    (h : HA P N ds ol fuel (listed.setIfInBounds i true) Q (putE d undef E) w0 H)
    (hb : b = !want := by
      first | with_reducible rfl | assumption | (simp only [Bool.not_true, Bool.not_false]; done) | (simp only [decide_eq_true_eq, decide_eq_false_iff_not, Bool.not_true, Bool.not_false, not_true_eq_false, not_false_eq_true, reduceCtorEq]; first | done | assumption | omega)) (hd : dOk d N = true := by exact rfl) : HO P N ds ol fuel listed i ⟨d, op, ty, pos, af, some (j, want)⟩ Q E w0 H := fun w hM a ha => by
  have hy := guardE_spec hj ha
  have hne : ((some (!want) : Option Bool) == some want) = false := by cases want <;> rfl
  simp only [Region.wanted, hy, hb, hne, Bool.false_eq_true, if_false]
  exact h w hM _ (ha.putO hd undef)
section
variable {l : List (Addr × Value)} {w0 : World} {H : List Atom}
variable {P : Program} {N : Nat} {ds : List Deferred} {ol : List Oper} {Q : Post} {E : Env} {fuel : Nat} {listed : Array Bool} {ty : TypeId} {pos : String} {af : Array Edge}
end
end Go.Sx
/-
  DERIVED: THE SHELF's CONTRACTS AT THIS DUMP, IN PLAIN WORDS (tools/lay-plain.mjs out of 'TryzShelf.lean', which tools/lay-shelf.mjs wrote): THE SAME DECLARATIONS UNDER THE SAME NAMES: 'import', 'namespace', 'open', 'def', 'theorem' AND NOTHING ELSE: no command of the shelf's: FOR A HAND-IN. Each laying: the table of numbers ('.._ren') and one theorem, a field a fact of the dump's own or the kernel's comparison; each contract: ONE APPLICATION.
-/
namespace Go.Proofs
open Go.Shelf
def Tryz.lays170_ren : Go.Shelf.Ren := ⟨fun | 170 => 264 | n => n, fun | 70 => 147 | 3 => 3 | 0 => 0 | 72 => 150 | 37 => 148 | 5 => 5 | n => n, fun | n => n⟩
def Tryz.lays169_ren : Go.Shelf.Ren := ⟨fun | 169 => 68 | n => n, fun | 70 => 147 | 9 => 9 | 0 => 0 | 72 => 150 | 37 => 148 | 127 => 208 | 3 => 3 | 5 => 5 | n => n, fun | n => n⟩
def Tryz.lays241_ren : Go.Shelf.Ren := ⟨fun | 241 => 271 | 277 => 286 | n => n, fun | 70 => 147 | 3 => 3 | 0 => 0 | 72 => 150 | 37 => 148 | 5 => 5 | n => n, fun | n => n⟩
def Tryz.lays165_ren : Go.Shelf.Ren := ⟨fun | 165 => 250 | 240 => 252 | 241 => 271 | 276 => 272 | 277 => 286 | n => n, fun | 70 => 147 | 3 => 3 | 0 => 0 | 4 => 4 | 9 => 9 | 20 => 20 | 72 => 150 | 37 => 148 | 164 => 331 | 5 => 5 | n => n, fun | n => n⟩
def Tryz.lays159_ren : Go.Shelf.Ren := ⟨fun | 159 => 209 | 165 => 250 | 166 => 190 | 167 => 257 | 169 => 68 | 230 => 258 | 204 => 259 | 240 => 252 | 241 => 271 | 197 => 254 | 118 => 276 | 168 => 277 | 270 => 278 | 262 => 279 | 276 => 272 | 277 => 286 | 260 => 273 | 242 => 291 | 313 => 292 | 278 => 297 | 274 => 298 | 275 => 299 | n => n, fun | 9 => 9 | 4 => 4 | 3 => 3 | 5 => 5 | 72 => 150 | 0 => 0 | 76 => 269 | 75 => 268 | 107 => 321 | 70 => 147 | 20 => 20 | 37 => 148 | 127 => 208 | 21 => 21 | 105 => 316 | 164 => 331 | 162 => 351 | 203 => 349 | 119 => 343 | 46 => 176 | 139 => 346 | 138 => 345 | 51 => 242 | 160 => 353 | 208 => 360 | 206 => 358 | 80 => 117 | n => n, fun | 13 => 3 | 3 => 1 | 4 => 2 | n => n⟩
theorem Tryz.lays159 : Go.Proofs.Lays.n159 Tryz.prog Tryz.lays159_ren := {
  mixed := by kernel_rfl
  f118 := Tryz.func276.trans (congrArg some (by kernel_rfl))
  f159 := Tryz.func209.trans (congrArg some (by kernel_rfl))
  f165 := Tryz.func250.trans (congrArg some (by kernel_rfl))
  f166 := Tryz.func190.trans (congrArg some (by kernel_rfl))
  f167 := Tryz.func257.trans (congrArg some (by kernel_rfl))
  f168 := Tryz.func277.trans (congrArg some (by kernel_rfl))
  f169 := Tryz.func68.trans (congrArg some (by kernel_rfl))
  f197 := Tryz.func254.trans (congrArg some (by kernel_rfl))
  f204 := Tryz.func259.trans (congrArg some (by kernel_rfl))
  f230 := Tryz.func258.trans (congrArg some (by kernel_rfl))
  f240 := Tryz.func252.trans (congrArg some (by kernel_rfl))
  f241 := Tryz.func271.trans (congrArg some (by kernel_rfl))
  f242 := Tryz.func291.trans (congrArg some (by kernel_rfl))
  f260 := Tryz.func273.trans (congrArg some (by kernel_rfl))
  f262 := Tryz.func279.trans (congrArg some (by kernel_rfl))
  f270 := Tryz.func278.trans (congrArg some (by kernel_rfl))
  f274 := Tryz.func298.trans (congrArg some (by kernel_rfl))
  f275 := Tryz.func299.trans (congrArg some (by kernel_rfl))
  f276 := Tryz.func272.trans (congrArg some (by kernel_rfl))
  f277 := Tryz.func286.trans (congrArg some (by kernel_rfl))
  f278 := Tryz.func297.trans (congrArg some (by kernel_rfl))
  f313 := Tryz.func292.trans (congrArg some (by kernel_rfl))
  t0 := Tryz.underlying0
  a0 := Tryz.isAgg0
  z0 := Tryz.sizeOf0
  v0 := Tryz.zeroValue0
  t3 := Tryz.underlying3
  a3 := Tryz.isAgg3
  z3 := Tryz.sizeOf3
  v3 := Tryz.zeroValue3
  t4 := Tryz.underlying4
  a4 := Tryz.isAgg4
  z4 := Tryz.sizeOf4
  v4 := Tryz.zeroValue4
  t5 := Tryz.underlying5
  a5 := Tryz.isAgg5
  z5 := Tryz.sizeOf5
  v5 := Tryz.zeroValue5
  t9 := Tryz.underlying9
  a9 := Tryz.isAgg9
  z9 := Tryz.sizeOf9
  v9 := Tryz.zeroValue9
  t20 := Tryz.underlying20
  a20 := Tryz.isAgg20
  z20 := Tryz.sizeOf20
  v20 := Tryz.zeroValue20
  t21 := Tryz.underlying21
  a21 := Tryz.isAgg21
  z21 := Tryz.sizeOf21
  v21 := Tryz.zeroValue21
  t37 := Tryz.underlying148
  a37 := Tryz.isAgg148
  z37 := Tryz.sizeOf148
  v37 := Tryz.zeroValue148
  t46 := Tryz.underlying176
  a46 := Tryz.isAgg176
  z46 := Tryz.sizeOf176
  v46 := Tryz.zeroValue176
  t51 := Tryz.underlying242
  a51 := Tryz.isAgg242
  z51 := Tryz.sizeOf242
  v51 := Tryz.zeroValue242
  t70 := Tryz.underlying147
  a70 := Tryz.isAgg147
  z70 := Tryz.sizeOf147
  v70 := Tryz.zeroValue147
  t72 := Tryz.underlying150
  a72 := Tryz.isAgg150
  z72 := Tryz.sizeOf150
  v72 := Tryz.zeroValue150
  t75 := Tryz.underlying268
  a75 := Tryz.isAgg268
  z75 := Tryz.sizeOf268
  v75 := Tryz.zeroValue268
  t76 := Tryz.underlying269
  a76 := Tryz.isAgg269
  z76 := Tryz.sizeOf269
  v76 := Tryz.zeroValue269
  t105 := Tryz.underlying316
  a105 := Tryz.isAgg316
  z105 := Tryz.sizeOf316
  v105 := Tryz.zeroValue316
  t107 := Tryz.underlying321
  a107 := Tryz.isAgg321
  z107 := Tryz.sizeOf321
  v107 := Tryz.zeroValue321
  t119 := Tryz.underlying343
  a119 := Tryz.isAgg343
  z119 := Tryz.sizeOf343
  t127 := Tryz.underlying208
  a127 := Tryz.isAgg208
  z127 := Tryz.sizeOf208
  v127 := Tryz.zeroValue208
  t138 := Tryz.underlying345
  a138 := Tryz.isAgg345
  z138 := Tryz.sizeOf345
  v138 := Tryz.zeroValue345
  t139 := Tryz.underlying346
  a139 := Tryz.isAgg346
  z139 := Tryz.sizeOf346
  v139 := Tryz.zeroValue346
  t160 := Tryz.underlying353
  a160 := Tryz.isAgg353
  z160 := Tryz.sizeOf353
  v160 := Tryz.zeroValue353
  t162 := Tryz.underlying351
  a162 := Tryz.isAgg351
  z162 := Tryz.sizeOf351
  v162 := Tryz.zeroValue351
  t164 := Tryz.underlying331
  a164 := Tryz.isAgg331
  z164 := Tryz.sizeOf331
  v164 := Tryz.zeroValue331
  t203 := Tryz.underlying349
  a203 := Tryz.isAgg349
  z203 := Tryz.sizeOf349
  v203 := Tryz.zeroValue349
  t206 := Tryz.underlying358
  a206 := Tryz.isAgg358
  z206 := Tryz.sizeOf358
  v206 := Tryz.zeroValue358
  t208 := Tryz.underlying360
  a208 := Tryz.isAgg360
  z208 := Tryz.sizeOf360
  v208 := Tryz.zeroValue360
  g3 := by kernel_rfl
  g4 := by kernel_rfl
  g13 := by kernel_rfl }
theorem Tryz.Builder_Extra_159 : Builder.Extra Tryz.prog Tryz.lays159_ren := {
  sizeBuilder := by kernel_rfl
  liesBuilder := by kernel_rfl
  t5 := Tryz.underlying5
  a5 := Tryz.isAgg5
  z5 := Tryz.sizeOf5
  v5 := Tryz.zeroValue5
  infoByte := by kernel_rfl
  cellsByte := by kernel_rfl
  sizeByte := by kernel_rfl
  neB5 := by decide }
open Go.RowKit in
/-- strings.ToLower: "ToLower returns s with all Unicode letters mapped to their lower case.": ON ASCII TEXT OF AT MOST 2^47 BYTES. Below the heap's end the world is as it was: where a letter turns, the call makes a builder and its buffer. (LAID: no walk: one application.) -/
theorem Tryz.strings_ToLower_ascii (s : ByteArray) (w : World) (hs : s.size ≤ 140737488355328) (hascii : ∀ (j : Nat) (b : UInt8), s.data.toList[j]? = some b → b.toNat < 128) :
    Calls Tryz.prog 209 #[.string s] w fun e w' => e = .returned (.string ⟨(Lib.toLowerA s.data.toList).toArray⟩) ∧ Below w.heap.size w w' := Any.strings_ToLower_ascii Tryz.lays159 Tryz.Builder_Extra_159 s w hs hascii
def Tryz.lays156_ren : Go.Shelf.Ren := ⟨fun | 156 => 187 | 165 => 250 | 166 => 190 | 169 => 68 | 240 => 252 | 241 => 271 | 276 => 272 | 277 => 286 | n => n, fun | 31 => 109 | 9 => 9 | 3 => 3 | 4 => 4 | 0 => 0 | 20 => 20 | 72 => 150 | 76 => 269 | 70 => 147 | 37 => 148 | 75 => 268 | 127 => 208 | 164 => 331 | 5 => 5 | 80 => 117 | n => n, fun | n => n⟩
def Tryz.lays231_ren : Go.Shelf.Ren := ⟨fun | 231 => 197 | n => n, fun | 9 => 9 | 5 => 5 | 3 => 3 | 4 => 4 | n => n, fun | n => n⟩
def Tryz.lays232_ren : Go.Shelf.Ren := ⟨fun | 232 => 198 | n => n, fun | 9 => 9 | 5 => 5 | 3 => 3 | 4 => 4 | n => n, fun | n => n⟩
def Tryz.lays160_ren : Go.Shelf.Ren := ⟨fun | 160 => 136 | 232 => 198 | 231 => 197 | 227 => 199 | 234 => 201 | 233 => 200 | 236 => 203 | 235 => 202 | 228 => 253 | 271 => 256 | 151 => 255 | 197 => 254 | 120 => 275 | 152 => 274 | 260 => 273 | 137 => 287 | 119 => 288 | 224 => 289 | 225 => 290 | 217 => 293 | 266 => 300 | n => n, fun | 9 => 9 | 4 => 4 | 3 => 3 | 5 => 5 | 117 => 281 | 116 => 280 | 0 => 0 | 124 => 284 | 21 => 21 | 105 => 316 | 46 => 176 | 119 => 343 | 139 => 346 | 138 => 345 | n => n, fun | 3 => 1 | 4 => 2 | n => n⟩
def Tryz.lays118_ren : Go.Shelf.Ren := ⟨fun | 118 => 276 | n => n, fun | 21 => 21 | 3 => 3 | 4 => 4 | n => n, fun | n => n⟩
def Tryz.lays119_ren : Go.Shelf.Ren := ⟨fun | 119 => 288 | n => n, fun | 21 => 21 | 4 => 4 | n => n, fun | n => n⟩
def Tryz.lays120_ren : Go.Shelf.Ren := ⟨fun | 120 => 275 | n => n, fun | 5 => 5 | 4 => 4 | n => n, fun | n => n⟩
def Tryz.lays128_ren : Go.Shelf.Ren := ⟨fun | 128 => 162 | n => n, fun | 51 => 242 | 3 => 3 | 4 => 4 | 46 => 176 | 5 => 5 | 9 => 9 | n => n, fun | n => n⟩
def Tryz.lays125_ren : Go.Shelf.Ren := ⟨fun | 125 => 81 | 128 => 162 | 129 => 163 | n => n, fun | 46 => 176 | 3 => 3 | 51 => 242 | 53 => 244 | 4 => 4 | 5 => 5 | 9 => 9 | n => n, fun | n => n⟩
def Tryz.lays137_ren : Go.Shelf.Ren := ⟨fun | 137 => 287 | 217 => 293 | 266 => 300 | n => n, fun | 9 => 9 | 5 => 5 | 3 => 3 | n => n, fun | n => n⟩
def Tryz.lays215_ren : Go.Shelf.Ren := ⟨fun | 215 => 82 | n => n, fun | 3 => 3 | 4 => 4 | n => n, fun | n => n⟩
def Tryz.lays122_ren : Go.Shelf.Ren := ⟨fun | 122 => 35 | 215 => 82 | n => n, fun | 3 => 3 | 4 => 4 | n => n, fun | n => n⟩
theorem Tryz.lays122 : Go.Proofs.Lays.n122 Tryz.prog Tryz.lays122_ren := {
  mixed := by kernel_rfl
  f122 := Tryz.func35.trans (congrArg some (by kernel_rfl))
  f215 := Tryz.func82.trans (congrArg some (by kernel_rfl))
  t3 := Tryz.underlying3
  a3 := Tryz.isAgg3
  z3 := Tryz.sizeOf3
  v3 := Tryz.zeroValue3
  t4 := Tryz.underlying4
  a4 := Tryz.isAgg4
  z4 := Tryz.sizeOf4
  v4 := Tryz.zeroValue4 }
open Go.RowKit in
/-- cmp.Compare at int: "Compare returns -1 if x is less than y, 0 if x equals y, +1 if x is greater than y.": IT RETURNS 'Lib.compareInt x y'; the world is as it was. (LAID: no walk: one application.) -/
theorem Tryz.cmp_Compare_int (x y : Int) (w : World) :
    Calls Tryz.prog 35 #[.int .i64 x, .int .i64 y] w fun e w' => e = .returned (.int .i64 (Lib.compareInt x y)) ∧ w' = w := Any.cmp_Compare_int Tryz.lays122 x y w
def Tryz.lays278_ren : Go.Shelf.Ren := ⟨fun | 278 => 297 | n => n, fun | 37 => 148 | 21 => 21 | 51 => 242 | 4 => 4 | 46 => 176 | 5 => 5 | n => n, fun | n => n⟩
def Tryz.lays242_ren : Go.Shelf.Ren := ⟨fun | 242 => 291 | 278 => 297 | n => n, fun | 37 => 148 | 21 => 21 | 51 => 242 | 4 => 4 | 5 => 5 | 46 => 176 | n => n, fun | n => n⟩
def Tryz.lays195_ren : Go.Shelf.Ren := ⟨fun | 195 => 295 | n => n, fun | 9 => 9 | 3 => 3 | 0 => 0 | 4 => 4 | n => n, fun | n => n⟩
def Tryz.lays129_ren : Go.Shelf.Ren := ⟨fun | 129 => 163 | n => n, fun | 53 => 244 | 3 => 3 | 4 => 4 | 46 => 176 | 5 => 5 | 9 => 9 | n => n, fun | n => n⟩
def Tryz.lays217_ren : Go.Shelf.Ren := ⟨fun | 217 => 293 | 266 => 300 | n => n, fun | 9 => 9 | 5 => 5 | 3 => 3 | n => n, fun | n => n⟩
def Tryz.lays224_ren : Go.Shelf.Ren := ⟨fun | 224 => 289 | n => n, fun | 3 => 3 | n => n, fun | n => n⟩
def Tryz.lays314_ren : Go.Shelf.Ren := ⟨fun | 314 => 301 | n => n, fun | 9 => 9 | 51 => 242 | 3 => 3 | 4 => 4 | 5 => 5 | 46 => 176 | n => n, fun | n => n⟩
def Tryz.lays267_ren : Go.Shelf.Ren := ⟨fun | 267 => 294 | 314 => 301 | n => n, fun | 9 => 9 | 3 => 3 | 146 => 337 | 51 => 242 | 4 => 4 | 5 => 5 | 46 => 176 | n => n, fun | n => n⟩
def Tryz.lays219_ren : Go.Shelf.Ren := ⟨fun | 219 => 280 | 217 => 293 | 225 => 290 | 224 => 289 | 267 => 294 | 266 => 300 | 314 => 301 | n => n, fun | 9 => 9 | 3 => 3 | 4 => 4 | 5 => 5 | 46 => 176 | 146 => 337 | 51 => 242 | n => n, fun | 1 => 4 | n => n⟩
def Tryz.lays143_ren : Go.Shelf.Ren := ⟨fun | 143 => 260 | 219 => 280 | 217 => 293 | 225 => 290 | 224 => 289 | 267 => 294 | 266 => 300 | 314 => 301 | n => n, fun | 9 => 9 | 3 => 3 | 4 => 4 | 5 => 5 | 46 => 176 | 146 => 337 | 51 => 242 | n => n, fun | 1 => 4 | n => n⟩
def Tryz.lays144_ren : Go.Shelf.Ren := ⟨fun | 144 => 210 | 143 => 260 | 219 => 280 | 217 => 293 | 225 => 290 | 224 => 289 | 267 => 294 | 266 => 300 | 314 => 301 | n => n, fun | 9 => 9 | 4 => 4 | 3 => 3 | 5 => 5 | 46 => 176 | 146 => 337 | 51 => 242 | n => n, fun | 1 => 4 | n => n⟩
def Tryz.lays138_ren : Go.Shelf.Ren := ⟨fun | 138 => 281 | 195 => 295 | 218 => 296 | 143 => 260 | 219 => 280 | 217 => 293 | 225 => 290 | 224 => 289 | 267 => 294 | 266 => 300 | 314 => 301 | n => n, fun | 9 => 9 | 3 => 3 | 4 => 4 | 5 => 5 | 0 => 0 | 46 => 176 | 146 => 337 | 51 => 242 | n => n, fun | 1 => 4 | n => n⟩
def Tryz.laysM219_ren : Go.Shelf.Ren := ⟨fun | 219 => 280 | 217 => 293 | 225 => 290 | 224 => 289 | 267 => 294 | 266 => 300 | 314 => 301 | n => n, fun | 9 => 9 | 3 => 3 | 4 => 4 | 5 => 5 | 46 => 176 | 146 => 337 | 51 => 242 | n => n, fun | 1 => 4 | n => n⟩
def Tryz.laysM143_ren : Go.Shelf.Ren := ⟨fun | 143 => 260 | 219 => 280 | 217 => 293 | 225 => 290 | 224 => 289 | 267 => 294 | 266 => 300 | 314 => 301 | n => n, fun | 9 => 9 | 3 => 3 | 4 => 4 | 5 => 5 | 46 => 176 | 146 => 337 | 51 => 242 | n => n, fun | 1 => 4 | n => n⟩
def Tryz.laysM144_ren : Go.Shelf.Ren := ⟨fun | 144 => 210 | 143 => 260 | 219 => 280 | 217 => 293 | 225 => 290 | 224 => 289 | 267 => 294 | 266 => 300 | 314 => 301 | n => n, fun | 9 => 9 | 4 => 4 | 3 => 3 | 5 => 5 | 46 => 176 | 146 => 337 | 51 => 242 | n => n, fun | 1 => 4 | n => n⟩
def Tryz.laysM138_ren : Go.Shelf.Ren := ⟨fun | 138 => 281 | 195 => 295 | 218 => 296 | 143 => 260 | 219 => 280 | 217 => 293 | 225 => 290 | 224 => 289 | 267 => 294 | 266 => 300 | 314 => 301 | n => n, fun | 9 => 9 | 3 => 3 | 4 => 4 | 5 => 5 | 0 => 0 | 46 => 176 | 146 => 337 | 51 => 242 | n => n, fun | 1 => 4 | n => n⟩
def Tryz.lays189_ren : Go.Shelf.Ren := ⟨fun | 189 => 90 | 125 => 81 | 257 => 170 | 128 => 162 | 129 => 163 | 294 => 235 | 295 => 236 | 296 => 237 | 297 => 238 | 298 => 239 | 299 => 240 | 216 => 241 | 300 => 242 | 301 => 243 | 328 => 267 | 329 => 230 | 330 => 231 | 331 => 268 | 332 => 269 | 215 => 82 | 343 => 285 | n => n, fun | 28 => 25 | 3 => 3 | 46 => 176 | 0 => 0 | 51 => 242 | 53 => 244 | 4 => 4 | 183 => 236 | 182 => 235 | 131 => 73 | 5 => 5 | 9 => 9 | 218 => 294 | 222 => 230 | 228 => 326 | 229 => 84 | n => n, fun | n => n⟩
theorem Tryz.lays189 : Go.Proofs.Lays.n189 Tryz.prog Tryz.lays189_ren := {
  mixed := by kernel_rfl
  f125 := Tryz.func81.trans (congrArg some (by kernel_rfl))
  f128 := Tryz.func162.trans (congrArg some (by kernel_rfl))
  f129 := Tryz.func163.trans (congrArg some (by kernel_rfl))
  f189 := Tryz.func90.trans (congrArg some (by kernel_rfl))
  f215 := Tryz.func82.trans (congrArg some (by kernel_rfl))
  f216 := Tryz.func241.trans (congrArg some (by kernel_rfl))
  f257 := Tryz.func170.trans (congrArg some (by kernel_rfl))
  f294 := Tryz.func235.trans (congrArg some (by kernel_rfl))
  f295 := Tryz.func236.trans (congrArg some (by kernel_rfl))
  f296 := Tryz.func237.trans (congrArg some (by kernel_rfl))
  f297 := Tryz.func238.trans (congrArg some (by kernel_rfl))
  f298 := Tryz.func239.trans (congrArg some (by kernel_rfl))
  f299 := Tryz.func240.trans (congrArg some (by kernel_rfl))
  f300 := Tryz.func242.trans (congrArg some (by kernel_rfl))
  f301 := Tryz.func243.trans (congrArg some (by kernel_rfl))
  f328 := Tryz.func267.trans (congrArg some (by kernel_rfl))
  f329 := Tryz.func230.trans (congrArg some (by kernel_rfl))
  f330 := Tryz.func231.trans (congrArg some (by kernel_rfl))
  f331 := Tryz.func268.trans (congrArg some (by kernel_rfl))
  f332 := Tryz.func269.trans (congrArg some (by kernel_rfl))
  f343 := Tryz.func285.trans (congrArg some (by kernel_rfl))
  t0 := Tryz.underlying0
  a0 := Tryz.isAgg0
  z0 := Tryz.sizeOf0
  v0 := Tryz.zeroValue0
  t3 := Tryz.underlying3
  a3 := Tryz.isAgg3
  z3 := Tryz.sizeOf3
  v3 := Tryz.zeroValue3
  t4 := Tryz.underlying4
  a4 := Tryz.isAgg4
  z4 := Tryz.sizeOf4
  v4 := Tryz.zeroValue4
  t5 := Tryz.underlying5
  a5 := Tryz.isAgg5
  z5 := Tryz.sizeOf5
  v5 := Tryz.zeroValue5
  t9 := Tryz.underlying9
  a9 := Tryz.isAgg9
  z9 := Tryz.sizeOf9
  v9 := Tryz.zeroValue9
  t28 := Tryz.underlying25
  a28 := Tryz.isAgg25
  z28 := Tryz.sizeOf25
  v28 := Tryz.zeroValue25
  t46 := Tryz.underlying176
  a46 := Tryz.isAgg176
  z46 := Tryz.sizeOf176
  v46 := Tryz.zeroValue176
  t51 := Tryz.underlying242
  a51 := Tryz.isAgg242
  z51 := Tryz.sizeOf242
  v51 := Tryz.zeroValue242
  t53 := Tryz.underlying244
  a53 := Tryz.isAgg244
  z53 := Tryz.sizeOf244
  v53 := Tryz.zeroValue244
  t131 := Tryz.underlying73
  a131 := Tryz.isAgg73
  z131 := Tryz.sizeOf73
  v131 := Tryz.zeroValue73
  t182 := Tryz.underlying235
  a182 := Tryz.isAgg235
  z182 := Tryz.sizeOf235
  v182 := Tryz.zeroValue235
  t183 := Tryz.underlying236
  a183 := Tryz.isAgg236
  z183 := Tryz.sizeOf236
  v183 := Tryz.zeroValue236
  t218 := Tryz.underlying294
  a218 := Tryz.isAgg294
  z218 := Tryz.sizeOf294
  v218 := Tryz.zeroValue294
  t222 := Tryz.underlying230
  a222 := Tryz.isAgg230
  z222 := Tryz.sizeOf230
  v222 := Tryz.zeroValue230
  t228 := Tryz.underlying326
  a228 := Tryz.isAgg326
  z228 := Tryz.sizeOf326
  v228 := Tryz.zeroValue326
  t229 := Tryz.underlying84
  a229 := Tryz.isAgg84
  z229 := Tryz.sizeOf84
  v229 := Tryz.zeroValue84 }
open Go.Sort Go.RowKit in
theorem Tryz.slices_Sort_int (blk off cap : Nat) (zs : List Int) (w : World) (hH : Holds (Value.int .i64) w blk off zs.toArray) (hblk : blk < w.heap.size) (hsz : zs.length < 4611686018427387904) :
    Calls Tryz.prog 90 #[.slice (some ⟨blk, off, none⟩) zs.length cap] w fun e w' =>
      e = .returned (.tuple #[]) ∧ ∃ n os, w' = grow (putRow (Value.int .i64) (Sort.ahead w n) blk off (zs.mergeSort fun x y => decide (x ≤ y)).toArray) os := Any.slices_Sort_int Tryz.lays189 blk off cap zs w hH hblk hsz
def Tryz.lays315_ren : Go.Shelf.Ren := ⟨fun | 315 => 245 | n => n, fun | 9 => 9 | 40 => 252 | 4 => 4 | 3 => 3 | 0 => 0 | 21 => 21 | n => n, fun | n => n⟩
def Tryz.laysGw15_ren : Go.Shelf.Ren := ⟨fun | 15 => 178 | 20 => 245 | n => n, fun | 9 => 9 | 23 => 252 | 3 => 3 | 4 => 4 | 0 => 0 | 21 => 21 | n => n, fun | n => n⟩
def Tryz.laysGw17_ren : Go.Shelf.Ren := ⟨fun | 17 => 204 | 15 => 178 | 20 => 245 | n => n, fun | 9 => 9 | 23 => 252 | 4 => 4 | 3 => 3 | 0 => 0 | 21 => 21 | n => n, fun | n => n⟩
def Tryz.lays206_ren : Go.Shelf.Ren := ⟨fun | 206 => 284 | n => n, fun | 9 => 9 | 4 => 4 | 3 => 3 | n => n, fun | n => n⟩
def Tryz.lays99_ren : Go.Shelf.Ren := ⟨fun | 99 => 263 | 206 => 284 | n => n, fun | 9 => 9 | 4 => 4 | 3 => 3 | n => n, fun | n => n⟩
def Tryz.lays204_ren : Go.Shelf.Ren := ⟨fun | 204 => 259 | 262 => 279 | 313 => 292 | 274 => 298 | 275 => 299 | n => n, fun | 21 => 21 | 4 => 4 | 3 => 3 | 162 => 351 | 203 => 349 | 160 => 353 | 46 => 176 | 0 => 0 | 208 => 360 | 51 => 242 | 206 => 358 | n => n, fun | 13 => 3 | n => n⟩
def Tryz.lays197_ren : Go.Shelf.Ren := ⟨fun | 197 => 254 | 260 => 273 | n => n, fun | 9 => 9 | 21 => 21 | 3 => 3 | 4 => 4 | 5 => 5 | 105 => 316 | 119 => 343 | 0 => 0 | 46 => 176 | 139 => 346 | 138 => 345 | n => n, fun | 3 => 1 | 4 => 2 | n => n⟩
def Tryz.lays152_ren : Go.Shelf.Ren := ⟨fun | 152 => 274 | 137 => 287 | 119 => 288 | 224 => 289 | 225 => 290 | 217 => 293 | 266 => 300 | n => n, fun | 9 => 9 | 21 => 21 | 3 => 3 | 4 => 4 | 5 => 5 | 0 => 0 | 46 => 176 | n => n, fun | n => n⟩
def Tryz.lays151_ren : Go.Shelf.Ren := ⟨fun | 151 => 255 | 152 => 274 | 137 => 287 | 119 => 288 | 224 => 289 | 225 => 290 | 217 => 293 | 266 => 300 | n => n, fun | 9 => 9 | 21 => 21 | 4 => 4 | 3 => 3 | 5 => 5 | 0 => 0 | 46 => 176 | n => n, fun | n => n⟩
def Tryz.lays227_ren : Go.Shelf.Ren := ⟨fun | 227 => 199 | n => n, fun | 9 => 9 | 116 => 280 | 4 => 4 | 0 => 0 | 3 => 3 | 5 => 5 | n => n, fun | n => n⟩
def Tryz.lays228_ren : Go.Shelf.Ren := ⟨fun | 228 => 253 | n => n, fun | 124 => 284 | 5 => 5 | 4 => 4 | 0 => 0 | 116 => 280 | n => n, fun | n => n⟩
def Tryz.lays264_ren : Go.Shelf.Ren := ⟨fun | 264 => 283 | n => n, fun | 53 => 244 | 46 => 176 | n => n, fun | n => n⟩
def Tryz.lays212_ren : Go.Shelf.Ren := ⟨fun | 212 => 262 | 263 => 282 | 264 => 283 | n => n, fun | 46 => 176 | 51 => 242 | 146 => 337 | 53 => 244 | 148 => 339 | n => n, fun | n => n⟩
def Tryz.lays105_ren : Go.Shelf.Ren := ⟨fun | 105 => 212 | 212 => 262 | 99 => 263 | 165 => 250 | 166 => 190 | 170 => 264 | 169 => 68 | 263 => 282 | 264 => 283 | 206 => 284 | 240 => 252 | 241 => 271 | 276 => 272 | 277 => 286 | n => n, fun | 9 => 9 | 3 => 3 | 4 => 4 | 20 => 20 | 0 => 0 | 46 => 176 | 109 => 324 | 5 => 5 | 72 => 150 | 76 => 269 | 51 => 242 | 146 => 337 | 53 => 244 | 148 => 339 | 70 => 147 | 37 => 148 | 75 => 268 | 127 => 208 | 164 => 331 | 80 => 117 | n => n, fun | n => n⟩
def Tryz.lays260_ren : Go.Shelf.Ren := ⟨fun | 260 => 273 | n => n, fun | 9 => 9 | 21 => 21 | 3 => 3 | 4 => 4 | 5 => 5 | 119 => 343 | 0 => 0 | 46 => 176 | 139 => 346 | 138 => 345 | n => n, fun | 3 => 1 | 4 => 2 | n => n⟩
def Tryz.lays271_ren : Go.Shelf.Ren := ⟨fun | 271 => 256 | 120 => 275 | 197 => 254 | 260 => 273 | n => n, fun | 9 => 9 | 21 => 21 | 3 => 3 | 4 => 4 | 5 => 5 | 105 => 316 | 119 => 343 | 0 => 0 | 46 => 176 | 139 => 346 | 138 => 345 | n => n, fun | 3 => 1 | 4 => 2 | n => n⟩
def Tryz.lays274_ren : Go.Shelf.Ren := ⟨fun | 274 => 298 | n => n, fun | 21 => 21 | 162 => 351 | 160 => 353 | 3 => 3 | 4 => 4 | 46 => 176 | 0 => 0 | 208 => 360 | 51 => 242 | 206 => 358 | n => n, fun | n => n⟩
def Tryz.lays275_ren : Go.Shelf.Ren := ⟨fun | 275 => 299 | n => n, fun | 3 => 3 | 21 => 21 | 160 => 353 | 0 => 0 | 208 => 360 | 206 => 358 | 4 => 4 | 51 => 242 | n => n, fun | n => n⟩
def Tryz.lays313_ren : Go.Shelf.Ren := ⟨fun | 313 => 292 | 274 => 298 | 275 => 299 | n => n, fun | 3 => 3 | 21 => 21 | 162 => 351 | 4 => 4 | 160 => 353 | 46 => 176 | 0 => 0 | 208 => 360 | 51 => 242 | 206 => 358 | n => n, fun | n => n⟩
def Tryz.lays262_ren : Go.Shelf.Ren := ⟨fun | 262 => 279 | 313 => 292 | 274 => 298 | 275 => 299 | n => n, fun | 3 => 3 | 21 => 21 | 162 => 351 | 203 => 349 | 4 => 4 | 160 => 353 | 46 => 176 | 0 => 0 | 208 => 360 | 51 => 242 | 206 => 358 | n => n, fun | 13 => 3 | n => n⟩
def Tryz.lays108_ren : Go.Shelf.Ren := ⟨fun | 108 => 174 | n => n, fun | 28 => 25 | 3 => 3 | 0 => 0 | 4 => 4 | n => n, fun | n => n⟩
def Tryz.lays107_ren : Go.Shelf.Ren := ⟨fun | 107 => 98 | 108 => 174 | n => n, fun | 28 => 25 | 3 => 3 | 4 => 4 | 0 => 0 | n => n, fun | n => n⟩
def Tryz.laysNm215_ren : Go.Shelf.Ren := ⟨fun | 15 => 89 | n => n, fun | 22 => 25 | 3 => 3 | 4 => 4 | n => n, fun | n => n⟩
theorem Tryz.laysNm215 : Go.Proofs.Lays2.n15 Tryz.prog Tryz.laysNm215_ren := {
  mixed := by kernel_rfl
  f15 := Tryz.func89.trans (congrArg some (by kernel_rfl))
  t3 := Tryz.underlying3
  a3 := Tryz.isAgg3
  z3 := Tryz.sizeOf3
  v3 := Tryz.zeroValue3
  t4 := Tryz.underlying4
  a4 := Tryz.isAgg4
  z4 := Tryz.sizeOf4
  v4 := Tryz.zeroValue4
  t22 := Tryz.underlying25
  a22 := Tryz.isAgg25
  z22 := Tryz.sizeOf25
  v22 := Tryz.zeroValue25
  i3 := by kernel_rfl }
open Go.RowKit Go.Lib in
/-- slices.Clone at []int: "Clone returns a copy of the slice. The elements are copied using assignment, so this is a shallow clone. The result may have additional unused capacity. The result preserves the nilness of s.": OF A SLICE THAT IS NOT nil IT RETURNS A SLICE THAT IS NOT nil, OF THE SAME ELEMENTS, IN MEMORY OF THE CALL's OWN: in the how-to's words (6f): 'w'.ownsRow B e 1 v' n cells': v' begins at the head of a row among the blocks from B on (B: the heap's size at the call), not frozen, whose first cells are the elements · 'Below B w w'': below B all is as it was. The capacity is whatever the run-time gives. 'zs': what the cells behind the slice's address hold; 'zs.take n': its elements. (LAID: no walk: one application.) -/
theorem Tryz.slices_Clone_int (b off n c : Nat) (zs : List Int) (w : World) (hz : n ≤ zs.length) (hbig : n * 8 ≤ 140737488355328) (hc : ∀ j, j < zs.length → w.cell? ⟨b, off + j, none⟩ = some (.int .i64 (zs.getD j 0))) :
    Calls Tryz.prog 89 #[.slice (some ⟨b, off, none⟩) n c] w fun e w' => ∃ v', e = .returned v' ∧ w'.ownsRow w.heap.size 3 1 v' n ((zs.take n).map (Value.int .i64)) ∧ v' ≠ .slice none 0 0 ∧ Below w.heap.size w w' := Any.slices_Clone_int Tryz.laysNm215 b off n c zs w hz hbig hc
open Go.RowKit Go.Lib in
/-- The same at nil: nil comes back; the world is as it was. (LAID: no walk: one application.) -/
theorem Tryz.slices_Clone_int_nil (n c : Nat) (w : World) :
    Calls Tryz.prog 89 #[.slice none n c] w fun e w' => e = .returned (.slice none 0 0) ∧ w' = w := Any.slices_Clone_int_nil Tryz.laysNm215 n c w
open Go.RowKit Go.Lib in
/-- The same at a slice of length 0 that is not nil, WHATEVER ITS ADDRESS (no cell is asked for): a slice that is not nil and owns nothing comes back. (LAID: no walk: one application.) -/
theorem Tryz.slices_Clone_int_zero (a : Addr) (c : Nat) (w : World) :
    Calls Tryz.prog 89 #[.slice (some a) 0 c] w fun e w' => ∃ v', e = .returned v' ∧ w'.ownsRow w.heap.size 3 1 v' 0 [] ∧ v' ≠ .slice none 0 0 ∧ Below w.heap.size w w' := Any.slices_Clone_int_zero Tryz.laysNm215 a c w
def Tryz.laysNm220_ren : Go.Shelf.Ren := ⟨fun | 20 => 113 | n => n, fun | 22 => 25 | 3 => 3 | 4 => 4 | 0 => 0 | n => n, fun | n => n⟩
theorem Tryz.laysNm220 : Go.Proofs.Lays2.n20 Tryz.prog Tryz.laysNm220_ren := {
  mixed := by kernel_rfl
  f20 := Tryz.func113.trans (congrArg some (by kernel_rfl))
  t0 := Tryz.underlying0
  a0 := Tryz.isAgg0
  z0 := Tryz.sizeOf0
  v0 := Tryz.zeroValue0
  t3 := Tryz.underlying3
  a3 := Tryz.isAgg3
  z3 := Tryz.sizeOf3
  v3 := Tryz.zeroValue3
  t4 := Tryz.underlying4
  a4 := Tryz.isAgg4
  z4 := Tryz.sizeOf4
  v4 := Tryz.zeroValue4
  t22 := Tryz.underlying25
  a22 := Tryz.isAgg25
  z22 := Tryz.sizeOf25
  v22 := Tryz.zeroValue25
  i3 := by kernel_rfl }
open Go.RowKit Go.Lib Go.Sort in
/-- slices.Compact at []int: "Compact replaces consecutive runs of equal elements with a single copy. This is like the uniq command found on Unix. Compact modifies the contents of the slice s and returns the modified slice, which may have a smaller length. Compact zeroes the elements between the new length and the original length. The result preserves the nilness of s.": IT RETURNS THE SLICE CUT TO 'Lib.compact zs'; ITS CELLS HOLD 'Lib.compact zs', THEN ZERO VALUES up to the old length; all else is as it was, but for the count of draws. IN THE WORDS OF slices.Sort's CONTRACT ('Holds', 'putRow'): so the everyday 'slices.Sort(xs); xs = slices.Compact(xs)' goes from the one contract to the other. It asks 'zs.length ≤ cap' (every slice's: the reslicing 's[:k]' looks at it). Length 0, nil: '.._empty'. (LAID: no walk: one application.) -/
theorem Tryz.slices_Compact_int (blk off cap : Nat) (zs : List Int) (w : World) (hH : Holds (Value.int .i64) w blk off zs.toArray) (hsz : zs.length ≤ 9223372036854775807) (hcap : zs.length ≤ cap) :
    Calls Tryz.prog 113 #[.slice (some ⟨blk, off, none⟩) zs.length cap] w fun e w' => e = .returned (.slice (some ⟨blk, off, none⟩) (Lib.compact zs).length cap) ∧ ∃ q, w' = putRow (Value.int .i64) (Sort.ahead w q) blk off (Lib.compact zs ++ List.replicate (zs.length - (Lib.compact zs).length) 0).toArray := Any.slices_Compact_int Tryz.laysNm220 blk off cap zs w hH hsz hcap
open Go.RowKit Go.Lib Go.Sort in
/-- The same at a slice of length 0, a nil one too: it comes back as it is. (LAID: no walk: one application.) -/
theorem Tryz.slices_Compact_int_empty (a : Option Addr) (cap : Nat) (w : World) :
    Calls Tryz.prog 113 #[.slice a 0 cap] w fun e w' => e = .returned (.slice a 0 cap) ∧ w' = w := Any.slices_Compact_int_empty Tryz.laysNm220 a cap w
def Tryz.laysNm237_ren : Go.Shelf.Ren := ⟨fun | 37 => 82 | n => n, fun | 3 => 3 | 4 => 4 | n => n, fun | n => n⟩
def Tryz.laysNm231_ren : Go.Shelf.Ren := ⟨fun | 31 => 241 | 37 => 82 | n => n, fun | 3 => 3 | 4 => 4 | n => n, fun | n => n⟩
open Go.RowKit Go.Sort in
/-- .. and plain. (LAID: no walk: one application.) -/
theorem Tryz.slices_Sort_int_none (p : Option Addr) (cap : Nat) (w : World) :
    Calls Tryz.prog 90 #[.slice p 0 cap] w fun e w' => e = .returned (.tuple #[]) ∧ w' = w := Any.slices_Sort_int_none Tryz.lays189 p cap w
def Tryz.laysSlE041_f89_ren : Go.Shelf.Ren := ⟨fun | 41 => 89 | n => n, fun | 22 => 25 | 23 => 3 | 4 => 4 | n => n, fun | n => n⟩
end Go.Proofs
/- slices.Sort and slices.Compact at numbers. -/
namespace Go.Sx
open Go Go.Proofs Go.RowKit
def srtI (l : List Int) : List Int := l.mergeSort fun x y => decide (x ≤ y)
theorem srtI_perm (l : List Int) : (srtI l).Perm l := List.mergeSort_perm _ _
theorem srtI_len (l : List Int) : (srtI l).length = l.length := (srtI_perm l).length_eq
theorem srtI_pw (l : List Int) : (srtI l).Pairwise (· ≤ ·) := by
  have := List.pairwise_mergeSort (le := fun x y : Int => decide (x ≤ y)) (by intro a b c; simp only [decide_eq_true_eq]; omega) (by intro a b; simp only [Bool.or_eq_true, decide_eq_true_eq]; omega) l
  exact this.imp fun h => by simpa using h
/-- The numbers, ascending, each once. -/
def numL (l : List Int) : List Int := Lib.compact (srtI l)
theorem putCells_take (ys : List Int) (cur : Array Value) (h : ys.length ≤ cur.size) : (Go.Sort.putCells (Value.int .i64) 0 ys.toArray cur).toList.take ys.length = ints ys := by
  apply List.ext_getElem?
  intro i
  rw [List.getElem?_take]
  by_cases hi : i < ys.length
  · rw [if_pos hi, ints_get hi]
    have hi2 : i < cur.size := by omega
    simp [Go.Sort.putCells, hi2, at', zv, hi]
  · rw [if_neg hi, List.getElem?_eq_none (by rw [ints_len]; omega)]
theorem sortI_fn {w0 w : World} {H H' : List Atom} {a : Option Addr} {c : Nat} {l : List Int} (hM : Mm w0 H w) (hr : Rpl (A.grow 3 1 a c l.length (ints l)) (A.grow 3 1 a c l.length (ints (srtI l))) H H') (hl : l.length ≤ 1000000) :
    Fn Tryz.prog 90 #[.slice a l.length c] w fun v w' => v = .tuple #[] ∧ Mm w0 H' w' := by
  by_cases h0 : l = []
  · subst h0
    refine Calls.mono (Tryz.slices_Sort_int_none a c w) ?_
    rintro e w' ⟨rfl, rfl⟩
    have hs : srtI [] = [] := by simp [srtI]
    rw [hs] at hr
    exact ⟨_, rfl, rfl, Rpl.same hr ▸ hM⟩
  have hne : l.length ≠ 0 := fun e => h0 (List.eq_nil_of_length_eq_zero e)
  have hown := hM.own hr.mem
  obtain ⟨b, cur, rfl, hg, hnc, hcm, hcs⟩ : ∃ b cur, a = some ⟨b, 0, none⟩ ∧ w.heap[b]? = some (.cells cur 3 (0, 0)) ∧ l.length ≤ c ∧ c ≤ maxLen ∧ cur.size = c * 1 := by
    rcases hown.2 with ⟨-, h2⟩ | ⟨g, cap, cur, hv, -, hg, hnc, hcm, hcs, -⟩
    · exact absurd h2 hne
    · cases hv; exact ⟨g, cur, rfl, hg, hnc, hcm, hcs⟩
  have hlt := (Array.getElem?_eq_some_iff.1 hg).1
  have hcell : ∀ j, j < l.length → w.cell? ⟨b, j, none⟩ = some (zv (at' l j)) := fun j hj => ownsRow_cell hown (ints_get hj)
  refine Calls.mono (Tryz.slices_Sort_int b 0 c l w (fun j hj => ?_) hlt (by omega)) ?_
  · have hj' : j < l.length := by simpa using hj
    rw [Nat.zero_add, hcell j hj']
    refine ⟨?_, by simp [World.frozen?, hg]⟩
    simp [at', hj', zv, getElem!_pos]
  · rintro e w' ⟨rfl, n, os, rfl⟩
    have hs : (Go.Sort.putRow (Value.int .i64) (Go.Sort.ahead w n) b 0 (srtI l).toArray).heap.size = w.heap.size := by simp [Go.Sort.putRow, Go.Sort.mapBlock, Go.Sort.ahead]
    refine ⟨_, rfl, rfl, hM.turn hr rfl rfl rfl ?_ (fun k hk hkb => ?_) ?_ (by simp [A.grow, Value.ownBlock]) (fun b' hb' => .inl (by simpa [A.grow, Value.ownBlock] using hb'))⟩
    · simp [Go.Sort.grow, Go.Sort.putRow, Go.Sort.mapBlock, Go.Sort.ahead]
    · have hkb' : ¬ b = k := fun e => hkb (by subst e; simp [A.grow, Value.ownBlock])
      show ((Go.Sort.putRow (Value.int .i64) (Go.Sort.ahead w n) b 0 (srtI l).toArray).heap ++ os)[k]? = _
      rw [Array.getElem?_append, if_pos (by rw [hs]; exact hk)]
      show (w.heap.modify b _)[k]? = _
      rw [Array.getElem?_modify, if_neg hkb']
    · have hls := srtI_len l
      refine ⟨by simp [ints, hls], .inr ⟨b, c, Go.Sort.putCells (Value.int .i64) 0 (srtI l).toArray cur, rfl, Nat.zero_le _, ?_, hnc, hcm, by simp [Go.Sort.putCells, hcs], ?_⟩⟩
      · have hm : (Go.Sort.putRow (Value.int .i64) (Go.Sort.ahead w n) b 0 (srtI l).toArray).heap[b]? = some (.cells (Go.Sort.putCells (Value.int .i64) 0 (srtI l).toArray cur) 3 (0, 0)) := by
          simp [Go.Sort.putRow, Go.Sort.mapBlock, Go.Sort.ahead, Array.getElem?_modify, hg, Go.Sort.onCells]
        show (Go.Sort.grow (Go.Sort.putRow (Value.int .i64) (Go.Sort.ahead w n) b 0 (srtI l).toArray) os).heap[b]? = _
        rw [Go.Sort.grow]
        simp only [Array.getElem?_append]
        rw [if_pos (by rw [hs]; exact hlt), hm]
      · rw [Nat.mul_one, ← hls]
        exact putCells_take _ _ (by omega)
theorem compactI_fn {w0 w : World} {H H' : List Atom} {a : Option Addr} {c : Nat} {l : List Int} (hM : Mm w0 H w) (hr : Rpl (A.grow 3 1 a c l.length (ints l)) (A.grow 3 1 a c (Lib.compact l).length (ints (Lib.compact l))) H H') (hl : l.length ≤ 1000000) :
    Fn Tryz.prog 113 #[.slice a l.length c] w fun v w' => v = .slice a (Lib.compact l).length c ∧ Mm w0 H' w' := by
  by_cases h0 : l = []
  · subst h0
    refine Calls.mono (Tryz.slices_Compact_int_empty a c w) ?_
    rintro e w' ⟨rfl, rfl⟩
    exact ⟨_, rfl, rfl, Rpl.same hr ▸ hM⟩
  have hne : l.length ≠ 0 := fun e => h0 (List.eq_nil_of_length_eq_zero e)
  have hown := hM.own hr.mem
  obtain ⟨b, cur, rfl, hg, hnc, hcm, hcs⟩ : ∃ b cur, a = some ⟨b, 0, none⟩ ∧ w.heap[b]? = some (.cells cur 3 (0, 0)) ∧ l.length ≤ c ∧ c ≤ maxLen ∧ cur.size = c * 1 := by
    rcases hown.2 with ⟨-, h2⟩ | ⟨g, cap, cur, hv, -, hg, hnc, hcm, hcs, -⟩
    · exact absurd h2 hne
    · cases hv; exact ⟨g, cur, rfl, hg, hnc, hcm, hcs⟩
  have hlt := (Array.getElem?_eq_some_iff.1 hg).1
  have hcell : ∀ j, j < l.length → w.cell? ⟨b, j, none⟩ = some (zv (at' l j)) := fun j hj => ownsRow_cell hown (ints_get hj)
  have hle : (Lib.compact l).length ≤ l.length := Lib.compact_length_le l
  refine Calls.mono (Tryz.slices_Compact_int b 0 c l w (fun j hj => ?_) (by omega) hnc) ?_
  · have hj' : j < l.length := by simpa using hj
    rw [Nat.zero_add, hcell j hj']
    refine ⟨?_, by simp [World.frozen?, hg]⟩
    simp [at', hj', zv, getElem!_pos]
  · rintro e w' ⟨rfl, q, rfl⟩
    obtain ⟨ys, hys⟩ : ∃ ys, ys = Lib.compact l ++ List.replicate (l.length - (Lib.compact l).length) 0 := ⟨_, rfl⟩
    have hyl : ys.length = l.length := by rw [hys, List.length_append, List.length_replicate]; omega
    rw [← hys]
    refine ⟨_, rfl, rfl, hM.turn hr rfl rfl rfl (by simp [Go.Sort.putRow, Go.Sort.mapBlock, Go.Sort.ahead]) (fun k hk hkb => ?_) ?_ (by simp [A.grow, Value.ownBlock]) (fun b' hb' => .inl (by simpa [A.grow, Value.ownBlock] using hb'))⟩
    · have hkb' : ¬ b = k := fun e => hkb (by subst e; simp [A.grow, Value.ownBlock])
      show (w.heap.modify b _)[k]? = _
      rw [Array.getElem?_modify, if_neg hkb']
    · refine ⟨by simp [ints], .inr ⟨b, c, Go.Sort.putCells (Value.int .i64) 0 ys.toArray cur, rfl, Nat.zero_le _, ?_, by omega, hcm, by simp [Go.Sort.putCells, hcs], ?_⟩⟩
      · simp [Go.Sort.putRow, Go.Sort.mapBlock, Go.Sort.ahead, Array.getElem?_modify, hg, Go.Sort.onCells]
      · have h1 := putCells_take ys cur (by omega)
        have h2 : (Go.Sort.putCells (Value.int .i64) 0 ys.toArray cur).toList.take ((Lib.compact l).length * 1) = ((Go.Sort.putCells (Value.int .i64) 0 ys.toArray cur).toList.take ys.length).take (Lib.compact l).length := by
          rw [List.take_take, Nat.mul_one, Nat.min_eq_left (by omega)]
        rw [h2, h1, hys, ints_app, ← ints_len (Lib.compact l), List.take_left]
end Go.Sx
/- Plain, chapter 20: records, which of them are valid, how they are encoded. -/
namespace Go.Sx
open Go
/-- A number, seven bits at a time. -/
def vint (z : Nat) : List UInt8 := if h : z < 128 then [UInt8.ofNat z] else UInt8.ofNat (z % 128 + 128) :: vint (z / 128)
termination_by z
decreasing_by omega
theorem vint_lt {z : Nat} (h : z < 128) : vint z = [UInt8.ofNat z] := by rw [vint, dif_pos h]
theorem vint_ge {z : Nat} (h : ¬ z < 128) : vint z = UInt8.ofNat (z % 128 + 128) :: vint (z / 128) := by rw [vint, dif_neg h]
theorem u8_inj {a b : Nat} (ha : a < 256) (hb : b < 256) (h : UInt8.ofNat a = UInt8.ofNat b) : a = b := by
  have := congrArg UInt8.toNat h
  simp only [UInt8.toNat_ofNat'] at this
  omega
theorem vint_inj : ∀ (n a b : Nat), a ≤ n → ∀ {x y : List UInt8}, vint a ++ x = vint b ++ y → a = b ∧ x = y
  | n, a, b, hn, x, y, h => by
    by_cases ha : a < 128
    · rw [vint_lt ha] at h
      by_cases hb : b < 128
      · rw [vint_lt hb] at h
        simp only [List.cons_append, List.nil_append, List.cons.injEq] at h
        exact ⟨u8_inj (by omega) (by omega) h.1, h.2⟩
      · rw [vint_ge hb] at h
        simp only [List.cons_append, List.nil_append, List.cons.injEq] at h
        have := u8_inj (by omega) (by omega) h.1
        omega
    · rw [vint_ge ha] at h
      by_cases hb : b < 128
      · rw [vint_lt hb] at h
        simp only [List.cons_append, List.nil_append, List.cons.injEq] at h
        have := u8_inj (by omega) (by omega) h.1
        omega
      · rw [vint_ge hb] at h
        simp only [List.cons_append, List.cons.injEq] at h
        have h1 := u8_inj (by omega) (by omega) h.1
        match n, hn with
        | 0, hn => omega
        | n + 1, hn =>
          have h2 := vint_inj n (a / 128) (b / 128) (by omega) h.2
          exact ⟨by omega, h2.2⟩
/-- A number that is not negative, as it is encoded. -/
def putN (n : Nat) : List UInt8 := vint (2 * n)
theorem putN_inj {a b : Nat} {x y : List UInt8} (h : putN a ++ x = putN b ++ y) : a = b ∧ x = y := by
  have := vint_inj (2 * a) _ _ (Nat.le_refl _) h
  exact ⟨by omega, this.2⟩
structure Rc where
  kind : Int
  id : Int
  version : Int
  day : Int
  gone : Bool
  start : Int
  stop : Int
  pack : Int
  person : Int
  role : Int
  purpose : Int
  clause : Int
  adm : Bool
  party : Int
  text : ByteArray
def b01 (b : Bool) : Int := if b = true then 1 else 0
def Rc.get (r : Rc) : Nat → Int
  | 0 => r.id
  | 1 => r.start
  | 2 => r.stop
  | 3 => r.pack
  | 4 => r.person
  | 5 => r.role
  | 6 => r.purpose
  | 7 => r.clause
  | 8 => b01 r.adm
  | 9 => r.party
  | _ => 0
/-- The fields of a kind, with their limits, in their order. -/
def specF (k : Int) : List (Nat × Int × Int) :=
  if k = 1 then [(0, 1, 1000000), (1, 0, 100000), (2, 0, 100000), (4, 1, 1000000), (5, 1, 1000000)]
  else if k = 2 then [(7, 1, 1000000), (1, 0, 100000), (2, 0, 100000), (3, 0, 1000000), (5, 0, 1000000), (6, 0, 1000000), (8, 0, 1), (9, 0, 1000000)]
  else if k = 3 then [(0, 1, 1000000), (1, 0, 100000), (2, 0, 100000), (3, 1, 1000000), (6, 0, 1000000), (9, 1, 1000000)]
  else if k = 4 then [(0, 1, 1000000), (1, 0, 100000), (2, 0, 100000), (3, 1, 1000000)]
  else if k = 5 then [(0, 1, 1000000), (1, 0, 100000), (2, 0, 100000), (3, 0, 1000000)]
  else if k = 6 then [(9, 1, 1000000), (1, 0, 100000)]
  else if k = 7 then [(0, 1, 1000000), (1, 0, 100000), (2, 0, 100000), (3, 1, 1000000), (6, 0, 1000000), (7, 0, 63)]
  else if k = 8 then [(0, 1, 1000000), (1, 0, 100000), (3, 1, 1000000), (7, 1, 1000000)]
  else []
/-- Which field is the key. -/
def keyF (k : Int) : Nat := if k = 2 then 7 else if k = 6 then 9 else 0
def restP (r : Rc) : Prop := (r.kind ≠ 6 → r.kind ≠ 8 → r.start ≤ r.stop) ∧ (r.kind = 2 → r.clause ≠ r.party)
structure ValidR (r : Rc) : Prop where
  kind : 1 ≤ r.kind ∧ r.kind ≤ 8
  ver : 1 ≤ r.version ∧ r.version ≤ 1000000
  day : 0 ≤ r.day ∧ r.day ≤ 100000
  text : r.text.size ≤ 200
  rest : restP r
  lim : ∀ p ∈ specF r.kind, p.2.1 ≤ r.get p.1 ∧ r.get p.1 ≤ p.2.2
  zero : ∀ i, i < 10 → i ∉ (specF r.kind).map Prod.fst → r.get i = 0
theorem b01_inj {a b : Bool} (h : b01 a = b01 b) : a = b := by
  cases a <;> cases b <;> first | rfl | (exfalso; revert h; decide)
theorem ByteArray_ext' {a b : ByteArray} (h : a.data.toList = b.data.toList) : a = b := by
  cases a; cases b
  congr 1
  exact Array.toList_inj.1 h
/-- A record is what its fields are. -/
theorem Rc.ext_get {r s : Rc} (hk : r.kind = s.kind) (hv : r.version = s.version) (hd : r.day = s.day) (hg : r.gone = s.gone) (ht : r.text = s.text) (h : ∀ i, i < 10 → r.get i = s.get i) : r = s := by
  cases r; cases s
  simp only at hk hv hd hg ht
  have h0 := h 0 (by decide)
  have h1 := h 1 (by decide)
  have h2 := h 2 (by decide)
  have h3 := h 3 (by decide)
  have h4 := h 4 (by decide)
  have h5 := h 5 (by decide)
  have h6 := h 6 (by decide)
  have h7 := h 7 (by decide)
  have h8 := h 8 (by decide)
  have h9 := h 9 (by decide)
  simp only [Rc.get] at h0 h1 h2 h3 h4 h5 h6 h7 h8 h9
  have h8' := b01_inj h8
  subst hk hv hd hg ht h0 h1 h2 h3 h4 h5 h6 h7 h8' h9
  rfl
def encF (r : Rc) (l : List (Nat × Int × Int)) : List UInt8 := (l.map fun p => putN (r.get p.1).toNat).flatten
/-- The encoding of a valid record. -/
def encR (r : Rc) : List UInt8 := putN r.kind.toNat ++ (putN r.version.toNat ++ (putN r.day.toNat ++ (putN (b01 r.gone).toNat ++ (encF r (specF r.kind) ++ (putN r.text.size ++ r.text.data.toList)))))
def keyR (r : Rc) : List UInt8 := putN r.kind.toNat ++ putN (r.get (keyF r.kind)).toNat
theorem encF_inj {r s : Rc} : ∀ (l : List (Nat × Int × Int)), (∀ p ∈ l, 0 ≤ r.get p.1 ∧ 0 ≤ s.get p.1) → ∀ {x y : List UInt8}, encF r l ++ x = encF s l ++ y → (∀ p ∈ l, r.get p.1 = s.get p.1) ∧ x = y
  | [], _, x, y, h => ⟨fun p hp => absurd hp (by simp), h⟩
  | p :: l, h0, x, y, h => by
    have e : ∀ r : Rc, encF r (p :: l) = putN (r.get p.1).toNat ++ encF r l := fun r => rfl
    rw [e r, e s, List.append_assoc, List.append_assoc] at h
    obtain ⟨h1, h2⟩ := putN_inj h
    obtain ⟨h3, h4⟩ := encF_inj l (fun q hq => h0 q (List.mem_cons_of_mem _ hq)) h2
    have h5 := h0 p (List.mem_cons_self ..)
    refine ⟨fun q hq => ?_, h4⟩
    rcases List.mem_cons.1 hq with rfl | hq
    · omega
    · exact h3 q hq
theorem spec_lo {k : Int} {p : Nat × Int × Int} (h : p ∈ specF k) : 0 ≤ p.2.1 ∧ p.1 < 10 := by
  unfold specF at h
  repeat' split at h
  all_goals (simp only [List.mem_cons, List.not_mem_nil, or_false] at h)
  all_goals (first | (rcases h with rfl | rfl | rfl | rfl | rfl | rfl | rfl | rfl <;> decide) | (rcases h with rfl | rfl | rfl | rfl | rfl | rfl <;> decide) | (rcases h with rfl | rfl | rfl | rfl | rfl <;> decide) | (rcases h with rfl | rfl | rfl | rfl <;> decide) | (rcases h with rfl | rfl <;> decide))
theorem enc_inj {r s : Rc} (hr : ValidR r) (hs : ValidR s) (h : encR r = encR s) : r = s := by
  unfold encR at h
  obtain ⟨h1, h⟩ := putN_inj h
  obtain ⟨h2, h⟩ := putN_inj h
  obtain ⟨h3, h⟩ := putN_inj h
  obtain ⟨h4, h⟩ := putN_inj h
  have hk : r.kind = s.kind := by have := hr.kind; have := hs.kind; omega
  rw [← hk] at h
  obtain ⟨h5, h⟩ := encF_inj _ (fun p hp => ⟨by have := (hr.lim p hp).1; have := (spec_lo hp).1; omega, by have := (hs.lim p (hk ▸ hp)).1; have := (spec_lo hp).1; omega⟩) h
  obtain ⟨h6, h⟩ := putN_inj h
  have hb : ∀ b, 0 ≤ b01 b := fun b => by cases b <;> decide
  refine Rc.ext_get hk (by have := hr.ver; have := hs.ver; omega) (by have := hr.day; have := hs.day; omega) (b01_inj (by have := hb r.gone; have := hb s.gone; omega)) (ByteArray_ext' h) fun i hi => ?_
  by_cases hm : i ∈ (specF r.kind).map Prod.fst
  · obtain ⟨p, hp, rfl⟩ := List.mem_map.1 hm
    exact h5 p hp
  · rw [hr.zero i hi hm, hs.zero i hi (hk ▸ hm)]
end Go.Sx
/-
  The layer with atoms: maps whose keys are strings.
-/
namespace Go.Sx
open Go Go.RowKit
theorem ba_beq (a b : ByteArray) : (a == b) = decide (a = b) := by
  rw [Bool.eq_iff_iff, Go.MapKept.bytes_beq, decide_eq_true_eq]
def msetS : List (ByteArray × Value) → ByteArray → Value → List (ByteArray × Value)
  | [], x, v => [(x, v)]
  | (y, u) :: l, x, v => if x = y then (x, v) :: l else (y, u) :: msetS l x v
def mgetS : List (ByteArray × Value) → ByteArray → Option Value
  | [], _ => none
  | (y, u) :: l, x => if x = y then some u else mgetS l x
def midxS : List (ByteArray × Value) → ByteArray → Option (Nat × Value)
  | [], _ => none
  | (y, u) :: l, x => if x = y then some (0, u) else (midxS l x).map fun p => (p.1 + 1, p.2)
theorem findNow_str (x : ByteArray) : ∀ (es : List MapEntry) (l : List (ByteArray × Value)) (i : Nat), es.map (fun e => (e.key, e.val)) = l.map (fun p => (Value.string p.1, p.2)) →
    Instr.findNow (.string) (.string x) es i = some ((midxS l x).map fun p => (p.1 + i, p.2))
  | [], [], i, _ => rfl
  | [], _ :: _, _, h => by simp at h
  | _ :: _, [], _, h => by simp at h
  | e :: es, (y, u) :: l, i, h => by
    simp only [List.map_cons, List.cons.injEq, Prod.mk.injEq] at h
    obtain ⟨⟨h1, h2⟩, h3⟩ := h
    unfold Instr.findNow
    rw [h1]
    simp only [Instr.sameNow, midxS]
    rw [ba_beq]
    by_cases hxy : x = y
    · subst hxy
      simp [h2]
    · rw [decide_eq_false hxy, if_neg hxy]
      simp only
      rw [findNow_str x es l (i + 1) h3]
      cases midxS l x with
      | none => rfl
      | some p => simp; omega
theorem midxS_none {l : List (ByteArray × Value)} {x : ByteArray} (v : Value) (h : midxS l x = none) : msetS l x v = l ++ [(x, v)] := by
  induction l with
  | nil => rfl
  | cons p l ih =>
    obtain ⟨y, u⟩ := p
    simp only [midxS] at h
    by_cases hxy : x = y
    · rw [if_pos hxy] at h; cases h
    · rw [if_neg hxy] at h
      simp only [msetS, if_neg hxy, List.cons_append]
      rw [ih (by simpa using h)]
theorem midxS_some {l : List (ByteArray × Value)} {x : ByteArray} (v : Value) {i : Nat} {u : Value} (h : midxS l x = some (i, u)) : msetS l x v = l.set i (x, v) ∧ i < l.length ∧ l[i]? = some (x, u) := by
  induction l generalizing i u with
  | nil => cases h
  | cons p l ih =>
    obtain ⟨y, u'⟩ := p
    simp only [midxS] at h
    by_cases hxy : x = y
    · rw [if_pos hxy] at h
      cases h
      simp [msetS, hxy]
    · rw [if_neg hxy] at h
      rw [Option.map_eq_some_iff] at h
      obtain ⟨⟨j, u2⟩, h1, h2⟩ := h
      cases h2
      obtain ⟨h3, h4, h5⟩ := ih h1
      simp only [msetS, if_neg hxy, h3]
      exact ⟨by simp, by simpa using h4, by simpa using h5⟩
theorem run_checkKey_str {P : Program} {w : World} {k : TypeId} (hk : P.underlying k = some (.string)) (e : Bool) (n : Nat) (x : ByteArray) : (Instr.checkKey e (n + 1) k (.string x)).run P w = .ok () w := by
  unfold Instr.checkKey
  simp only [Sem.run_bind, run_underlying hk, Result.andThen]
  rfl
theorem run_keyStaysS {P : Program} {w : World} (x : ByteArray) : (Instr.keyThatStays (.string x) (.string x)).run P w = .ok (.string x) w := by
  have : Instr.sameBits 10000 (.string x) (.string x) = true := by unfold Instr.sameBits; rw [ba_beq, decide_eq_true rfl]
  unfold Instr.keyThatStays
  rw [this]; rfl
theorem run_findKey_str {P : Program} {w : World} {k : TypeId} (hk : P.underlying k = some (.string)) (x : ByteArray) (es : List MapEntry) (l : List (ByteArray × Value)) (hes : es.map (fun e => (e.key, e.val)) = l.map (fun p => (Value.string p.1, p.2))) :
    (Instr.findKey k (.string x) es).run P w = .ok (midxS l x) w := by
  unfold Instr.findKey
  simp only [Sem.run_bind, run_underlying hk, Result.andThen, findNow_str x es l 0 hes, Sem.run_pure]
  cases midxS l x <;> rfl
theorem midxS_get (l : List (ByteArray × Value)) (x : ByteArray) : (midxS l x).map (·.2) = mgetS l x := by
  induction l with
  | nil => rfl
  | cons p l ih =>
    obtain ⟨y, u⟩ := p
    simp only [midxS, mgetS]
    split
    · rfl
    · rw [← ih]; cases midxS l x <;> rfl
/-- A map that may be ranged over: what it holds, in the order in which it came; no stamp twice. -/
structure MS (l : List (ByteArray × Value)) (es : Array MapEntry) (clk : Nat) : Prop where
  ents : es.toList.map (fun e => (e.key, e.val)) = l.map fun p => (Value.string p.1, p.2)
  born : ∀ e ∈ es.toList, e.born < clk
  nd : (es.toList.map (·.born)).Nodup
theorem MS.nil : MS [] #[] 0 := ⟨rfl, by simp, by simp⟩
theorem MS.ent {l : List (ByteArray × Value)} {es : Array MapEntry} {clk : Nat} (h : MS l es clk) {e : MapEntry} (he : e ∈ es.toList) : ∃ p ∈ l, e.key = .string p.1 ∧ e.val = p.2 := by
  have h1 : (e.key, e.val) ∈ es.toList.map (fun e => (e.key, e.val)) := List.mem_map.2 ⟨e, he, rfl⟩
  rw [h.ents] at h1
  obtain ⟨p, hp, e1⟩ := List.mem_map.1 h1
  simp only [Prod.mk.injEq] at e1
  exact ⟨p, hp, e1.1.symm, e1.2.symm⟩
theorem MS.of {l : List (ByteArray × Value)} {es : Array MapEntry} {clk : Nat} (h : MS l es clk) {p : ByteArray × Value} (hp : p ∈ l) : ∃ e ∈ es.toList, e.key = .string p.1 ∧ e.val = p.2 := by
  have h1 : (Value.string p.1, p.2) ∈ l.map fun p => (Value.string p.1, p.2) := List.mem_map.2 ⟨p, hp, rfl⟩
  rw [← h.ents] at h1
  obtain ⟨e, he, e1⟩ := List.mem_map.1 h1
  simp only [Prod.mk.injEq] at e1
  exact ⟨e, he, e1.1, e1.2⟩
def msP (l : List (ByteArray × Value)) (o : Obj) : Prop := ∃ es clk, o = .map es clk ∧ MS l es clk
def A.ms (b : Nat) (l : List (ByteArray × Value)) : Atom := A.obj b (msP l)
section
variable {P : Program} {w : World} {t k e : TypeId} {b : Nat} {l : List (ByteArray × Value)} {o : Obj} {z : Value} {sz bb : Nat}
theorem run_lookup_ms2 (ht : P.underlying t = some (.map k e)) (hk : P.underlying k = some (.string)) [hi : ITy P e z sz bb] (hb : w.heap[b]? = some o) (ho : msP l o) (x : ByteArray) :
    (Instr.lookup t (.map (some b)) (.string x) true).run P w = .ok (.tuple #[(mgetS l x).getD z, .bool (mgetS l x).isSome]) w := by
  obtain ⟨es, clk, rfl, h⟩ := ho
  have hf := run_findKey_str (P := P) (w := w) hk x es.toList l h.ents
  unfold Instr.lookup
  simp only [Sem.run_bind, run_underlying ht, Result.andThen, run_getMap hb, Sem.run_pure, run_checkKey_str hk _ 9999 x, hf]
  rw [← midxS_get]
  cases midxS l x with
  | none => simp [run_zeroValue (h := hi)]
  | some p => simp
theorem run_mapUpdate_ms (ht : P.underlying t = some (.map k e)) (hk : P.underlying k = some (.string)) (hb : w.heap[b]? = some o) (ho : msP l o) (x : ByteArray) (v : Value) :
    ∃ o', (Instr.mapUpdate t (.map (some b)) (.string x) v).run P w = .ok () (w.putObj b o') ∧ msP (msetS l x v) o' := by
  obtain ⟨es, clk, rfl, h⟩ := ho
  have hes := h.ents
  have hf := run_findKey_str (P := P) (w := w) hk x es.toList l hes
  have hlen : es.size = l.length := by have := congrArg List.length hes; simpa using this
  cases hm : midxS l x with
  | none =>
    refine ⟨.map (es.push { key := .string x, val := v, born := clk }) (clk + 1), ?_, ?_⟩
    · rw [hm] at hf
      unfold Instr.mapUpdate
      simp only [Sem.run_bind, run_underlying ht, Result.andThen, run_getMap hb, run_checkKey_str hk _ 9999 x, hf, run_setMap _ hb]
    · refine ⟨_, _, rfl, ?_, ?_, ?_⟩
      · rw [midxS_none v hm]
        simp [hes]
      · intro y hy
        rw [Array.toList_push] at hy
        rcases List.mem_append.1 hy with hy | hy
        · exact Nat.lt_succ_of_lt (h.born y hy)
        · rw [List.mem_singleton] at hy; subst hy; exact Nat.lt_succ_self _
      · rw [Array.toList_push, List.map_append]
        refine List.nodup_append.2 ⟨h.nd, by simp, fun a ha c hc e => ?_⟩
        obtain ⟨y, hy, rfl⟩ := List.mem_map.1 ha
        simp only [List.map_cons, List.map_nil, List.mem_singleton] at hc
        have := h.born y hy
        omega
  | some p =>
    obtain ⟨i, u⟩ := p
    obtain ⟨h1, h2, h3⟩ := midxS_some v hm
    have hi : i < es.size := by omega
    have hkey : es[i].key = .string x := by
      have := congrArg (fun l => l[i]?) hes
      simp [h3, hi] at this
      exact this.1
    have hb2 : (es.modify i fun e => { e with key := .string x, val := v }).toList.map (·.born) = es.toList.map (·.born) := by
      apply List.ext_getElem?
      intro j
      simp only [List.getElem?_map, Array.getElem?_toList]
      rw [Array.getElem?_modify]
      by_cases e : i = j
      · subst e; simp [hi]
      · simp [e]
    refine ⟨.map (es.modify i fun e => { e with key := .string x, val := v }) clk, ?_, ?_⟩
    · rw [hm] at hf
      have hk2 : ((es[i]?).map (·.key)).getD (.string x) = .string x := by simp [hi, hkey]
      unfold Instr.mapUpdate
      simp only [Sem.run_bind, run_underlying ht, Result.andThen, run_getMap hb, run_checkKey_str hk _ 9999 x, hf, hk2, run_keyStaysS, run_setMap _ hb]
    · refine ⟨_, _, rfl, ?_, ?_, ?_⟩
      · rw [h1]
        apply List.ext_getElem?
        intro j
        have hj := congrArg (fun l => l[j]?) hes
        simp only [List.getElem?_map, Array.getElem?_toList] at hj ⊢
        rw [Array.getElem?_modify, List.getElem?_set]
        by_cases e : i = j
        · subst e
          simp [hi, h2]
        · simp only [if_neg e]
          exact hj
      · intro y hy
        have h4 : y.born ∈ (es.modify i fun e => { e with key := .string x, val := v }).toList.map (·.born) := List.mem_map.2 ⟨y, hy, rfl⟩
        rw [hb2] at h4
        obtain ⟨y0, h5, h6⟩ := List.mem_map.1 h4
        rw [← h6]; exact h.born y0 h5
      · rw [hb2]; exact h.nd
end
section
variable {P : Program} {r : Option Nat} {N : Nat} {ds : List Deferred} {ol rest : List Oper} {Q : Post} {E : Env} {w0 : World} {H : List Atom} {next : Act → World → Prop} {g : Option (Nat × Bool)}
variable {d : Nat} {t ty : TypeId} {pos : String} {af : Array Edge} {x y z : Operand}
theorem H1.mkms (hd : Nat.blt d N = true) (h : ∀ b, HN N ds next ((d, .map (some b)) :: E) w0 (A.ms b [] :: H)) : H1 P r N ds next ⟨some d, .makeMap t none, ty, pos, af, g⟩ Q E w0 H := fun w hM =>
  W1.run (v := .map (some w.heap.size)) (w' := w.alloc (.map #[] 0)) (fun _ _ => rfl) rfl hd (h _ _ (by
    refine (hM.more (Ext.alloc w _)).cons ⟨_, World.alloc_heap_new w _, _, _, rfl, MS.nil⟩ (by simp [A.ms, A.obj]) fun b hb => ?_
    have hb' : b = w.heap.size := by simpa [A.ms, A.obj] using hb
    subst hb'
    refine ⟨fun hm => ?_, hM.ext.size, by simp⟩
    have := (hM.rng _ hm).2
    omega))
theorem H1.msget2 {b : Nat} {k e : TypeId} {l : List (ByteArray × Value)} {n : ByteArray} {zv : Value} {sz bb : Nat} [ht : UTy P t (.map k e)] [hk : UTy P k (.string)] [hi : ITy P e zv sz bb] (hx : Env.ev E x = some (.map (some b))) (hy : Env.ev E y = some (.string n))
    (hm : A.ms b l ∈ H) (hd : Nat.blt d N = true) (h : HN N ds next ((d, .tuple #[(mgetS l n).getD zv, .bool (mgetS l n).isSome]) :: E) w0 H) : H1 P r N ds next ⟨some d, .lookup t x y true, ty, pos, af, g⟩ Q E w0 H := fun w hM => by
  obtain ⟨o, h1, h2⟩ : ∃ o, w.heap[b]? = some o ∧ msP l o := hM.all _ hm
  refine W1.run (v := .tuple #[(mgetS l n).getD zv, .bool (mgetS l n).isSome]) (w' := w) (fun a ha' => ?_) rfl hd (h w hM)
  simp only [execOp, ha'.ev hx, ha'.ev hy, Sem.run_bind, run_lookup_ms2 ht.is hk.is h1 h2 n, Result.andThen, Sem.run_pure]
theorem H1.msset {b : Nat} {k e : TypeId} {l : List (ByteArray × Value)} {n : ByteArray} {v : Value} {H' : List Atom} [ht : UTy P t (.map k e)] [hk : UTy P k (.string)] (hx : Env.ev E x = some (.map (some b))) (hy : Env.ev E y = some (.string n)) (hz : Env.ev E z = some v)
    (hr : Rpl (A.ms b l) (A.ms b (msetS l n v)) H H') (h : HN N ds next E w0 H') : H1 P r N ds next ⟨none, .mapUpdate t x y z, ty, pos, af, g⟩ Q E w0 H := fun w hM => by
  obtain ⟨o, hb, ho⟩ : ∃ o, w.heap[b]? = some o ∧ msP l o := hM.all _ hr.mem
  obtain ⟨o', hrun, ho'⟩ := run_mapUpdate_ms (P := P) ht.is hk.is hb ho n v
  have hlt := (Array.getElem?_eq_some_iff.1 hb).1
  refine W1.skip (w' := w.putObj b o') (fun a ha => ?_) rfl rfl (h _ (hM.turn hr rfl rfl rfl (by simp) (fun k _ hk' => ?_) ⟨o', World.putObj_heap_same hlt, ho'⟩ (by simp [A.ms, A.obj]) fun b' hb' => .inl hb'))
  · simp only [execOp, ha.ev hx, ha.ev hy, ha.ev hz, Sem.run_bind, hrun, Result.andThen, Sem.run_pure]
  · exact World.putObj_heap_other (by simpa [A.ms, A.obj] using hk')
end
theorem Mm.head {w0 w : World} {a a' : Atom} {H : List Atom} (h : Mm w0 (a :: H) w) (hfp : a'.fp = a.fp) (hp : a'.p w) : Mm w0 (a' :: H) w := by
  refine ⟨h.ext, fun x hx => ?_, ?_, fun b hb => ?_⟩
  · rcases List.mem_cons.1 hx with rfl | hx
    · exact hp
    · exact h.all x (List.mem_cons_of_mem _ hx)
  · have := h.nd
    rw [fps_cons] at this ⊢
    rwa [hfp]
  · refine h.rng b ?_
    rw [fps_cons] at hb ⊢
    rwa [hfp] at hb
/-- A map whose entries are known one by one. -/
def A.mx (b : Nat) (es : Array MapEntry) (clk : Nat) : Atom := A.obj b fun o => o = .map es clk
theorem Mm.mx {w0 w : World} {b clk : Nat} {es : Array MapEntry} {H : List Atom} (h : Mm w0 H w) (hm : A.mx b es clk ∈ H) : w.heap[b]? = some (.map es clk) := by
  obtain ⟨o, h1, rfl⟩ : ∃ o, w.heap[b]? = some o ∧ o = .map es clk := h.all _ hm
  exact h1
theorem stamp_inj : ∀ {es : List MapEntry}, (es.map (·.born)).Nodup → ∀ {e e' : MapEntry}, e ∈ es → e' ∈ es → e.born = e'.born → e = e'
  | [], _, _, _, he, _, _ => absurd he (by simp)
  | x :: es, h, e, e', he, he', hb => by
    rw [List.map_cons, List.nodup_cons] at h
    rcases List.mem_cons.1 he with h1 | h1 <;> rcases List.mem_cons.1 he' with h2 | h2
    · rw [h1, h2]
    · exact absurd (List.mem_map.2 ⟨e', h2, by rw [← hb, h1]⟩) h.1
    · exact absurd (List.mem_map.2 ⟨e, h1, by rw [hb, h2]⟩) h.1
    · exact stamp_inj h.2 h1 h2 hb
theorem map_eraseIdx {α β : Type} (f : α → β) : ∀ (l : List α) (i : Nat), (l.map f).eraseIdx i = (l.eraseIdx i).map f
  | [], _ => rfl
  | _ :: _, 0 => rfl
  | a :: l, i + 1 => by
    simp only [List.map_cons, List.eraseIdx_cons_succ]
    rw [map_eraseIdx f l i]
theorem mleft_erase (es : Array MapEntry) (i : Nat) (seen : Array Nat) : mleft (es.eraseIdxIfInBounds i) seen ≤ mleft es seen := by
  unfold mleft
  rw [Array.toList_eraseIdxIfInBounds]
  exact ((List.eraseIdx_sublist _ i).filter _).length_le
end Go.Sx
/- Plain, chapter 21: which record prevails; what is in effect. -/
namespace Go.Sx
open Go
theorem less_irr : ∀ x : List UInt8, Op.bytesLess x x = false
  | [] => rfl
  | a :: x => by
    simp only [Op.bytesLess, Bool.or_eq_false_iff, Bool.and_eq_false_iff, decide_eq_false_iff_not]
    exact ⟨UInt8.lt_irrefl a, .inr (less_irr x)⟩
theorem less_tri : ∀ x y : List UInt8, x ≠ y → Op.bytesLess x y = true ∨ Op.bytesLess y x = true
  | [], [], h => absurd rfl h
  | [], _ :: _, _ => .inl rfl
  | _ :: _, [], _ => .inr rfl
  | a :: x, b :: y, h => by
    simp only [Op.bytesLess, Bool.or_eq_true, Bool.and_eq_true, decide_eq_true_eq, beq_iff_eq]
    by_cases e : a = b
    · subst e
      rcases less_tri x y (fun e => h (by rw [e])) with h1 | h1
      · exact .inl (.inr ⟨rfl, h1⟩)
      · exact .inr (.inr ⟨rfl, h1⟩)
    · rcases UInt8.lt_or_lt_of_ne e with h1 | h1
      · exact .inl (.inl h1)
      · exact .inr (.inl h1)
theorem less_trans : ∀ x y z : List UInt8, Op.bytesLess x y = true → Op.bytesLess y z = true → Op.bytesLess x z = true
  | _, [], _, h, _ => by simp [Op.bytesLess] at h
  | _, _ :: _, [], _, h => by simp [Op.bytesLess] at h
  | [], _ :: _, _ :: _, _, _ => rfl
  | a :: x, b :: y, c :: z, h1, h2 => by
    simp only [Op.bytesLess, Bool.or_eq_true, Bool.and_eq_true, decide_eq_true_eq, beq_iff_eq] at h1 h2 ⊢
    rcases h1 with h1 | ⟨rfl, h1⟩
    · rcases h2 with h2 | ⟨rfl, h2⟩
      · exact .inl (UInt8.lt_trans h1 h2)
      · exact .inl h1
    · rcases h2 with h2 | ⟨rfl, h2⟩
      · exact .inl h2
      · exact .inr ⟨rfl, less_trans x y z h1 h2⟩
/-- One record counts rather than another one. -/
def Prev (a b : Rc) : Prop := (ValidR a ∧ ValidR b ∧ keyR a = keyR b) ∧ (b.version < a.version ∨ a.version = b.version ∧ Op.bytesLess (encR b) (encR a) = true)
theorem prev_irr (a : Rc) : ¬ Prev a a := fun h => by
  rcases h.2 with h1 | ⟨-, h1⟩
  · omega
  · rw [less_irr] at h1; cases h1
theorem prev_trans {a b c : Rc} (h1 : Prev a b) (h2 : Prev b c) : Prev a c := by
  refine ⟨⟨h1.1.1, h2.1.2.1, h1.1.2.2.trans h2.1.2.2⟩, ?_⟩
  rcases h1.2 with h3 | ⟨h3, h4⟩
  · rcases h2.2 with h5 | ⟨h5, h6⟩
    · exact .inl (by omega)
    · exact .inl (by omega)
  · rcases h2.2 with h5 | ⟨h5, h6⟩
    · exact .inl (by omega)
    · exact .inr ⟨by omega, less_trans _ _ _ h6 h4⟩
theorem prev_tri {a b : Rc} (ha : ValidR a) (hb : ValidR b) (hk : keyR a = keyR b) (h : a ≠ b) : Prev a b ∨ Prev b a := by
  by_cases h1 : a.version = b.version
  · rcases less_tri (encR b) (encR a) (fun e => h (enc_inj ha hb e.symm)) with h2 | h2
    · exact .inl ⟨⟨ha, hb, hk⟩, .inr ⟨h1, h2⟩⟩
    · exact .inr ⟨⟨hb, ha, hk.symm⟩, .inr ⟨h1.symm, h2⟩⟩
  · by_cases h2 : b.version < a.version
    · exact .inl ⟨⟨ha, hb, hk⟩, .inl h2⟩
    · exact .inr ⟨⟨hb, ha, hk.symm⟩, .inl (by omega)⟩
/-- A record that counts, by what is known on a day. -/
def Now (day : Int) (r : Rc) : Prop := ValidR r ∧ r.day ≤ day
structure Top (l : List Rc) (day : Int) (r : Rc) : Prop where
  mem : r ∈ l
  now : Now day r
  top : ∀ s ∈ l, s.day ≤ day → ¬ Prev s r
/-- What a map of keys holds behind some records. -/
structure EffM (l : List Rc) (day : Int) (m : List (List UInt8 × Rc)) : Prop where
  nd : (m.map Prod.fst).Nodup
  top : ∀ p ∈ m, p.1 = keyR p.2 ∧ Top l day p.2
  all : ∀ r ∈ l, Now day r → ∃ p ∈ m, p.1 = keyR r
theorem EffM.nil (day : Int) : EffM [] day [] := ⟨by simp, by simp, by simp⟩
theorem top_uniq {l : List Rc} {day : Int} {r s : Rc} (hr : Top l day r) (hs : Top l day s) (hk : keyR r = keyR s) : r = s := by
  apply Classical.byContradiction
  intro h
  rcases prev_tri hr.now.1 hs.now.1 hk h with h1 | h1
  · exact hs.top r hr.mem hr.now.2 h1
  · exact hr.top s hs.mem hs.now.2 h1
theorem EffM.has {l : List Rc} {day : Int} {m : List (List UInt8 × Rc)} (h : EffM l day m) (r : Rc) : (∃ p ∈ m, p.2 = r) ↔ Top l day r := by
  constructor
  · rintro ⟨p, hp, rfl⟩
    exact (h.top p hp).2
  · intro hr
    obtain ⟨p, hp, e⟩ := h.all r hr.mem hr.now
    have h1 := h.top p hp
    exact ⟨p, hp, top_uniq h1.2 hr (by rw [← h1.1, e])⟩
theorem top_snoc {l : List Rc} {day : Int} {r s : Rc} (h : Top l day r) (hs : ¬ (s.day ≤ day ∧ Prev s r)) : Top (l ++ [s]) day r :=
  ⟨List.mem_append_left _ h.mem, h.now, fun t ht hd hp => by
    rcases List.mem_append.1 ht with ht | ht
    · exact h.top t ht hd hp
    · obtain rfl := List.mem_singleton.1 ht
      exact hs ⟨hd, hp⟩⟩
/-- One that does not count. -/
theorem EffM.skip {l : List Rc} {day : Int} {m : List (List UInt8 × Rc)} (h : EffM l day m) {r : Rc} (hr : ¬ Now day r) : EffM (l ++ [r]) day m :=
  ⟨h.nd, fun p hp => ⟨(h.top p hp).1, top_snoc (h.top p hp).2 fun e => hr ⟨e.2.1.1, e.1⟩⟩, fun s hs hn => by
    rcases List.mem_append.1 hs with hs | hs
    · exact h.all s hs hn
    · obtain rfl := List.mem_singleton.1 hs
      exact absurd hn hr⟩
/-- One that does not prevail. -/
theorem EffM.keep {l : List Rc} {day : Int} {m : List (List UInt8 × Rc)} (h : EffM l day m) {r : Rc} {p : List UInt8 × Rc} (hp : p ∈ m) (hk : p.1 = keyR r) (hn : ¬ Prev r p.2) : EffM (l ++ [r]) day m :=
  ⟨h.nd, fun q hq => ⟨(h.top q hq).1, top_snoc (h.top q hq).2 fun e => by
    have h1 := (h.top q hq).1
    have h2 := (h.top p hp).1
    have h3 : q.2 = p.2 := top_uniq (h.top q hq).2 (h.top p hp).2 (by rw [← h1, ← h2, hk, h1]; exact e.2.1.2.2.symm)
    rw [h3] at e
    exact hn e.2⟩, fun s hs hs2 => by
    rcases List.mem_append.1 hs with hs | hs
    · exact h.all s hs hs2
    · obtain rfl := List.mem_singleton.1 hs
      exact ⟨p, hp, hk⟩⟩
/-- A new key. -/
theorem EffM.add {l : List Rc} {day : Int} {m : List (List UInt8 × Rc)} (h : EffM l day m) {r : Rc} (hr : Now day r) (hk : ∀ p ∈ m, p.1 ≠ keyR r) : EffM (l ++ [r]) day (m ++ [(keyR r, r)]) := by
  have hno : ∀ s ∈ l, Now day s → keyR s ≠ keyR r := fun s hs hn e => by
    obtain ⟨p, hp, e2⟩ := h.all s hs hn
    exact hk p hp (e2.trans e)
  refine ⟨?_, fun q hq => ?_, fun s hs hs2 => ?_⟩
  · rw [List.map_append]
    refine List.nodup_append.2 ⟨h.nd, by simp, fun a ha b hb e => ?_⟩
    obtain ⟨p, hp, rfl⟩ := List.mem_map.1 ha
    simp only [List.map_cons, List.map_nil, List.mem_singleton] at hb
    exact hk p hp (e.trans hb)
  · rcases List.mem_append.1 hq with hq | hq
    · have h1 := h.top q hq
      exact ⟨h1.1, top_snoc h1.2 fun e => hk q hq (by rw [h1.1]; exact e.2.1.2.2.symm)⟩
    · obtain rfl := List.mem_singleton.1 hq
      refine ⟨rfl, List.mem_append_right _ (List.mem_singleton.2 rfl), hr, fun t ht hd hp => ?_⟩
      rcases List.mem_append.1 ht with ht | ht
      · exact hno t ht ⟨hp.1.1, hd⟩ hp.1.2.2
      · obtain rfl := List.mem_singleton.1 ht
        exact prev_irr _ hp
  · rcases List.mem_append.1 hs with hs | hs
    · obtain ⟨p, hp, e⟩ := h.all s hs hs2
      exact ⟨p, List.mem_append_left _ hp, e⟩
    · obtain rfl := List.mem_singleton.1 hs
      exact ⟨_, List.mem_append_right _ (List.mem_singleton.2 rfl), rfl⟩
/-- One that prevails stands where the other one stood. -/
theorem EffM.put {l : List Rc} {day : Int} {m : List (List UInt8 × Rc)} (h : EffM l day m) {r : Rc} (hr : Now day r) {i : Nat} {s : Rc} (hi : m[i]? = some (keyR r, s)) (hp : Prev r s) : EffM (l ++ [r]) day (m.set i (keyR r, r)) := by
  have hlt : i < m.length := (List.getElem?_eq_some_iff.1 hi).1
  have hmi : (keyR r, s) ∈ m := List.mem_of_getElem? hi
  have hts := (h.top _ hmi).2
  have hfst : (m.set i (keyR r, r)).map Prod.fst = m.map Prod.fst := by
    rw [List.map_set]
    apply List.ext_getElem?
    intro j
    rw [List.getElem?_set]
    by_cases e : i = j
    · subst e
      rw [List.getElem?_eq_getElem hlt] at hi
      have e2 := Option.some.inj hi
      simp [hlt, e2]
    · simp [e]
  have hmem : ∀ q, q ∈ m.set i (keyR r, r) → q = (keyR r, r) ∨ (q ∈ m ∧ q.1 ≠ keyR r) := fun q hq => by
    obtain ⟨j, hj⟩ := List.mem_iff_getElem?.1 hq
    rw [List.getElem?_set] at hj
    by_cases e : i = j
    · subst e
      simp [hlt] at hj
      exact .inl hj.symm
    · rw [if_neg e] at hj
      refine .inr ⟨List.mem_of_getElem? hj, fun e2 => e ?_⟩
      have hjl : j < m.length := (List.getElem?_eq_some_iff.1 hj).1
      have n1 : (m.map Prod.fst)[i]? = some (keyR r) := by simp [hi]
      have n2 : (m.map Prod.fst)[j]? = some (keyR r) := by simp [hj, e2]
      exact (List.getElem?_inj (by simpa using hlt) h.nd).1 (n1.trans n2.symm)
  refine ⟨by rw [hfst]; exact h.nd, fun q hq => ?_, fun t ht hn => ?_⟩
  · rcases hmem q hq with rfl | ⟨hq, hne⟩
    · refine ⟨rfl, List.mem_append_right _ (List.mem_singleton.2 rfl), hr, fun t ht hd hpt => ?_⟩
      rcases List.mem_append.1 ht with ht | ht
      · exact hts.top t ht hd (prev_trans hpt hp)
      · obtain rfl := List.mem_singleton.1 ht
        exact prev_irr _ hpt
    · have h1 := h.top q hq
      exact ⟨h1.1, top_snoc h1.2 fun e => hne (by rw [h1.1]; exact e.2.1.2.2.symm)⟩
  · have hin : (keyR r, r) ∈ m.set i (keyR r, r) := List.mem_set hlt _
    rcases List.mem_append.1 ht with ht | ht
    · obtain ⟨p, hpm, e⟩ := h.all t ht hn
      obtain ⟨j, hj⟩ := List.mem_iff_getElem?.1 hpm
      by_cases e2 : i = j
      · subst e2
        rw [hi] at hj
        cases hj
        exact ⟨_, hin, e⟩
      · refine ⟨p, List.mem_of_getElem? (i := j) ?_, e⟩
        rw [List.getElem?_set, if_neg e2]; exact hj
    · obtain rfl := List.mem_singleton.1 ht
      exact ⟨_, hin, rfl⟩
/-- The number that is a record's key. -/
def numR (r : Rc) : Int := r.get (keyF r.kind)
def asK (L : List Rc) : Prop := L.Pairwise fun a b => numR a < numR b
theorem asK_uniq : ∀ {L M : List Rc}, asK L → asK M → (∀ r, r ∈ L ↔ r ∈ M) → L = M
  | [], [], _, _, _ => rfl
  | [], b :: M, _, _, h => by have := (h b).2 (List.mem_cons_self ..); simp at this
  | a :: L, [], _, _, h => by have := (h a).1 (List.mem_cons_self ..); simp at this
  | a :: L, b :: M, hL, hM, h => by
    have h1 := List.pairwise_cons.1 hL
    have h2 := List.pairwise_cons.1 hM
    have e : a = b := by
      rcases List.mem_cons.1 ((h a).1 (List.mem_cons_self ..)) with e | ha
      · exact e
      · rcases List.mem_cons.1 ((h b).2 (List.mem_cons_self ..)) with e | hb
        · exact e.symm
        · have := h1.1 b hb
          have := h2.1 a ha
          omega
    subst e
    congr 1
    refine asK_uniq h1.2 h2.2 fun r => ?_
    constructor
    · intro hr
      rcases List.mem_cons.1 ((h r).1 (List.mem_cons_of_mem _ hr)) with rfl | hr2
      · have := h1.1 r hr; omega
      · exact hr2
    · intro hr
      rcases List.mem_cons.1 ((h r).2 (List.mem_cons_of_mem _ hr)) with rfl | hr2
      · have := h2.1 r hr; omega
      · exact hr2
/-- What is in effect by what is known on a day, of a kind: ascending. -/
structure IsOf (l : List Rc) (day : Int) (k : Int) (L : List Rc) : Prop where
  asc : asK L
  mem : ∀ r, r ∈ L ↔ (Top l day r ∧ r.gone = false) ∧ r.kind = k
theorem IsOf.uniq {l l' : List Rc} {day day' k : Int} {L M : List Rc} (hL : IsOf l day k L) (hM : IsOf l' day' k M) (h : ∀ r, r.kind = k → r.gone = false → (Top l day r ↔ Top l' day' r)) : L = M :=
  asK_uniq hL.asc hM.asc fun r => by
    rw [hL.mem, hM.mem]
    constructor
    · rintro ⟨⟨h1, h2⟩, h3⟩
      exact ⟨⟨(h r h3 h2).1 h1, h2⟩, h3⟩
    · rintro ⟨⟨h1, h2⟩, h3⟩
      exact ⟨⟨(h r h3 h2).2 h1, h2⟩, h3⟩
/-- Neither order, nor repetitions, nor what becomes known later make a difference. -/
theorem top_same {l l' : List Rc} {day : Int} (h : ∀ r, r.day ≤ day → (r ∈ l ↔ r ∈ l')) (r : Rc) : Top l day r ↔ Top l' day r := by
  constructor
  · intro ht
    exact ⟨(h r ht.now.2).1 ht.mem, ht.now, fun s hs hd => ht.top s ((h s hd).2 hs) hd⟩
  · intro ht
    exact ⟨(h r ht.now.2).2 ht.mem, ht.now, fun s hs hd => ht.top s ((h s hd).1 hs) hd⟩
end Go.Sx
