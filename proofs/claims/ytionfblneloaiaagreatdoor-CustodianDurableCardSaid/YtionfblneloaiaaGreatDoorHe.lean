/-
  The layer with atoms: numbers without sign of 64 bits; maps with numbers as keys that are looked up, filled and ranged over.
-/
import Derived.Test.YtionfblneloaiaaGreatDoorHd
import Derived.Test.YtionfblneloaiaaGreatDoorHx6
import Derived.Maps.RangeRun
namespace Go.Sx
open Go Go.RowKit
theorem wrap_u64 {n : Nat} (h : n < 18446744073709551616) : IntKind.u64.wrap (n : Int) = (n : Int) := by
  simp [IntKind.wrap, IntKind.bits, IntKind.signed]; omega
section
variable {P : Program} {r : Option Nat} {N : Nat} {ds : List Deferred} {E : Env} {t t' ty : TypeId} {x y : Operand} {k' : IntKind} {m n : Int} {a b : Nat}
theorem POp.and64 (hx : Env.ev E x = some (.int .u64 m)) (hy : Env.ev E y = some (.int .u64 n)) (em : m = (a : Int)) (en : n = (b : Int)) (h1 : a < 18446744073709551616) (h2 : b < 18446744073709551616) :
    POp P N ds E (.binOp .and t x y t') ty (.int .u64 ((a &&& b : Nat) : Int)) := POp.bin hx hy guard_int fun w => by
  subst em; subst en
  have e : bits .and .u64 (a : Int) (b : Int) = ((a &&& b : Nat) : Int) := by
    show IntKind.u64.wrap (((BitVec.ofInt 64 a &&& BitVec.ofInt 64 b).toNat : Nat) : Int) = _
    rw [BitVec.toNat_and, ofInt_toNat a h1, ofInt_toNat b h2]
    exact wrap_u64 (Nat.lt_of_le_of_lt Nat.and_le_left h1)
  rw [binOp_and, intBits_and, e]; rfl
theorem POp.or64 (hx : Env.ev E x = some (.int .u64 m)) (hy : Env.ev E y = some (.int .u64 n)) (em : m = (a : Int)) (en : n = (b : Int)) (h1 : a < 18446744073709551616) (h2 : b < 18446744073709551616) :
    POp P N ds E (.binOp .or t x y t') ty (.int .u64 ((a ||| b : Nat) : Int)) := POp.bin hx hy guard_int fun w => by
  subst em; subst en
  have e : bits .or .u64 (a : Int) (b : Int) = ((a ||| b : Nat) : Int) := by
    show IntKind.u64.wrap (((BitVec.ofInt 64 a ||| BitVec.ofInt 64 b).toNat : Nat) : Int) = _
    rw [BitVec.toNat_or, ofInt_toNat a h1, ofInt_toNat b h2]
    exact wrap_u64 (Nat.or_lt_two_pow (n := 64) h1 h2)
  rw [binOp_or, intBits_or, e]; rfl
theorem cut_toNat (a b : BitVec 64) : (a &&& ~~~b).toNat = a.toNat.bitwise (fun a b => a && !b) b.toNat := Nat.eq_of_testBit_eq fun j => by
  rw [Nat.testBit_bitwise rfl, BitVec.toNat_and, Nat.testBit_and]
  by_cases hj : j < 64
  · have : (~~~b).toNat.testBit j = !b.toNat.testBit j := by
      have := BitVec.getLsbD_not (x := b) (i := j)
      simp only [BitVec.getLsbD, hj, decide_true, Bool.true_and] at this
      exact this
    rw [this]
  · have : a.toNat.testBit j = false := Nat.testBit_lt_two_pow (Nat.lt_of_lt_of_le a.isLt (Nat.pow_le_pow_right (by decide) (by omega)))
    rw [this]; rfl
theorem POp.cut64 (hx : Env.ev E x = some (.int .u64 m)) (hy : Env.ev E y = some (.int .u64 n)) (em : m = (a : Int)) (en : n = (b : Int)) (h1 : a < 18446744073709551616) (h2 : b < 18446744073709551616) :
    POp P N ds E (.binOp .andNot t x y t') ty (.int .u64 ((a.bitwise (fun a b => a && !b) b : Nat) : Int)) := POp.bin hx hy guard_int fun w => by
  subst em; subst en
  have e : bits .andNot .u64 (a : Int) (b : Int) = ((a.bitwise (fun a b => a && !b) b : Nat) : Int) := by
    show IntKind.u64.wrap (((BitVec.ofInt 64 a &&& ~~~ BitVec.ofInt 64 b).toNat : Nat) : Int) = _
    have h3 := (BitVec.ofInt 64 a &&& ~~~ BitVec.ofInt 64 b).isLt
    rw [cut_toNat, ofInt_toNat a h1, ofInt_toNat b h2] at h3 ⊢
    exact wrap_u64 h3
  rw [binOp_andNot, intBits_andNot, e]; rfl
theorem POp.shr64 (hx : Env.ev E x = some (.int .u64 m)) (hy : Env.ev E y = some (.int k' n)) (em : m = (a : Int)) (en : n = (b : Int)) (h1 : b < 64) :
    POp P N ds E (.binOp .shr t x y t') ty (.int .u64 ((a >>> b : Nat) : Int)) := POp.bin hx hy guard_int fun w => by
  subst em; subst en
  rw [binOp_shr, shift_shr .u64 k' a b (by omega) (by simp [IntKind.bits]; omega), Nat.shiftRight_eq_div_pow]
  simp
theorem POp.shl64 (hx : Env.ev E x = some (.int .u64 m)) (hy : Env.ev E y = some (.int k' n)) (em : m = (a : Int)) (en : n = (b : Int)) (h1 : b < 64) (h2 : a <<< b < 18446744073709551616) :
    POp P N ds E (.binOp .shl t x y t') ty (.int .u64 ((a <<< b : Nat) : Int)) := POp.bin hx hy guard_int fun w => by
  subst em; subst en
  have e : ((a : Int) * 2 ^ ((b : Int).toNat)) = ((a <<< b : Nat) : Int) := by rw [Nat.shiftLeft_eq]; simp
  rw [binOp_shl, shift_shl .u64 k' a b (by omega) (by simp [IntKind.bits]; omega), e, wrap_u64 h2]; rfl
theorem POp.sub64 (hx : Env.ev E x = some (.int .u64 m)) (hy : Env.ev E y = some (.int .u64 n)) (em : m = (a : Int)) (en : n = (b : Int)) (h1 : b ≤ a) (h2 : a < 18446744073709551616) :
    POp P N ds E (.binOp .sub t x y t') ty (.int .u64 ((a - b : Nat) : Int)) := (POp.sub' hx hy).of (by
  subst em; subst en
  rw [show (a : Int) - (b : Int) = ((a - b : Nat) : Int) by omega, wrap_u64 (by omega)])
end
theorem midx_get (l : List (Int × Value)) (x : Int) : (midx l x).map (·.2) = mget l x := by
  induction l with
  | nil => rfl
  | cons p l ih =>
    obtain ⟨y, u⟩ := p
    simp only [midx, mget]
    split
    · rfl
    · rw [← ih]; cases midx l x <;> rfl
/-- A map that may be ranged over: what it holds, in the order in which it came; no stamp twice. -/
structure MQ (q : IntKind) (l : List (Int × Value)) (es : Array MapEntry) (clk : Nat) : Prop where
  ents : es.toList.map (fun e => (e.key, e.val)) = l.map fun p => (Value.int q p.1, p.2)
  born : ∀ e ∈ es.toList, e.born < clk
  nd : (es.toList.map (·.born)).Nodup
theorem MQ.nil (q : IntKind) : MQ q [] #[] 0 := ⟨rfl, by simp, by simp⟩
theorem MQ.ent {q : IntKind} {l : List (Int × Value)} {es : Array MapEntry} {clk : Nat} (h : MQ q l es clk) {e : MapEntry} (he : e ∈ es.toList) : ∃ p ∈ l, e.key = .int q p.1 ∧ e.val = p.2 := by
  have h1 : (e.key, e.val) ∈ es.toList.map (fun e => (e.key, e.val)) := List.mem_map.2 ⟨e, he, rfl⟩
  rw [h.ents] at h1
  obtain ⟨p, hp, e1⟩ := List.mem_map.1 h1
  simp only [Prod.mk.injEq] at e1
  exact ⟨p, hp, e1.1.symm, e1.2.symm⟩
theorem MQ.of {q : IntKind} {l : List (Int × Value)} {es : Array MapEntry} {clk : Nat} (h : MQ q l es clk) {p : Int × Value} (hp : p ∈ l) : ∃ e ∈ es.toList, e.key = .int q p.1 ∧ e.val = p.2 := by
  have h1 : (Value.int q p.1, p.2) ∈ l.map fun p => (Value.int q p.1, p.2) := List.mem_map.2 ⟨p, hp, rfl⟩
  rw [← h.ents] at h1
  obtain ⟨e, he, e1⟩ := List.mem_map.1 h1
  simp only [Prod.mk.injEq] at e1
  exact ⟨e, he, e1.1, e1.2⟩
def mqP (q : IntKind) (l : List (Int × Value)) (o : Obj) : Prop := ∃ es clk, o = .map es clk ∧ MQ q l es clk
def A.mq (b : Nat) (q : IntKind) (l : List (Int × Value)) : Atom := A.obj b (mqP q l)
/-- An iterator over map b: the stamps of what has come. -/
def A.mit (r b clk : Nat) (seen : Array Nat) : Atom := A.obj r fun o => o = .mapIter (some b) clk seen clk
section
variable {P : Program} {w : World} {t k e : TypeId} {q : IntKind} {b : Nat} {l : List (Int × Value)} {o : Obj} {z : Value} {sz bb : Nat}
theorem run_lookup_mq (ht : P.underlying t = some (.map k e)) (hk : P.underlying k = some (.int q)) [hi : ITy P e z sz bb] (hb : w.heap[b]? = some o) (ho : mqP q l o) (x : Int) :
    (Instr.lookup t (.map (some b)) (.int q x) false).run P w = .ok ((mget l x).getD z) w := by
  obtain ⟨es, clk, rfl, h⟩ := ho
  have hf := run_findKey_int (P := P) (w := w) hk x es.toList l h.ents
  unfold Instr.lookup
  simp only [Sem.run_bind, run_underlying ht, Result.andThen, run_getMap hb, Sem.run_pure, run_checkKey_int hk _ 9999 x, hf]
  rw [← midx_get]
  cases midx l x with
  | none => simp [run_zeroValue (h := hi)]
  | some p => simp
theorem run_mapUpdate_mq (ht : P.underlying t = some (.map k e)) (hk : P.underlying k = some (.int q)) (hb : w.heap[b]? = some o) (ho : mqP q l o) (x : Int) (v : Value) :
    ∃ o', (Instr.mapUpdate t (.map (some b)) (.int q x) v).run P w = .ok () (w.putObj b o') ∧ mqP q (mset l x v) o' := by
  obtain ⟨es, clk, rfl, h⟩ := ho
  have hes := h.ents
  have hf := run_findKey_int (P := P) (w := w) hk x es.toList l hes
  have hlen : es.size = l.length := by have := congrArg List.length hes; simpa using this
  cases hm : midx l x with
  | none =>
    refine ⟨.map (es.push { key := .int q x, val := v, born := clk }) (clk + 1), ?_, ?_⟩
    · rw [hm] at hf
      unfold Instr.mapUpdate
      simp only [Sem.run_bind, run_underlying ht, Result.andThen, run_getMap hb, run_checkKey_int hk _ 9999 x, hf, run_setMap _ hb]
    · refine ⟨_, _, rfl, ?_, ?_, ?_⟩
      · rw [midx_none v hm]
        simp [hes]
      · intro y hy
        rw [Array.toList_push] at hy
        rcases List.mem_append.1 hy with hy | hy
        · exact Nat.lt_succ_of_lt (h.born y hy)
        · rw [List.mem_singleton] at hy; subst hy; exact Nat.lt_succ_self _
      · rw [Array.toList_push, List.map_append]
        refine List.nodup_append.2 ⟨h.nd, by simp, fun a ha c hc e => ?_⟩
        obtain ⟨y, hy, rfl⟩ := List.mem_map.1 ha
        simp only [List.map_cons, List.map_nil, List.mem_singleton] at hc
        have := h.born y hy
        omega
  | some p =>
    obtain ⟨i, u⟩ := p
    obtain ⟨h1, h2, h3⟩ := midx_some v hm
    have hi : i < es.size := by omega
    have hkey : es[i].key = .int q x := by
      have := congrArg (fun l => l[i]?) hes
      simp [h3, hi] at this
      exact this.1
    have hb2 : (es.modify i fun e => { e with key := .int q x, val := v }).toList.map (·.born) = es.toList.map (·.born) := by
      apply List.ext_getElem?
      intro j
      simp only [List.getElem?_map, Array.getElem?_toList]
      rw [Array.getElem?_modify]
      by_cases e : i = j
      · subst e; simp [hi]
      · simp [e]
    refine ⟨.map (es.modify i fun e => { e with key := .int q x, val := v }) clk, ?_, ?_⟩
    · rw [hm] at hf
      have hk2 : ((es[i]?).map (·.key)).getD (.int q x) = .int q x := by simp [hi, hkey]
      unfold Instr.mapUpdate
      simp only [Sem.run_bind, run_underlying ht, Result.andThen, run_getMap hb, run_checkKey_int hk _ 9999 x, hf, hk2, run_keyStays, run_setMap _ hb]
    · refine ⟨_, _, rfl, ?_, ?_, ?_⟩
      · rw [h1]
        apply List.ext_getElem?
        intro j
        have hj := congrArg (fun l => l[j]?) hes
        simp only [List.getElem?_map, Array.getElem?_toList] at hj ⊢
        rw [Array.getElem?_modify, List.getElem?_set]
        by_cases e : i = j
        · subst e
          simp [hi, h2]
        · simp only [if_neg e]
          exact hj
      · intro y hy
        have h4 : y.born ∈ (es.modify i fun e => { e with key := .int q x, val := v }).toList.map (·.born) := List.mem_map.2 ⟨y, hy, rfl⟩
        rw [hb2] at h4
        obtain ⟨y0, h5, h6⟩ := List.mem_map.1 h4
        rw [← h6]; exact h.born y0 h5
      · rw [hb2]; exact h.nd
end
section
variable {P : Program} {r : Option Nat} {N : Nat} {ds : List Deferred} {ol rest : List Oper} {Q : Post} {E : Env} {w0 : World} {H : List Atom} {next : Act → World → Prop} {g : Option (Nat × Bool)}
variable {d : Nat} {t ty : TypeId} {pos : String} {af : Array Edge} {x y z : Operand}
theorem H1.mkmq (q : IntKind) (hd : Nat.blt d N = true) (h : ∀ b, HN N ds next ((d, .map (some b)) :: E) w0 (A.mq b q [] :: H)) : H1 P r N ds next ⟨some d, .makeMap t none, ty, pos, af, g⟩ Q E w0 H := fun w hM =>
  W1.run (v := .map (some w.heap.size)) (w' := w.alloc (.map #[] 0)) (fun _ _ => rfl) rfl hd (h _ _ (by
    refine (hM.more (Ext.alloc w _)).cons ⟨_, World.alloc_heap_new w _, _, _, rfl, MQ.nil q⟩ (by simp [A.mq, A.obj]) fun b hb => ?_
    have hb' : b = w.heap.size := by simpa [A.mq, A.obj] using hb
    subst hb'
    refine ⟨fun hm => ?_, hM.ext.size, by simp⟩
    have := (hM.rng _ hm).2
    omega))
theorem H1.mqget {b : Nat} {k e : TypeId} {q : IntKind} {l : List (Int × Value)} {n : Int} {zv : Value} {sz bb : Nat} [ht : UTy P t (.map k e)] [hk : UTy P k (.int q)] [hi : ITy P e zv sz bb] (hx : Env.ev E x = some (.map (some b))) (hy : Env.ev E y = some (.int q n))
    (hm : A.mq b q l ∈ H) (hd : Nat.blt d N = true) (h : HN N ds next ((d, (mget l n).getD zv) :: E) w0 H) : H1 P r N ds next ⟨some d, .lookup t x y false, ty, pos, af, g⟩ Q E w0 H := fun w hM => by
  obtain ⟨o, h1, h2⟩ : ∃ o, w.heap[b]? = some o ∧ mqP q l o := hM.all _ hm
  refine W1.run (v := (mget l n).getD zv) (w' := w) (fun a ha' => ?_) rfl hd (h w hM)
  simp only [execOp, ha'.ev hx, ha'.ev hy, Sem.run_bind, run_lookup_mq ht.is hk.is h1 h2 n, Result.andThen, Sem.run_pure]
theorem H1.mqset {b : Nat} {k e : TypeId} {q : IntKind} {l : List (Int × Value)} {n : Int} {v : Value} {H' : List Atom} [ht : UTy P t (.map k e)] [hk : UTy P k (.int q)] (hx : Env.ev E x = some (.map (some b))) (hy : Env.ev E y = some (.int q n)) (hz : Env.ev E z = some v)
    (hr : Rpl (A.mq b q l) (A.mq b q (mset l n v)) H H') (h : HN N ds next E w0 H') : H1 P r N ds next ⟨none, .mapUpdate t x y z, ty, pos, af, g⟩ Q E w0 H := fun w hM => by
  obtain ⟨o, hb, ho⟩ : ∃ o, w.heap[b]? = some o ∧ mqP q l o := hM.all _ hr.mem
  obtain ⟨o', hrun, ho'⟩ := run_mapUpdate_mq (P := P) ht.is hk.is hb ho n v
  have hlt := (Array.getElem?_eq_some_iff.1 hb).1
  refine W1.skip (w' := w.putObj b o') (fun a ha => ?_) rfl rfl (h _ (hM.turn hr rfl rfl rfl (by simp) (fun k _ hk' => ?_) ⟨o', World.putObj_heap_same hlt, ho'⟩ (by simp [A.mq, A.obj]) fun b' hb' => .inl hb'))
  · simp only [execOp, ha.ev hx, ha.ev hy, ha.ev hz, Sem.run_bind, hrun, Result.andThen, Sem.run_pure]
  · exact World.putObj_heap_other (by simpa [A.mq, A.obj] using hk')
theorem H1.mqrange {b clk : Nat} {k e : TypeId} {es : Array MapEntry} [ht : UTy P t (.map k e)] (hx : Env.ev E x = some (.map (some b))) (hb : ∀ w, Mm w0 H w → w.heap[b]? = some (.map es clk)) (hd : Nat.blt d N = true)
    (h : ∀ i, HN N ds next ((d, .pointer (some ⟨i, 0, none⟩)) :: E) w0 (A.mit i b clk #[] :: H)) : H1 P r N ds next ⟨some d, .range t x, ty, pos, af, g⟩ Q E w0 H := fun w hM => by
  refine W1.run (v := .pointer (some ⟨w.heap.size, 0, none⟩)) (w' := w.alloc (.mapIter (some b) clk #[] clk)) (fun a ha => ?_) rfl hd (h _ _ ?_)
  · simp only [execOp, ha.ev hx, Instr.range, Sem.run_bind, run_underlying ht.is, run_getMap (hb w hM), Result.andThen, Sem.run_pure, run_newObj_alloc]
  · refine (hM.more (Ext.alloc w _)).cons ⟨_, World.alloc_heap_new w _, rfl⟩ (by simp [A.mit, A.obj]) fun b' hb' => ?_
    have hb2 : b' = w.heap.size := by simpa [A.mit, A.obj] using hb'
    subst hb2
    refine ⟨fun hm => ?_, hM.ext.size, by simp⟩
    have := (hM.rng _ hm).2
    omega
theorem H1.mqnext {i b clk : Nat} {es : Array MapEntry} {seen : Array Nat} {H' : Array Nat → List Atom} (hx : Env.ev E x = some (.pointer (some ⟨i, 0, none⟩))) (hb : ∀ w, Mm w0 H w → w.heap[b]? = some (.map es clk)) (hborn : ∀ e ∈ es.toList, e.born < clk)
    (hr : ∀ s, Rpl (A.mit i b clk seen) (A.mit i b clk s) H (H' s)) (hd : Nat.blt d N = true)
    (h0 : (∀ e ∈ es.toList, e.born ∈ seen) → HN N ds next ((d, .tuple #[.bool false]) :: E) w0 H)
    (h1 : ∀ e ∈ es.toList, e.born ∉ seen → HN N ds next ((d, .tuple #[.bool true, e.key, e.val]) :: E) w0 (H' (seen.push e.born))) : H1 P r N ds next ⟨some d, .next x false, ty, pos, af, g⟩ Q E w0 H := fun w hM => by
  have hr0 : w.heap[i]? = some (.mapIter (some b) clk seen clk) := by
    obtain ⟨o, h1, rfl⟩ : ∃ o, w.heap[i]? = some o ∧ o = .mapIter (some b) clk seen clk := hM.all _ (hr #[]).mem
    exact h1
  have hlt := (Array.getElem?_eq_some_iff.1 hr0).1
  rcases run_next_at (P := P) w ty i b clk clk seen es clk hr0 (hb w hM) hborn (Nat.le_refl _) with ⟨hz, hrun⟩ | ⟨e, he, w1, hw1, hrun⟩
  · refine W1.run (v := .tuple #[.bool false]) (w' := w) (fun a ha => ?_) rfl hd (h0 (fun e he => ?_) w hM)
    · simp only [execOp, ha.ev hx, Sem.run_bind, hrun, Result.andThen, Sem.run_pure]
    · refine Classical.byContradiction fun hn => ?_
      have : leftOf es seen = #[] := Array.eq_empty_of_size_eq_zero hz
      unfold leftOf at this
      rw [Array.filter_eq_empty_iff] at this
      exact this e (by simpa using he) (by simp [hn])
  · have he2 : e ∈ es.toList ∧ e.born ∉ seen := by
      unfold leftOf at he
      simp at he
      exact ⟨by simpa using he.1, he.2⟩
    have hM1 : Mm w0 H w1 := by
      rcases hw1 with rfl | rfl
      · exact hM
      · exact hM.more (Ext.drew w)
    refine W1.run (v := .tuple #[.bool true, e.key, e.val]) (w' := ChangeMaps.setBlock w1 i (.mapIter (some b) clk (seen.push e.born) clk)) (fun a ha => ?_) rfl hd (h1 e he2.1 he2.2 _ ?_)
    · simp only [execOp, ha.ev hx, Sem.run_bind, hrun, Result.andThen, Sem.run_pure]
    · have hlt1 : i < w1.heap.size := by rcases hw1 with rfl | rfl <;> exact hlt
      refine hM1.turn (hr _) rfl rfl rfl (by simp [ChangeMaps.setBlock]) (fun k _ hk => ?_) ⟨_, by simp [ChangeMaps.setBlock, hlt1], rfl⟩ (by simp [A.mit, A.obj]) fun b' hb' => .inl hb'
      have hne : i ≠ k := fun e => hk (by simp [A.mit, A.obj, e])
      simp [ChangeMaps.setBlock, hne]
theorem H1.mqentry {i b clk : Nat} {es : Array MapEntry} {seen : Array Nat} {e : MapEntry} (hx : Env.ev E x = some (.pointer (some ⟨i, 0, none⟩))) (hb : ∀ w, Mm w0 H w → w.heap[b]? = some (.map es clk)) (he : e ∈ es.toList) (hn : (es.toList.map (·.born)).Nodup)
    (hm : A.mit i b clk (seen.push e.born) ∈ H) (hd : Nat.blt d N = true) (h : HN N ds next ((d, .tuple #[e.key, e.val]) :: E) w0 H) : H1 P r N ds next ⟨some d, .entry x, ty, pos, af, g⟩ Q E w0 H := fun w hM => by
  have hr0 : w.heap[i]? = some (.mapIter (some b) clk (seen.push e.born) clk) := by
    obtain ⟨o, h1, rfl⟩ : ∃ o, w.heap[i]? = some o ∧ o = .mapIter (some b) clk (seen.push e.born) clk := hM.all _ hm
    exact h1
  refine W1.run (v := .tuple #[e.key, e.val]) (w' := w) (fun a ha => ?_) rfl hd (h w hM)
  simp only [execOp, ha.ev hx, Sem.run_bind, run_entry_at w i b clk seen es clk e hr0 (hb w hM) he hn, Result.andThen, Sem.run_pure]
end
/-- How many entries are still to come. -/
def mleft (es : Array MapEntry) (seen : Array Nat) : Nat := (es.toList.filter fun e => decide (e.born ∉ seen)).length
theorem mleft_lt {es : Array MapEntry} {seen : Array Nat} {e : MapEntry} (he : e ∈ es.toList) (hn : e.born ∉ seen) : mleft es (seen.push e.born) < mleft es seen := by
  unfold mleft
  have h1 : (es.toList.filter fun x => decide (x.born ∉ seen.push e.born)) = (es.toList.filter fun x => decide (x.born ∉ seen)).filter fun x => decide (x.born ≠ e.born) := by
    rw [List.filter_filter]
    refine List.filter_congr fun x _ => ?_
    rw [Bool.eq_iff_iff, Bool.and_eq_true, decide_eq_true_eq, decide_eq_true_eq, decide_eq_true_eq, Array.mem_push, not_or]
    exact And.comm
  rw [h1]
  exact List.length_filter_lt_length_iff_exists.2 ⟨e, List.mem_filter.2 ⟨he, decide_eq_true hn⟩, by simp⟩
end Go.Sx

