/-
  The layer with atoms: maps whose keys are numbers.
-/
import Derived.Test.YtlihcenahjgnmaaGreatDoorHx5
import Derived.MapKept
namespace Go.Sx
open Go Go.RowKit
/-- A map of the call's own: what it holds, in the order in which it came. -/
def mpP (q : IntKind) (l : List (Int × Value)) (o : Obj) : Prop := ∃ es clk, o = .map es clk ∧ es.toList.map (fun e => (e.key, e.val)) = l.map fun p => (Value.int q p.1, p.2)
def A.mp (b : Nat) (q : IntKind) (l : List (Int × Value)) : Atom := A.obj b (mpP q l)
def mset : List (Int × Value) → Int → Value → List (Int × Value)
  | [], x, v => [(x, v)]
  | (y, u) :: l, x, v => if x = y then (x, v) :: l else (y, u) :: mset l x v
def mget : List (Int × Value) → Int → Option Value
  | [], _ => none
  | (y, u) :: l, x => if x = y then some u else mget l x
def midx : List (Int × Value) → Int → Option (Nat × Value)
  | [], _ => none
  | (y, u) :: l, x => if x = y then some (0, u) else (midx l x).map fun p => (p.1 + 1, p.2)
theorem findNow_int (q : IntKind) (x : Int) : ∀ (es : List MapEntry) (l : List (Int × Value)) (i : Nat), es.map (fun e => (e.key, e.val)) = l.map (fun p => (Value.int q p.1, p.2)) →
    Instr.findNow (.int q) (.int q x) es i = some ((midx l x).map fun p => (p.1 + i, p.2))
  | [], [], i, _ => rfl
  | [], _ :: _, _, h => by simp at h
  | _ :: _, [], _, h => by simp at h
  | e :: es, (y, u) :: l, i, h => by
    simp only [List.map_cons, List.cons.injEq, Prod.mk.injEq] at h
    obtain ⟨⟨h1, h2⟩, h3⟩ := h
    unfold Instr.findNow
    rw [h1]
    simp only [Instr.sameNow, if_true, midx]
    by_cases hxy : x = y
    · subst hxy
      simp [h2]
    · have : (x == y) = false := by simp [hxy]
      rw [this, if_neg hxy]
      simp only
      rw [findNow_int q x es l (i + 1) h3]
      cases midx l x with
      | none => rfl
      | some p => simp; omega
theorem midx_none {l : List (Int × Value)} {x : Int} (v : Value) (h : midx l x = none) : mset l x v = l ++ [(x, v)] := by
  induction l with
  | nil => rfl
  | cons p l ih =>
    obtain ⟨y, u⟩ := p
    simp only [midx] at h
    by_cases hxy : x = y
    · rw [if_pos hxy] at h; cases h
    · rw [if_neg hxy] at h
      simp only [mset, if_neg hxy, List.cons_append]
      rw [ih (by simpa using h)]
theorem midx_some {l : List (Int × Value)} {x : Int} (v : Value) {i : Nat} {u : Value} (h : midx l x = some (i, u)) : mset l x v = l.set i (x, v) ∧ i < l.length ∧ l[i]? = some (x, u) := by
  induction l generalizing i u with
  | nil => cases h
  | cons p l ih =>
    obtain ⟨y, u'⟩ := p
    simp only [midx] at h
    by_cases hxy : x = y
    · rw [if_pos hxy] at h
      cases h
      simp [mset, hxy]
    · rw [if_neg hxy] at h
      rw [Option.map_eq_some_iff] at h
      obtain ⟨⟨j, u2⟩, h1, h2⟩ := h
      cases h2
      obtain ⟨h3, h4, h5⟩ := ih h1
      simp only [mset, if_neg hxy, h3]
      exact ⟨by simp, by simpa using h4, by simpa using h5⟩
theorem run_checkKey_int {P : Program} {w : World} {k : TypeId} {q : IntKind} (hk : P.underlying k = some (.int q)) (e : Bool) (n : Nat) (x : Int) : (Instr.checkKey e (n + 1) k (.int q x)).run P w = .ok () w := by
  unfold Instr.checkKey
  simp only [Sem.run_bind, run_underlying hk, Result.andThen]
  rfl
theorem run_keyStays {P : Program} {w : World} (q : IntKind) (x : Int) : (Instr.keyThatStays (.int q x) (.int q x)).run P w = .ok (.int q x) w := by
  have : Instr.sameBits 10000 (.int q x) (.int q x) = true := by unfold Instr.sameBits; simp
  unfold Instr.keyThatStays
  rw [this]; rfl
theorem run_getMap {P : Program} {w : World} {b : Nat} {es : Array MapEntry} {clk : Nat} (hb : w.heap[b]? = some (.map es clk)) : (getObj b).run P w = .ok (.map es clk) w := by
  simp [getObj, Sem.run, hb]
theorem run_setMap {P : Program} {w : World} {b : Nat} {es : Array MapEntry} {clk : Nat} (o : Obj) (hb : w.heap[b]? = some (.map es clk)) : (setObj b o).run P w = .ok () (w.putObj b o) := by
  simp [setObj, Sem.run, hb, World.putObj]
theorem run_findKey_int {P : Program} {w : World} {k : TypeId} {q : IntKind} (hk : P.underlying k = some (.int q)) (x : Int) (es : List MapEntry) (l : List (Int × Value)) (hes : es.map (fun e => (e.key, e.val)) = l.map (fun p => (Value.int q p.1, p.2))) :
    (Instr.findKey k (.int q x) es).run P w = .ok (midx l x) w := by
  unfold Instr.findKey
  simp only [Sem.run_bind, run_underlying hk, Result.andThen, findNow_int q x es l 0 hes, Sem.run_pure]
  cases midx l x <;> rfl
theorem run_mapUpdate_int {P : Program} {t k e : TypeId} {q : IntKind} (ht : P.underlying t = some (.map k e)) (hk : P.underlying k = some (.int q)) {w : World} {b : Nat} {l : List (Int × Value)} {o : Obj} (hb : w.heap[b]? = some o) (ho : mpP q l o) (x : Int) (v : Value) :
    ∃ o', (Instr.mapUpdate t (.map (some b)) (.int q x) v).run P w = .ok () (w.putObj b o') ∧ mpP q (mset l x v) o' := by
  obtain ⟨es, clk, rfl, hes⟩ := ho
  have hf := run_findKey_int (P := P) (w := w) hk x es.toList l hes
  have hlen : es.size = l.length := by have := congrArg List.length hes; simpa using this
  cases hm : midx l x with
  | none =>
    refine ⟨.map (es.push { key := .int q x, val := v, born := clk }) (clk + 1), ?_, ?_⟩
    · rw [hm] at hf
      unfold Instr.mapUpdate
      simp only [Sem.run_bind, run_underlying ht, Result.andThen, run_getMap hb, run_checkKey_int hk _ 9999 x, hf, run_setMap _ hb]
    · refine ⟨_, _, rfl, ?_⟩
      rw [midx_none v hm]
      simp [hes]
  | some p =>
    obtain ⟨i, u⟩ := p
    obtain ⟨h1, h2, h3⟩ := midx_some v hm
    have hi : i < es.size := by omega
    have hkey : es[i].key = .int q x := by
      have := congrArg (fun l => l[i]?) hes
      simp [h3, hi] at this
      exact this.1
    refine ⟨.map (es.modify i fun e => { e with key := .int q x, val := v }) clk, ?_, ?_⟩
    · rw [hm] at hf
      have hk2 : ((es[i]?).map (·.key)).getD (.int q x) = .int q x := by simp [hi, hkey]
      unfold Instr.mapUpdate
      simp only [Sem.run_bind, run_underlying ht, Result.andThen, run_getMap hb, run_checkKey_int hk _ 9999 x, hf, hk2, run_keyStays, run_setMap _ hb]
    · refine ⟨_, _, rfl, ?_⟩
      rw [h1]
      apply List.ext_getElem?
      intro j
      have hj := congrArg (fun l => l[j]?) hes
      simp only [List.getElem?_map, Array.getElem?_toList] at hj ⊢
      rw [Array.getElem?_modify, List.getElem?_set]
      by_cases e : i = j
      · subst e
        simp [hi, h2]
      · simp only [if_neg e]
        exact hj
section
variable {P : Program} {r : Option Nat} {N : Nat} {ds : List Deferred} {ol rest : List Oper} {Q : Post} {E : Env} {w0 : World} {H : List Atom} {next : Act → World → Prop} {g : Option (Nat × Bool)}
variable {d : Nat} {t ty : TypeId} {pos : String} {af : Array Edge} {x y z : Operand}
theorem Mm.mp {w : World} {b : Nat} {q : IntKind} {l : List (Int × Value)} (h : Mm w0 H w) (hm : A.mp b q l ∈ H) : ∃ o, w.heap[b]? = some o ∧ mpP q l o := h.obj hm
theorem H1.mkmap (q : IntKind) (hd : Nat.blt d N = true) (h : ∀ b, HN N ds next ((d, .map (some b)) :: E) w0 (A.mp b q [] :: H)) : H1 P r N ds next ⟨some d, .makeMap t none, ty, pos, af, g⟩ Q E w0 H := fun w hM =>
  W1.run (v := .map (some w.heap.size)) (w' := w.alloc (.map #[] 0)) (fun _ _ => rfl) rfl hd (h _ _ (by
    refine (hM.more (Ext.alloc w _)).cons ⟨_, World.alloc_heap_new w _, _, _, rfl, rfl⟩ (by simp [A.mp, A.obj]) fun b hb => ?_
    have hb' : b = w.heap.size := by simpa [A.mp, A.obj] using hb
    subst hb'
    refine ⟨fun hm => ?_, hM.ext.size, by simp⟩
    have := (hM.rng _ hm).2
    omega))
theorem H1.mapset {b : Nat} {k e : TypeId} {q : IntKind} {l : List (Int × Value)} {n : Int} {v : Value} {H' : List Atom} [ht : UTy P t (.map k e)] [hk : UTy P k (.int q)] (hx : Env.ev E x = some (.map (some b))) (hy : Env.ev E y = some (.int q n)) (hz : Env.ev E z = some v)
    (hr : Rpl (A.mp b q l) (A.mp b q (mset l n v)) H H') (h : HN N ds next E w0 H') : H1 P r N ds next ⟨none, .mapUpdate t x y z, ty, pos, af, g⟩ Q E w0 H := fun w hM => by
  obtain ⟨o, hb, ho⟩ := hM.mp hr.mem
  obtain ⟨o', hrun, ho'⟩ := run_mapUpdate_int (P := P) ht.is hk.is hb ho n v
  have hlt := (Array.getElem?_eq_some_iff.1 hb).1
  refine W1.skip (w' := w.putObj b o') (fun a ha => ?_) rfl rfl (h _ (hM.turn hr rfl rfl rfl (by simp) (fun k _ hk' => ?_) ⟨o', World.putObj_heap_same hlt, ho'⟩ (by simp [A.mp, A.obj]) fun b' hb' => .inl hb'))
  · simp only [execOp, ha.ev hx, ha.ev hy, ha.ev hz, Sem.run_bind, hrun, Result.andThen, Sem.run_pure]
  · exact World.putObj_heap_other (by simpa [A.mp, A.obj] using hk')
theorem H1.maplen {b : Nat} {k e : TypeId} {q : IntKind} {l : List (Int × Value)} [ht : UTy P t (.map k e)] (hx : Env.ev E x = some (.map (some b))) (hm : A.mp b q l ∈ H) (hd : Nat.blt d N = true)
    (h : HN N ds next ((d, .int .i64 (l.length : Int)) :: E) w0 H) : H1 P r N ds next ⟨some d, .call ⟨.builtin .len, #[x], #[t]⟩, ty, pos, af, g⟩ Q E w0 H := fun w hM => by
  obtain ⟨o, hb, es, clk, rfl, hes⟩ := hM.mp hm
  have hlen : es.size = l.length := by have := congrArg List.length hes; simpa using this
  refine W1.run (v := .int .i64 (l.length : Int)) (w' := w) (fun a ha => ?_) rfl hd (h w hM)
  simp [execOp, ha.ev hx, resolve, invoke, Go.builtin, Builtin.len_, run_underlying ht.is, run_getMap hb, goInt, Sem.run_bind, Result.andThen, hlen]
end
end Go.Sx

