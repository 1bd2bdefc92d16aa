/-
  The layer with atoms: maps whose keys are strings.
-/
import Derived.Test.YtionfblneloaiaaGreatDoorHe
namespace Go.Sx
open Go Go.RowKit
theorem ba_beq (a b : ByteArray) : (a == b) = decide (a = b) := by
  rw [Bool.eq_iff_iff, Go.MapKept.bytes_beq, decide_eq_true_eq]
def msetS : List (ByteArray × Value) → ByteArray → Value → List (ByteArray × Value)
  | [], x, v => [(x, v)]
  | (y, u) :: l, x, v => if x = y then (x, v) :: l else (y, u) :: msetS l x v
def mgetS : List (ByteArray × Value) → ByteArray → Option Value
  | [], _ => none
  | (y, u) :: l, x => if x = y then some u else mgetS l x
def midxS : List (ByteArray × Value) → ByteArray → Option (Nat × Value)
  | [], _ => none
  | (y, u) :: l, x => if x = y then some (0, u) else (midxS l x).map fun p => (p.1 + 1, p.2)
theorem findNow_str (x : ByteArray) : ∀ (es : List MapEntry) (l : List (ByteArray × Value)) (i : Nat), es.map (fun e => (e.key, e.val)) = l.map (fun p => (Value.string p.1, p.2)) →
    Instr.findNow (.string) (.string x) es i = some ((midxS l x).map fun p => (p.1 + i, p.2))
  | [], [], i, _ => rfl
  | [], _ :: _, _, h => by simp at h
  | _ :: _, [], _, h => by simp at h
  | e :: es, (y, u) :: l, i, h => by
    simp only [List.map_cons, List.cons.injEq, Prod.mk.injEq] at h
    obtain ⟨⟨h1, h2⟩, h3⟩ := h
    unfold Instr.findNow
    rw [h1]
    simp only [Instr.sameNow, midxS]
    rw [ba_beq]
    by_cases hxy : x = y
    · subst hxy
      simp [h2]
    · rw [decide_eq_false hxy, if_neg hxy]
      simp only
      rw [findNow_str x es l (i + 1) h3]
      cases midxS l x with
      | none => rfl
      | some p => simp; omega
theorem midxS_none {l : List (ByteArray × Value)} {x : ByteArray} (v : Value) (h : midxS l x = none) : msetS l x v = l ++ [(x, v)] := by
  induction l with
  | nil => rfl
  | cons p l ih =>
    obtain ⟨y, u⟩ := p
    simp only [midxS] at h
    by_cases hxy : x = y
    · rw [if_pos hxy] at h; cases h
    · rw [if_neg hxy] at h
      simp only [msetS, if_neg hxy, List.cons_append]
      rw [ih (by simpa using h)]
theorem midxS_some {l : List (ByteArray × Value)} {x : ByteArray} (v : Value) {i : Nat} {u : Value} (h : midxS l x = some (i, u)) : msetS l x v = l.set i (x, v) ∧ i < l.length ∧ l[i]? = some (x, u) := by
  induction l generalizing i u with
  | nil => cases h
  | cons p l ih =>
    obtain ⟨y, u'⟩ := p
    simp only [midxS] at h
    by_cases hxy : x = y
    · rw [if_pos hxy] at h
      cases h
      simp [msetS, hxy]
    · rw [if_neg hxy] at h
      rw [Option.map_eq_some_iff] at h
      obtain ⟨⟨j, u2⟩, h1, h2⟩ := h
      cases h2
      obtain ⟨h3, h4, h5⟩ := ih h1
      simp only [msetS, if_neg hxy, h3]
      exact ⟨by simp, by simpa using h4, by simpa using h5⟩
theorem run_checkKey_str {P : Program} {w : World} {k : TypeId} (hk : P.underlying k = some (.string)) (e : Bool) (n : Nat) (x : ByteArray) : (Instr.checkKey e (n + 1) k (.string x)).run P w = .ok () w := by
  unfold Instr.checkKey
  simp only [Sem.run_bind, run_underlying hk, Result.andThen]
  rfl
theorem run_keyStaysS {P : Program} {w : World} (x : ByteArray) : (Instr.keyThatStays (.string x) (.string x)).run P w = .ok (.string x) w := by
  have : Instr.sameBits 10000 (.string x) (.string x) = true := by unfold Instr.sameBits; rw [ba_beq, decide_eq_true rfl]
  unfold Instr.keyThatStays
  rw [this]; rfl
theorem run_findKey_str {P : Program} {w : World} {k : TypeId} (hk : P.underlying k = some (.string)) (x : ByteArray) (es : List MapEntry) (l : List (ByteArray × Value)) (hes : es.map (fun e => (e.key, e.val)) = l.map (fun p => (Value.string p.1, p.2))) :
    (Instr.findKey k (.string x) es).run P w = .ok (midxS l x) w := by
  unfold Instr.findKey
  simp only [Sem.run_bind, run_underlying hk, Result.andThen, findNow_str x es l 0 hes, Sem.run_pure]
  cases midxS l x <;> rfl
theorem midxS_get (l : List (ByteArray × Value)) (x : ByteArray) : (midxS l x).map (·.2) = mgetS l x := by
  induction l with
  | nil => rfl
  | cons p l ih =>
    obtain ⟨y, u⟩ := p
    simp only [midxS, mgetS]
    split
    · rfl
    · rw [← ih]; cases midxS l x <;> rfl
/-- A map that may be ranged over: what it holds, in the order in which it came; no stamp twice. -/
structure MS (l : List (ByteArray × Value)) (es : Array MapEntry) (clk : Nat) : Prop where
  ents : es.toList.map (fun e => (e.key, e.val)) = l.map fun p => (Value.string p.1, p.2)
  born : ∀ e ∈ es.toList, e.born < clk
  nd : (es.toList.map (·.born)).Nodup
theorem MS.nil : MS [] #[] 0 := ⟨rfl, by simp, by simp⟩
theorem MS.ent {l : List (ByteArray × Value)} {es : Array MapEntry} {clk : Nat} (h : MS l es clk) {e : MapEntry} (he : e ∈ es.toList) : ∃ p ∈ l, e.key = .string p.1 ∧ e.val = p.2 := by
  have h1 : (e.key, e.val) ∈ es.toList.map (fun e => (e.key, e.val)) := List.mem_map.2 ⟨e, he, rfl⟩
  rw [h.ents] at h1
  obtain ⟨p, hp, e1⟩ := List.mem_map.1 h1
  simp only [Prod.mk.injEq] at e1
  exact ⟨p, hp, e1.1.symm, e1.2.symm⟩
theorem MS.of {l : List (ByteArray × Value)} {es : Array MapEntry} {clk : Nat} (h : MS l es clk) {p : ByteArray × Value} (hp : p ∈ l) : ∃ e ∈ es.toList, e.key = .string p.1 ∧ e.val = p.2 := by
  have h1 : (Value.string p.1, p.2) ∈ l.map fun p => (Value.string p.1, p.2) := List.mem_map.2 ⟨p, hp, rfl⟩
  rw [← h.ents] at h1
  obtain ⟨e, he, e1⟩ := List.mem_map.1 h1
  simp only [Prod.mk.injEq] at e1
  exact ⟨e, he, e1.1, e1.2⟩
def msP (l : List (ByteArray × Value)) (o : Obj) : Prop := ∃ es clk, o = .map es clk ∧ MS l es clk
def A.ms (b : Nat) (l : List (ByteArray × Value)) : Atom := A.obj b (msP l)
section
variable {P : Program} {w : World} {t k e : TypeId} {b : Nat} {l : List (ByteArray × Value)} {o : Obj} {z : Value} {sz bb : Nat}
theorem run_lookup_ms (ht : P.underlying t = some (.map k e)) (hk : P.underlying k = some (.string)) [hi : ITy P e z sz bb] (hb : w.heap[b]? = some o) (ho : msP l o) (x : ByteArray) :
    (Instr.lookup t (.map (some b)) (.string x) false).run P w = .ok ((mgetS l x).getD z) w := by
  obtain ⟨es, clk, rfl, h⟩ := ho
  have hf := run_findKey_str (P := P) (w := w) hk x es.toList l h.ents
  unfold Instr.lookup
  simp only [Sem.run_bind, run_underlying ht, Result.andThen, run_getMap hb, Sem.run_pure, run_checkKey_str hk _ 9999 x, hf]
  rw [← midxS_get]
  cases midxS l x with
  | none => simp [run_zeroValue (h := hi)]
  | some p => simp
theorem run_lookup_ms2 (ht : P.underlying t = some (.map k e)) (hk : P.underlying k = some (.string)) [hi : ITy P e z sz bb] (hb : w.heap[b]? = some o) (ho : msP l o) (x : ByteArray) :
    (Instr.lookup t (.map (some b)) (.string x) true).run P w = .ok (.tuple #[(mgetS l x).getD z, .bool (mgetS l x).isSome]) w := by
  obtain ⟨es, clk, rfl, h⟩ := ho
  have hf := run_findKey_str (P := P) (w := w) hk x es.toList l h.ents
  unfold Instr.lookup
  simp only [Sem.run_bind, run_underlying ht, Result.andThen, run_getMap hb, Sem.run_pure, run_checkKey_str hk _ 9999 x, hf]
  rw [← midxS_get]
  cases midxS l x with
  | none => simp [run_zeroValue (h := hi)]
  | some p => simp
theorem run_mapUpdate_ms (ht : P.underlying t = some (.map k e)) (hk : P.underlying k = some (.string)) (hb : w.heap[b]? = some o) (ho : msP l o) (x : ByteArray) (v : Value) :
    ∃ o', (Instr.mapUpdate t (.map (some b)) (.string x) v).run P w = .ok () (w.putObj b o') ∧ msP (msetS l x v) o' := by
  obtain ⟨es, clk, rfl, h⟩ := ho
  have hes := h.ents
  have hf := run_findKey_str (P := P) (w := w) hk x es.toList l hes
  have hlen : es.size = l.length := by have := congrArg List.length hes; simpa using this
  cases hm : midxS l x with
  | none =>
    refine ⟨.map (es.push { key := .string x, val := v, born := clk }) (clk + 1), ?_, ?_⟩
    · rw [hm] at hf
      unfold Instr.mapUpdate
      simp only [Sem.run_bind, run_underlying ht, Result.andThen, run_getMap hb, run_checkKey_str hk _ 9999 x, hf, run_setMap _ hb]
    · refine ⟨_, _, rfl, ?_, ?_, ?_⟩
      · rw [midxS_none v hm]
        simp [hes]
      · intro y hy
        rw [Array.toList_push] at hy
        rcases List.mem_append.1 hy with hy | hy
        · exact Nat.lt_succ_of_lt (h.born y hy)
        · rw [List.mem_singleton] at hy; subst hy; exact Nat.lt_succ_self _
      · rw [Array.toList_push, List.map_append]
        refine List.nodup_append.2 ⟨h.nd, by simp, fun a ha c hc e => ?_⟩
        obtain ⟨y, hy, rfl⟩ := List.mem_map.1 ha
        simp only [List.map_cons, List.map_nil, List.mem_singleton] at hc
        have := h.born y hy
        omega
  | some p =>
    obtain ⟨i, u⟩ := p
    obtain ⟨h1, h2, h3⟩ := midxS_some v hm
    have hi : i < es.size := by omega
    have hkey : es[i].key = .string x := by
      have := congrArg (fun l => l[i]?) hes
      simp [h3, hi] at this
      exact this.1
    have hb2 : (es.modify i fun e => { e with key := .string x, val := v }).toList.map (·.born) = es.toList.map (·.born) := by
      apply List.ext_getElem?
      intro j
      simp only [List.getElem?_map, Array.getElem?_toList]
      rw [Array.getElem?_modify]
      by_cases e : i = j
      · subst e; simp [hi]
      · simp [e]
    refine ⟨.map (es.modify i fun e => { e with key := .string x, val := v }) clk, ?_, ?_⟩
    · rw [hm] at hf
      have hk2 : ((es[i]?).map (·.key)).getD (.string x) = .string x := by simp [hi, hkey]
      unfold Instr.mapUpdate
      simp only [Sem.run_bind, run_underlying ht, Result.andThen, run_getMap hb, run_checkKey_str hk _ 9999 x, hf, hk2, run_keyStaysS, run_setMap _ hb]
    · refine ⟨_, _, rfl, ?_, ?_, ?_⟩
      · rw [h1]
        apply List.ext_getElem?
        intro j
        have hj := congrArg (fun l => l[j]?) hes
        simp only [List.getElem?_map, Array.getElem?_toList] at hj ⊢
        rw [Array.getElem?_modify, List.getElem?_set]
        by_cases e : i = j
        · subst e
          simp [hi, h2]
        · simp only [if_neg e]
          exact hj
      · intro y hy
        have h4 : y.born ∈ (es.modify i fun e => { e with key := .string x, val := v }).toList.map (·.born) := List.mem_map.2 ⟨y, hy, rfl⟩
        rw [hb2] at h4
        obtain ⟨y0, h5, h6⟩ := List.mem_map.1 h4
        rw [← h6]; exact h.born y0 h5
      · rw [hb2]; exact h.nd
end
section
variable {P : Program} {r : Option Nat} {N : Nat} {ds : List Deferred} {ol rest : List Oper} {Q : Post} {E : Env} {w0 : World} {H : List Atom} {next : Act → World → Prop} {g : Option (Nat × Bool)}
variable {d : Nat} {t ty : TypeId} {pos : String} {af : Array Edge} {x y z : Operand}
theorem H1.mkms (hd : Nat.blt d N = true) (h : ∀ b, HN N ds next ((d, .map (some b)) :: E) w0 (A.ms b [] :: H)) : H1 P r N ds next ⟨some d, .makeMap t none, ty, pos, af, g⟩ Q E w0 H := fun w hM =>
  W1.run (v := .map (some w.heap.size)) (w' := w.alloc (.map #[] 0)) (fun _ _ => rfl) rfl hd (h _ _ (by
    refine (hM.more (Ext.alloc w _)).cons ⟨_, World.alloc_heap_new w _, _, _, rfl, MS.nil⟩ (by simp [A.ms, A.obj]) fun b hb => ?_
    have hb' : b = w.heap.size := by simpa [A.ms, A.obj] using hb
    subst hb'
    refine ⟨fun hm => ?_, hM.ext.size, by simp⟩
    have := (hM.rng _ hm).2
    omega))
theorem H1.msget {b : Nat} {k e : TypeId} {l : List (ByteArray × Value)} {n : ByteArray} {zv : Value} {sz bb : Nat} [ht : UTy P t (.map k e)] [hk : UTy P k (.string)] [hi : ITy P e zv sz bb] (hx : Env.ev E x = some (.map (some b))) (hy : Env.ev E y = some (.string n))
    (hm : A.ms b l ∈ H) (hd : Nat.blt d N = true) (h : HN N ds next ((d, (mgetS l n).getD zv) :: E) w0 H) : H1 P r N ds next ⟨some d, .lookup t x y false, ty, pos, af, g⟩ Q E w0 H := fun w hM => by
  obtain ⟨o, h1, h2⟩ : ∃ o, w.heap[b]? = some o ∧ msP l o := hM.all _ hm
  refine W1.run (v := (mgetS l n).getD zv) (w' := w) (fun a ha' => ?_) rfl hd (h w hM)
  simp only [execOp, ha'.ev hx, ha'.ev hy, Sem.run_bind, run_lookup_ms ht.is hk.is h1 h2 n, Result.andThen, Sem.run_pure]
theorem H1.msget2 {b : Nat} {k e : TypeId} {l : List (ByteArray × Value)} {n : ByteArray} {zv : Value} {sz bb : Nat} [ht : UTy P t (.map k e)] [hk : UTy P k (.string)] [hi : ITy P e zv sz bb] (hx : Env.ev E x = some (.map (some b))) (hy : Env.ev E y = some (.string n))
    (hm : A.ms b l ∈ H) (hd : Nat.blt d N = true) (h : HN N ds next ((d, .tuple #[(mgetS l n).getD zv, .bool (mgetS l n).isSome]) :: E) w0 H) : H1 P r N ds next ⟨some d, .lookup t x y true, ty, pos, af, g⟩ Q E w0 H := fun w hM => by
  obtain ⟨o, h1, h2⟩ : ∃ o, w.heap[b]? = some o ∧ msP l o := hM.all _ hm
  refine W1.run (v := .tuple #[(mgetS l n).getD zv, .bool (mgetS l n).isSome]) (w' := w) (fun a ha' => ?_) rfl hd (h w hM)
  simp only [execOp, ha'.ev hx, ha'.ev hy, Sem.run_bind, run_lookup_ms2 ht.is hk.is h1 h2 n, Result.andThen, Sem.run_pure]
theorem H1.msset {b : Nat} {k e : TypeId} {l : List (ByteArray × Value)} {n : ByteArray} {v : Value} {H' : List Atom} [ht : UTy P t (.map k e)] [hk : UTy P k (.string)] (hx : Env.ev E x = some (.map (some b))) (hy : Env.ev E y = some (.string n)) (hz : Env.ev E z = some v)
    (hr : Rpl (A.ms b l) (A.ms b (msetS l n v)) H H') (h : HN N ds next E w0 H') : H1 P r N ds next ⟨none, .mapUpdate t x y z, ty, pos, af, g⟩ Q E w0 H := fun w hM => by
  obtain ⟨o, hb, ho⟩ : ∃ o, w.heap[b]? = some o ∧ msP l o := hM.all _ hr.mem
  obtain ⟨o', hrun, ho'⟩ := run_mapUpdate_ms (P := P) ht.is hk.is hb ho n v
  have hlt := (Array.getElem?_eq_some_iff.1 hb).1
  refine W1.skip (w' := w.putObj b o') (fun a ha => ?_) rfl rfl (h _ (hM.turn hr rfl rfl rfl (by simp) (fun k _ hk' => ?_) ⟨o', World.putObj_heap_same hlt, ho'⟩ (by simp [A.ms, A.obj]) fun b' hb' => .inl hb'))
  · simp only [execOp, ha.ev hx, ha.ev hy, ha.ev hz, Sem.run_bind, hrun, Result.andThen, Sem.run_pure]
  · exact World.putObj_heap_other (by simpa [A.ms, A.obj] using hk')
end
theorem Mm.head {w0 w : World} {a a' : Atom} {H : List Atom} (h : Mm w0 (a :: H) w) (hfp : a'.fp = a.fp) (hp : a'.p w) : Mm w0 (a' :: H) w := by
  refine ⟨h.ext, fun x hx => ?_, ?_, fun b hb => ?_⟩
  · rcases List.mem_cons.1 hx with rfl | hx
    · exact hp
    · exact h.all x (List.mem_cons_of_mem _ hx)
  · have := h.nd
    rw [fps_cons] at this ⊢
    rwa [hfp]
  · refine h.rng b ?_
    rw [fps_cons] at hb ⊢
    rwa [hfp] at hb
/-- A map whose entries are known one by one. -/
def A.mx (b : Nat) (es : Array MapEntry) (clk : Nat) : Atom := A.obj b fun o => o = .map es clk
theorem Mm.mx {w0 w : World} {b clk : Nat} {es : Array MapEntry} {H : List Atom} (h : Mm w0 H w) (hm : A.mx b es clk ∈ H) : w.heap[b]? = some (.map es clk) := by
  obtain ⟨o, h1, rfl⟩ : ∃ o, w.heap[b]? = some o ∧ o = .map es clk := h.all _ hm
  exact h1
theorem stamp_inj : ∀ {es : List MapEntry}, (es.map (·.born)).Nodup → ∀ {e e' : MapEntry}, e ∈ es → e' ∈ es → e.born = e'.born → e = e'
  | [], _, _, _, he, _, _ => absurd he (by simp)
  | x :: es, h, e, e', he, he', hb => by
    rw [List.map_cons, List.nodup_cons] at h
    rcases List.mem_cons.1 he with h1 | h1 <;> rcases List.mem_cons.1 he' with h2 | h2
    · rw [h1, h2]
    · exact absurd (List.mem_map.2 ⟨e', h2, by rw [← hb, h1]⟩) h.1
    · exact absurd (List.mem_map.2 ⟨e, h1, by rw [hb, h2]⟩) h.1
    · exact stamp_inj h.2 h1 h2 hb
theorem map_eraseIdx {α β : Type} (f : α → β) : ∀ (l : List α) (i : Nat), (l.map f).eraseIdx i = (l.eraseIdx i).map f
  | [], _ => rfl
  | _ :: _, 0 => rfl
  | a :: l, i + 1 => by
    simp only [List.map_cons, List.eraseIdx_cons_succ]
    rw [map_eraseIdx f l i]
theorem mleft_erase (es : Array MapEntry) (i : Nat) (seen : Array Nat) : mleft (es.eraseIdxIfInBounds i) seen ≤ mleft es seen := by
  unfold mleft
  rw [Array.toList_eraseIdxIfInBounds]
  exact ((List.eraseIdx_sublist _ i).filter _).length_le
end Go.Sx

