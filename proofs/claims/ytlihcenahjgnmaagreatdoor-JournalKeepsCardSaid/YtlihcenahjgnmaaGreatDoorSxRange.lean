/-
  The layer's laws for a range over a function: the caller's statement, one round, the call of yield.
-/
import Derived.Test.YtlihcenahjgnmaaGreatDoorSxMore
import Derived.RangeFuncRecord
namespace Go.Sx
open Go Go.RowKit

/-- Nothing has turned but block l, which stays a block of its kind. -/
structure Upd1 (l : Nat) (w w' : World) : Prop where
  os : w'.os = w.os
  tape : w'.tape = w.tape
  output : w'.output = w.output
  size : w'.heap.size = w.heap.size
  block : ∀ k, k ≠ l → w'.heap[k]? = w.heap[k]?
theorem Upd1.put (w : World) (l : Nat) (o : Obj) : Upd1 l w (w.putObj l o) := ⟨rfl, rfl, rfl, by simp, fun _ hk => World.putObj_heap_other hk⟩
theorem Upd1.below {l n : Nat} {w w' : World} (h : Upd1 l w w') (hn : n ≤ l) : Below n w w' := ⟨h.os, h.tape, h.output, by rw [h.size]; exact Nat.le_refl _, fun k hk => h.block k (by omega)⟩
theorem Blk.upd1 {w w' : World} {b l : Nat} {cs : List Value} {e : TypeId} {lp : Obj} (h : Blk w b cs e) (k : Upd1 l w w') (hl : w.heap[l]? = some lp) (hne : ∀ c e f, lp ≠ .cells c e f) : Blk w' b cs e := by
  unfold Blk at *
  rw [k.block b (fun e => by subst e; rw [h] at hl; cases hl; exact hne _ _ _ rfl)]; exact h

section
variable {P : Program} {r : Option Nat} {N : Nat} {ds : List Deferred} {ol rest : List Oper} {Q : Post} {E : Env} {w : World} {next : Act → World → Prop} {g : Option (Nat × Bool)}

/-- The record of a loop over a function, as block l. -/
def LoopAt (N : Nat) (E : Env) (ps : List Nat) (assign body : Code) (st : LoopState) (pe : Option Code) (l : Nat) (W : World) : Prop :=
  ∃ rec : Loop, W.heap[l]? = some (.loop rec) ∧ rec.state = st ∧ rec.pending = pe ∧ rec.params = ps.toArray ∧ rec.assign = assign ∧ rec.body = body ∧ Rep N [] E ⟨rec.tmps, []⟩
theorem LoopAt.keep {E : Env} {ps : List Nat} {assign body : Code} {st : LoopState} {pe : Option Code} {l : Nat} {W W' : World} (h : LoopAt N E ps assign body st pe l W) (hk : W'.heap[l]? = W.heap[l]?) : LoopAt N E ps assign body st pe l W' := by
  obtain ⟨rec, h1, h2⟩ := h
  exact ⟨rec, hk.trans h1, h2⟩
theorem LoopAt.lt {E : Env} {ps : List Nat} {assign body : Code} {st : LoopState} {pe : Option Code} {l : Nat} {W : World} (h : LoopAt N E ps assign body st pe l W) : l < W.heap.size := by
  obtain ⟨rec, h1, -⟩ := h
  exact (Array.getElem?_eq_some_iff.1 h1).1
theorem LoopAt.ext {E : Env} {ps : List Nat} {assign body : Code} {st : LoopState} {pe : Option Code} {l : Nat} {W W' : World} (h : LoopAt N E ps assign body st pe l W) (hk : Ext W W') : LoopAt N E ps assign body st pe l W' := h.keep (hk.block l h.lt)
theorem Blk.loop1 {E : Env} {ps : List Nat} {assign body : Code} {st : LoopState} {pe : Option Code} {l b : Nat} {W W' : World} {cs : List Value} {e : TypeId} (h : Blk W b cs e) (hl : LoopAt N E ps assign body st pe l W) (k : Upd1 l W W') : Blk W' b cs e := by
  obtain ⟨rec, h1, -⟩ := hl
  exact h.upd1 k h1 (fun _ _ _ e => by cases e)

/-- How a round may end. -/
def RP (N : Nat) (E : Env) (ps : List Nat) (assign body : Code) (l : Nat) (R : Bool → World → Prop) : Post
  | .normal, _, W => LoopAt N E ps assign body .busy none l W ∧ ∀ W', Upd1 l W W' → LoopAt N E ps assign body .ready none l W' → R true W'
  | .ret, _, W => LoopAt N E ps assign body .busy none l W ∧ ∀ W', Upd1 l W W' → LoopAt N E ps assign body .done (some .ret) l W' → R false W'
  | .exit id, _, W => LoopAt N E ps assign body .busy none l W ∧ ∀ W', Upd1 l W W' → LoopAt N E ps assign body .done (some (.exit id)) l W' → R false W'
  | _, _, _ => False
/-- What is asked behind the assignment to the loop's variables. -/
def RA (P : Program) (N : Nat) (E : Env) (ps : List Nat) (assign body : Code) (l : Nat) (R : Bool → World → Prop) : Post
  | .normal, a, W => LoopAt N E ps assign body .ready none l W ∧ ∀ W', Upd1 l W W' → LoopAt N E ps assign body .busy none l W' → body.wpIn (FW (some l)) 0 P (RP N E ps assign body l R) a W'
  | _, _, _ => False
theorem WX.ra {E0 : Env} {ps : List Nat} {assign body : Code} {l : Nat} {R : Bool → World → Prop} (h1 : LoopAt N E0 ps assign body .ready none l w)
    (h2 : ∀ w', Upd1 l w w' → LoopAt N E0 ps assign body .busy none l w' → WC P (some l) N [] body (RP N E0 ps assign body l R) E w') : WX N [] .normal (RA P N E0 ps assign body l R) E w :=
  fun a ha => ⟨h1, fun w' hw hl => h2 w' hw hl a ha⟩
theorem WX.rp_n {E0 : Env} {ps : List Nat} {assign body : Code} {l : Nat} {R : Bool → World → Prop} (h1 : LoopAt N E0 ps assign body .busy none l w)
    (h2 : ∀ w', Upd1 l w w' → LoopAt N E0 ps assign body .ready none l w' → R true w') : WX N [] .normal (RP N E0 ps assign body l R) E w := fun _ _ => ⟨h1, h2⟩
theorem WX.rp_r {E0 : Env} {ps : List Nat} {assign body : Code} {l : Nat} {R : Bool → World → Prop} (h1 : LoopAt N E0 ps assign body .busy none l w)
    (h2 : ∀ w', Upd1 l w w' → LoopAt N E0 ps assign body .done (some .ret) l w' → R false w') : WX N [] .ret (RP N E0 ps assign body l R) E w := fun _ _ => ⟨h1, h2⟩
theorem WX.rp_e {E0 : Env} {ps : List Nat} {assign body : Code} {l id : Nat} {R : Bool → World → Prop} (h1 : LoopAt N E0 ps assign body .busy none l w)
    (h2 : ∀ w', Upd1 l w w' → LoopAt N E0 ps assign body .done (some (.exit id)) l w' → R false w') : WX N [] (.exit id) (RP N E0 ps assign body l R) E w := fun _ _ => ⟨h1, h2⟩

/-- A call of yield comes to this. -/
def Yld (P : Program) (l : Nat) (args : List Value) (W : World) (R : Bool → World → Prop) : Prop :=
  ∃ fn tmps assign body, (Instr.yield l args.toArray).run P W = .ok (.round l fn tmps assign body) W ∧ RoundIn (FW none) 0 P l fn tmps assign body W fun e W' => ∃ b, e = .returned (.bool b) ∧ R b W'

def putAll : List (Nat × Value) → Env → Env
  | [], E => E
  | (t, v) :: l, E => putAll l ((t, v) :: E)
theorem rep_putAll : ∀ (l : List (Nat × Value)) (E : Env) (tmps : Array Value), (∀ p ∈ l, p.1 < N) → Rep N [] E ⟨tmps, []⟩ →
    Rep N [] (putAll l E) ⟨l.foldl (fun t p => t.setIfInBounds p.1 p.2) tmps, []⟩
  | [], _, _, _, h => h
  | (t, v) :: l, E, tmps, hl, h => by
    have ht : t < N := hl (t, v) (by simp)
    have h1 := h.put (d := t) (by simpa [Nat.blt_eq] using ht) v
    exact rep_putAll l _ _ (fun p hp => hl p (by simp [hp])) h1

theorem Yld.of {ps : List Nat} {assign body : Code} {l : Nat} {args : List Value} {R : Bool → World → Prop} (hL : LoopAt N E ps assign body .ready none l w) (hlen : args.length = ps.length) (hps : (ps.all (Nat.blt · N)) = true)
    (h : WC P (some l) N [] assign (RA P N E ps assign body l R) (putAll (ps.zip args) E) w) : Yld P l args w R := by
  obtain ⟨rec, h1, h2, h3, h4, rfl, rfl, h7⟩ := hL
  have hy := run_yield (P := P) (args := args.toArray) h1 (by simp [h4, hlen])
  refine ⟨_, _, _, _, hy, roundIn_of_wpIn trivial ?_⟩
  have hrep : Rep N [] (putAll (ps.zip args) E) ⟨(rec.params.zip args.toArray).foldl (fun tmps (p : Nat × Value) => tmps.setIfInBounds p.1 p.2) rec.tmps, []⟩ := by
    have := rep_putAll (ps.zip args) E rec.tmps (fun p hp => by
      have h8 := (List.of_mem_zip hp).1
      have := List.all_eq_true.1 hps _ h8
      simpa [Nat.blt_eq] using this) h7
    rw [h4]
    simpa using this
  have hw := h _ hrep
  refine wpIn_mono hw ?_
  intro e a W hq
  cases e with
  | normal =>
    obtain ⟨⟨rec1, g1, g2, g3, g4, g5, g6, g7⟩, hq⟩ := hq
    refine ⟨_, run_beginRound g1 g2, ?_⟩
    have hl1 : l < W.heap.size := (Array.getElem?_eq_some_iff.1 g1).1
    have hb := hq (W.putObj l (.loop { rec1 with state := .busy })) (Upd1.put _ _ _) ⟨{ rec1 with state := .busy }, World.putObj_heap_same hl1, rfl, g3, g4, g5, g6, g7⟩
    refine wpIn_mono hb ?_
    intro e a2 W2 hq2
    cases e with
    | normal =>
      obtain ⟨⟨rec2, f1, f2, f3, f4, f5, f6, f7⟩, hq2⟩ := hq2
      refine ⟨_, _, run_endRound none f1, _, rfl, hq2 _ (Upd1.put _ _ _) ⟨_, World.putObj_heap_same (Array.getElem?_eq_some_iff.1 f1).1, rfl, rfl, f4, f5, f6, f7⟩⟩
    | ret =>
      obtain ⟨⟨rec2, f1, f2, f3, f4, f5, f6, f7⟩, hq2⟩ := hq2
      refine ⟨_, _, run_endRound (some .ret) f1, _, rfl, hq2 _ (Upd1.put _ _ _) ⟨_, World.putObj_heap_same (Array.getElem?_eq_some_iff.1 f1).1, rfl, rfl, f4, f5, f6, f7⟩⟩
    | exit id =>
      obtain ⟨⟨rec2, f1, f2, f3, f4, f5, f6, f7⟩, hq2⟩ := hq2
      refine ⟨_, _, run_endRound (some (.exit id)) f1, _, rfl, hq2 _ (Upd1.put _ _ _) ⟨_, World.putObj_heap_same (Array.getElem?_eq_some_iff.1 f1).1, rfl, rfl, f4, f5, f6, f7⟩⟩
    | goto t => exact hq2.elim
    | panic c => exact hq2.elim
    | outgrown => exact hq2.elim
  | exit id => exact hq.elim
  | goto l => exact hq.elim
  | ret => exact hq.elim
  | panic c => exact hq.elim
  | outgrown => exact hq.elim

/-- The call of yield. -/
theorem W1.yield {d : Option Nat} {x : Operand} {l : Nat} {args : List Operand} {ats : Array TypeId} {ty : TypeId} {pos : String} {af : Array Edge} {vs : List Value} {R : Bool → World → Prop}
    (hd : dOk d N = true) (hx : Env.ev E x = some (.func (.yield l) #[] #[])) (ha : Env.evs E args = some vs) (hc : Yld P l vs w R)
    (h : ∀ b w', R b w' → NX N ds next (putE d (.bool b) E) w') :
    W1 P r N ds next ⟨d, .call ⟨.value x, args.toArray, ats⟩, ty, pos, af, g⟩ Q E w := by
  intro a hr
  obtain ⟨fn, tmps, assign, body, hy, hround⟩ := hc
  refine ⟨fun _ _ => trivial, ?_⟩
  have hrun : (execOp a.eval ⟨d, .call ⟨.value x, args.toArray, ats⟩, ty, pos, af, g⟩).run P w = .ok (.round l fn tmps assign body) w := by
    have hm : Array.map a.eval args.toArray = vs.toArray := by simp [hr.evs ha]
    simp [execOp, resolve, hm, hr.ev hx, Deferred.ofValue, invoke, hy]
  rw [semAt_of rfl, hrun]
  refine ⟨fun h => by simp [FW] at h, trivial, fun c cs hroom => ?_⟩
  obtain ⟨e, w', ⟨b, he, hR⟩, hs⟩ := hround.2 c cs (FW_room _ _)
  subst he
  exact ⟨.returned (.bool b), w', h b w' hR _ (hr.putO hd _), hs⟩

def markOf (D : Nat) : Deferred := { target := .collected D, args := #[] }
/-- 'for .. := range g { .. }', outermost. -/
theorem WC.rangeFunc {x : Operand} {ps : List Nat} {assign body : Code} {gf : FuncId} {lb : List Value} [hcf : CallOk P gf] (hg : Env.ev E x = some (.func (.func gf) #[] lb.toArray))
    (h : ∀ w1, Ext w w1 → w1.heap.size = w.heap.size + 2 → LoopAt N E ps assign body .ready none (w.heap.size + 1) w1 → w1.heap[w.heap.size]? = some (.deferred (some [])) →
      Fn P gf (.func (.yield (w.heap.size + 1)) #[] #[] :: lb).toArray w1 fun _ w2 =>
        (LoopAt N E ps assign body .ready none (w.heap.size + 1) w2 ∧ ∀ w3, Upd1 (w.heap.size + 1) w2 w3 → WX N (markOf w.heap.size :: ds) .normal Q E w3) ∨
        (∃ c, LoopAt N E ps assign body .done (some c) (w.heap.size + 1) w2 ∧ ∀ w3, Upd1 (w.heap.size + 1) w2 w3 → WC P none N (markOf w.heap.size :: ds) c Q E w3)) :
    WC P none N ds (.rangeFunc x ps.toArray assign body) Q E w := by
  intro a ha
  refine wpIn_rangeFunc ?_
  intro fn hfn
  have hm : Rep N (markOf w.heap.size :: ds) E { a with defers := [markOf w.heap.size] ++ a.defers } := ⟨ha.size, by simp [ha.defers], ha.get⟩
  obtain ⟨W1, hW1⟩ : ∃ W1, (w.alloc (.deferred (some []))).alloc (.loop { state := .ready, pending := none, fn, tmps := a.tmps, params := ps.toArray, assign, body, defers := w.heap.size }) = W1 := ⟨_, rfl⟩
  have he := run_enterLoop_outer (P := P) (w := w) fn a.tmps ps.toArray assign body
  rw [hW1] at he
  refine ⟨_, _, W1, { target := .fn (.func gf) lb.toArray, args := #[.func (.yield (w.heap.size + 1)) #[] #[]] }, W1, gf, (.func (.yield (w.heap.size + 1)) #[] #[] :: lb).toArray, W1, he, ?_, fun _ _ => trivial, ?_, fun h => by simp [FW] at h, ?_⟩
  · simp only [resolve, ha.ev hg]
    simp [Deferred.ofValue, Act.eval]
  · have : (#[Value.func (.yield (w.heap.size + 1)) #[] #[]] ++ lb.toArray) = (Value.func (.yield (w.heap.size + 1)) #[] #[] :: lb).toArray := by simp
    simp only [invoke, this, hcf.run]
  · subst hW1
    have hc := h ((w.alloc (.deferred (some []))).alloc (.loop { state := .ready, pending := none, fn, tmps := a.tmps, params := ps.toArray, assign, body, defers := w.heap.size }))
      (((Below.refl _ w).alloc (Nat.le_refl _) _).alloc (by simp) _) (by simp) ⟨_, by rw [show w.heap.size + 1 = (w.alloc (.deferred (some []))).heap.size by simp]; exact World.alloc_heap_new _ _, rfl, rfl, rfl, rfl, rfl, ⟨ha.size, rfl, ha.get⟩⟩
      (by rw [Below.heap_alloc _ _ _ (by simp)]; exact World.alloc_heap_new w _)
    refine (callsIn_wide (n := 0)).2 (Calls.mono hc ?_)
    rintro e w2 ⟨v, rfl, (⟨hl, hq⟩ | ⟨c, hl, hq⟩)⟩
    · obtain ⟨rec, h1, h2, h3, h4⟩ := hl
      have := run_endLoop (P := P) h1 (by rw [h2]; simp)
      rw [h3] at this
      exact ⟨none, _, this, hq _ (Upd1.put _ _ _) _ hm⟩
    · obtain ⟨rec, h1, h2, h3, h4⟩ := hl
      have := run_endLoop (P := P) h1 (by rw [h2]; simp)
      rw [h3] at this
      exact ⟨some c, _, this, hq _ (Upd1.put _ _ _) _ hm⟩

/-- The same with a name for the record. -/
theorem WC.rangeFunc' {x : Operand} {ps : List Nat} {assign body : Code} {gf : FuncId} {lb : List Value} [hcf : CallOk P gf] (hg : Env.ev E x = some (.func (.func gf) #[] lb.toArray))
    (h : ∀ w1 D l (L : LoopState → Option Code → World → Prop), (∀ st pe W, L st pe W ↔ LoopAt N E ps assign body st pe l W) → w.heap.size = D → D + 1 = l → w1.heap.size = l + 1 → Ext w w1 → L .ready none w1 → w1.heap[D]? = some (.deferred (some [])) →
      Fn P gf (.func (.yield l) #[] #[] :: lb).toArray w1 fun _ w2 =>
        (L .ready none w2 ∧ ∀ w3, Upd1 l w2 w3 → WX N (markOf D :: ds) .normal Q E w3) ∨
        (∃ c, L .done (some c) w2 ∧ ∀ w3, Upd1 l w2 w3 → WC P none N (markOf D :: ds) c Q E w3)) :
    WC P none N ds (.rangeFunc x ps.toArray assign body) Q E w :=
  WC.rangeFunc hg fun w1 hx hs hl hd => h w1 _ _ (fun st pe W => LoopAt N E ps assign body st pe (w.heap.size + 1) W) (fun _ _ _ => Iff.rfl) rfl rfl hs hx hl hd

/- a function that holds such a loop -/
theorem enterM {f : FuncId} {fn : Func} {c : Code} {l : List Value} {R : Value → World → Prop} [hf : FnIs P f fn] (hb : fn.body = some c) (hN : fn.ntmps = N) (hl : Nat.ble l.length N = true)
    (h : WC P none N [] c (bodyPostM Fence.wide 0 P fn (RetP R)) (Env.of 0 l) w) : Fn P f l.toArray w R := by
  refine (callsIn_wide (n := 0)).1 (callsIn_of_wp_marks hf.is hb trivial ?_ rfl)
  have hl' : l.length ≤ N := by simpa using hl
  refine h _ ⟨by simp [hN]; omega, rfl, fun t v ht => ?_⟩
  obtain ⟨-, h2⟩ := Env.of_g l 0 t v ht
  have hlt : t < l.length := by
    rcases Nat.lt_or_ge t l.length with h | h
    · exact h
    · simp [List.getElem?_eq_none h] at h2
  rw [Array.getElem?_append_left (by simpa using hlt)]
  simpa using h2
theorem WX.retM1 {fn : Func} {t D : Nat} {v : Value} {R : Value → World → Prop} (hr : fn.results = #[.tmp t]) (hv : Env.g E t = some v) (hD : w.heap[D]? = some (.deferred (some []))) (h : ∀ w', Upd1 D w w' → R v w') :
    WX N [markOf D] .ret (bodyPostM Fence.wide 0 P fn (RetP R)) E w := fun a ha => by
  simp only [bodyPostM, ha.defers]
  refine ⟨by simp, .inl ⟨D, _, rfl, run_takeDeferred hD, ?_⟩⟩
  exact ⟨_, results_tmp hr _ _ _, _, rfl, by rw [Array.getD_eq_getD_getElem?, ha.get _ _ hv]; exact h _ (Upd1.put _ _ _)⟩
theorem WX.retM2 {fn : Func} {t u D : Nat} {v v' : Value} {R : Value → World → Prop} (hr : fn.results = #[.tmp t, .tmp u]) (hv : Env.g E t = some v) (hv' : Env.g E u = some v') (hD : w.heap[D]? = some (.deferred (some [])))
    (h : ∀ w', Upd1 D w w' → R (.tuple #[v, v']) w') : WX N [markOf D] .ret (bodyPostM Fence.wide 0 P fn (RetP R)) E w := fun a ha => by
  simp only [bodyPostM, ha.defers]
  refine ⟨by simp, .inl ⟨D, _, rfl, run_takeDeferred hD, ?_⟩⟩
  exact ⟨_, results_tmp2 hr _ _ _, _, rfl, by simp only [Array.getD_eq_getD_getElem?, ha.get _ _ hv, ha.get _ _ hv']; exact h _ (Upd1.put _ _ _)⟩
/-- The same function, left before the loop. -/
theorem WX.retM0_1 {fn : Func} {t : Nat} {v : Value} {R : Value → World → Prop} (hr : fn.results = #[.tmp t]) (hv : Env.g E t = some v) (h : R v w) :
    WX N [] .ret (bodyPostM Fence.wide 0 P fn (RetP R)) E w := fun a ha => by
  simp only [bodyPostM, ha.defers]
  exact ⟨_, results_tmp hr _ _ _, _, rfl, by rw [Array.getD_eq_getD_getElem?, ha.get _ _ hv]; exact h⟩
theorem WX.retM0_2 {fn : Func} {t u : Nat} {v v' : Value} {R : Value → World → Prop} (hr : fn.results = #[.tmp t, .tmp u]) (hv : Env.g E t = some v) (hv' : Env.g E u = some v') (h : R (.tuple #[v, v']) w) :
    WX N [] .ret (bodyPostM Fence.wide 0 P fn (RetP R)) E w := fun a ha => by
  simp only [bodyPostM, ha.defers]
  exact ⟨_, results_tmp2 hr _ _ _, _, rfl, by simp only [Array.getD_eq_getD_getElem?, ha.get _ _ hv, ha.get _ _ hv']; exact h⟩
end
end Go.Sx

