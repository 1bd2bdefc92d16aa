/-
  The layer with atoms: calls that may panic, functions that panic, deferred closures that recover.
-/
import Derived.Test.YtlihcenahjgnmaaGreatDoorDL
import Derived.RecoverIn
namespace Go.Sx
open Go Go.RowKit
section
variable {P : Program} {r : Option Nat} {N : Nat} {ds : List Deferred} {ol rest : List Oper} {Q : Post} {E : Env} {w0 : World} {H : List Atom} {next : Act → World → Prop} {g : Option (Nat × Bool)}
variable {d : Option Nat} {ty : TypeId} {pos : String} {af : Array Edge} {x : Operand}
theorem W1.callE {w : World} {f : FuncId} {args : List Operand} {ats : Array TypeId} {vs : List Value} {R : Ending → World → Prop} [hf : CallOk P f] (hd : dOk d N = true) (ha : Env.evs E args = some vs) (hc : Calls P f vs.toArray w R)
    (h1 : ∀ v w', R (.returned v) w' → NX N ds next (putE d v E) w') (h2 : ∀ ch w', R (.panicked ch) w' → WX N ds (.panic ch) Q E w') (h3 : ∀ w', ¬ R .outgrown w') :
    W1 P r N ds next ⟨d, .call ⟨.value (.func f), args.toArray, ats⟩, ty, pos, af, g⟩ Q E w := by
  intro a hr
  refine ⟨fun _ _ => trivial, ?_⟩
  have hrun : (execOp a.eval ⟨d, .call ⟨.value (.func f), args.toArray, ats⟩, ty, pos, af, g⟩).run P w = .ok (.enter f vs.toArray) w := by
    have hm : Array.map a.eval args.toArray = vs.toArray := by simp [hr.evs ha]
    simp [execOp, resolve, hm, Act.eval, Deferred.ofValue, invoke, hf.run]
  rw [semAt_of rfl, hrun]
  refine ⟨fun h => by simp [FW] at h, ⟨trivial, fun cs hroom => ?_⟩⟩
  obtain ⟨e, w', fr, hR, hs, hfr⟩ := hc cs
  cases e with
  | returned v => exact ⟨_, w', fr, h1 v w' hR _ (hr.putO hd v), comesIn_wide.2 hs, hfr⟩
  | panicked ch => exact ⟨_, w', fr, h2 ch w' hR a hr, comesIn_wide.2 hs, hfr⟩
  | outgrown => exact absurd hR (h3 w')
/-- A call that returns, or panics with one chain. -/
def EndP {α β : Type} (I : α → Prop) (V : α → Value) (Ha : α → List Atom) (J : β → Prop) (ch : List PanicEntry) (Hb : β → List Atom) (w0 : World) (e : Ending) (w' : World) : Prop :=
  (∃ z, I z ∧ e = .returned (V z) ∧ Mm w0 (Ha z) w') ∨ (∃ z, J z ∧ e = .panicked ch ∧ Mm w0 (Hb z) w')
theorem H1.callE {α β : Type} {V : α → Value} {Ha : α → List Atom} {I : α → Prop} {J : β → Prop} {ch : List PanicEntry} {Hb : β → List Atom} {f : FuncId} {args : List Operand} {ats : Array TypeId} {vs : List Value} [hf : CallOk P f]
    (hd : dOk d N = true) (ha : Env.evs E args = some vs) (hc : ∀ w, Mm w0 H w → Calls P f vs.toArray w (EndP I V Ha J ch Hb w0))
    (h1 : ∀ z, I z → HN N ds next (putE d (V z) E) w0 (Ha z)) (h2 : ∀ z, J z → HX N ds (.panic ch) Q E w0 (Hb z)) :
    H1 P r N ds next ⟨d, .call ⟨.value (.func f), args.toArray, ats⟩, ty, pos, af, g⟩ Q E w0 H := fun w hM => W1.callE hd ha (hc w hM)
  (fun v w' h => by
    rcases h with ⟨z, hz, he, hM'⟩ | ⟨z, hz, he, hM'⟩
    · injection he with he; subst he; exact h1 z hz w' hM'
    · cases he)
  (fun c w' h => by
    rcases h with ⟨z, hz, he, hM'⟩ | ⟨z, hz, he, hM'⟩
    · cases he
    · injection he with he; subst he; exact h2 z hz w' hM')
  (fun w' h => by
    rcases h with ⟨z, hz, he, hM'⟩ | ⟨z, hz, he, hM'⟩ <;> cases he)
theorem HX.p_then {y : Code} {ch : List PanicEntry} (h : HX N ds (.panic ch) Q E w0 H) : HX N ds (.panic ch) (Then P r y Q) E w0 H := h
theorem HX.p_again {I : Act → World → Prop} {ch : List PanicEntry} (h : HX N ds (.panic ch) Q E w0 H) : HX N ds (.panic ch) (Again I Q) E w0 H := h
theorem HX.p_block {id : Nat} {ch : List PanicEntry} (h : HX N ds (.panic ch) Q E w0 H) : HX N ds (.panic ch) (Exit.inBlock id Q) E w0 H := h
theorem enterE {f : FuncId} {fn : Func} {c : Code} {l : List Value} {R : Ending → World → Prop} {w : World} [hf : FnIs P f fn] (hM : Mm w0 H w) (hb : fn.body = some c) (hN : fn.ntmps = N) (hl : Nat.ble l.length N = true)
    (h : HC P none N [] c (bodyPost P fn R) (Env.of 0 l) w0 H) : Calls P f l.toArray w R := by
  refine (callsIn_wide (n := 0)).1 (callsIn_of_wp hf.is hb trivial ?_ rfl)
  have hl' : l.length ≤ N := by simpa using hl
  refine h w hM _ ⟨by simp [hN]; omega, rfl, fun t v ht => ?_⟩
  obtain ⟨-, h2⟩ := Env.of_g l 0 t v ht
  have hlt : t < l.length := by
    rcases Nat.lt_or_ge t l.length with h | h
    · exact h
    · simp [List.getElem?_eq_none h] at h2
  rw [Array.getElem?_append_left (by simpa using hlt)]
  simpa using h2
theorem HX.end0E {fn : Func} {R : Ending → World → Prop} (hr : fn.results = #[]) (h : ∀ w, Mm w0 H w → R (.returned (.tuple #[])) w) : HX N [] .normal (bodyPost P fn R) E w0 H := fun w hM _ ha => ⟨ha.defers, _, results_none hr _ _ _, h w hM⟩
theorem HX.ret0E {fn : Func} {R : Ending → World → Prop} (hr : fn.results = #[]) (h : ∀ w, Mm w0 H w → R (.returned (.tuple #[])) w) : HX N [] .ret (bodyPost P fn R) E w0 H := fun w hM _ ha => ⟨ha.defers, _, results_none hr _ _ _, h w hM⟩
theorem HX.panE {fn : Func} {R : Ending → World → Prop} {ch : List PanicEntry} (h : ∀ w, Mm w0 H w → R (.panicked ch) w) : HX N [] (.panic ch) (bodyPost P fn R) E w0 H := fun w hM _ ha => ⟨ha.defers, h w hM⟩
theorem H1.panic {t : TypeId} {v : Value} (hx : Env.ev E x = some (.iface t v)) (h : HX N ds (.panic [{ v := .iface t v, recovered := false }]) Q E w0 H) : H1 P r N ds next ⟨d, .panic x, ty, pos, af, g⟩ Q E w0 H := fun w hM a ha => by
  refine ⟨fun _ _ => trivial, ?_⟩
  have hrun : (execOp a.eval ⟨d, .panic x, ty, pos, af, g⟩).run P w = .halt (.panic (.iface t v)) w := by
    simp only [execOp, ha.ev hx]; rfl
  rw [semAt_of rfl, hrun]
  exact h w hM a ha
/-- A closure is deferred. -/
theorem HL.defer {f : FuncId} {cap : List Value} (hx : Env.ev E x = some (.func (.func f) #[] cap.toArray)) (h : HL P none N ({ target := .fn (.func f) cap.toArray, args := #[] } :: ds) ol rest Q E w0 H) :
    HL P none N ds ol (⟨none, .defer ⟨.value x, #[], #[]⟩, ty, pos, af, none⟩ :: rest) Q E w0 H := fun w hM a ha => by
  refine wpListIn_plain rfl (fun K hK => ?_)
  refine ⟨fun _ _ => trivial, ?_⟩
  have hrun : (execOp a.eval ⟨none, .defer ⟨.value x, #[], #[]⟩, ty, pos, af, none⟩).run P w = .ok (.defer { target := .fn (.func f) cap.toArray, args := #[] }) w := by
    simp [execOp, resolve, ha.ev hx, Deferred.ofValue]
  show Oper.uponIn _ _ _ _ _ _ _ ((Oper.semAt none a.eval _).run P w)
  rw [Oper.semAt_none, hrun]
  refine hK _ _ (h w hM _ ⟨ha.size, ?_, ha.get⟩)
  show _ :: a.defers = _
  rw [ha.defers]
/-- A function that defers one closure; what it hands back lies in two variables. -/
theorem enterD {f : FuncId} {fn : Func} {c : Code} {l : List Value} {R : Ending → World → Prop} {w : World} [hf : FnIs P f fn] (hM : Mm w0 H w) (hb : fn.body = some c) (hN : fn.ntmps = N) (hl : Nat.ble l.length N = true)
    (h : HC P none N [] c (bodyPostDIn Fence.wide 0 P fn R) (Env.of 0 l) w0 H) : Calls P f l.toArray w R := by
  refine (callsIn_wide (n := 0)).1 (callsIn_of_wp_defers hf.is hb trivial ?_ rfl)
  have hl' : l.length ≤ N := by simpa using hl
  refine h w hM _ ⟨by simp [hN]; omega, rfl, fun t v ht => ?_⟩
  obtain ⟨-, h2⟩ := Env.of_g l 0 t v ht
  have hlt : t < l.length := by
    rcases Nat.lt_or_ge t l.length with h | h
    · exact h
    · simp [List.getElem?_eq_none h] at h2
  rw [Array.getElem?_append_left (by simpa using hlt)]
  simpa using h2
/-- A call that is made at the door: what becomes of the frame below and of the world. -/
def DFn (P : Program) (f : FuncId) (args : Array Value) (u u' : FrameMode) (w : World) (R : World → Prop) : Prop :=
  CallsDIn Fence.wide 0 P f args u w fun e v w' => e = .returned (.tuple #[]) ∧ v = u' ∧ R w'
theorem leaves_one {fn : Func} {f : FuncId} {cap : List Value} {u u' : FrameMode} {w : World} {tmps : Array Value} {R : Ending → World → Prop} {R' : World → Prop} [hf : CallOk P f] (hu : u ≠ .run) (hs : settle u' = .returning) (hD : DFn P f cap.toArray u u' w R')
    (h : ∀ w', R' w' → ∃ v, (results fn tmps).run P w' = .ok v w' ∧ R (.returned v) w') : LeavesIn Fence.wide 0 P fn tmps R [{ target := .fn (.func f) cap.toArray, args := #[] }] u w := by
  refine leavesIn_cons (f := f) (args := cap.toArray) hu (by simp [Fence.wide]) (by
    have : (#[] : Array Value) ++ cap.toArray = cap.toArray := by simp
    simp [invoke, hf.run]) (fun _ _ => trivial) (hD.mono ?_)
  rintro e v w' ⟨rfl, rfl, hR⟩
  dsimp only
  rw [hs]
  exact h w' hR
theorem HX.door {fn : Func} {f : FuncId} {cap : List Value} {u' : FrameMode} {R : Ending → World → Prop} {R' : World → World → Prop} [hf : CallOk P f] (hs : settle u' = .returning) (hD : ∀ w, Mm w0 H w → DFn P f cap.toArray .returning u' w (R' w))
    (h : ∀ w w', Mm w0 H w → R' w w' → ∀ a, Rep N [{ target := .fn (.func f) cap.toArray, args := #[] }] E a → ∃ v, (results fn a.tmps).run P w' = .ok v w' ∧ R (.returned v) w') :
    HX N [{ target := .fn (.func f) cap.toArray, args := #[] }] .ret (bodyPostDIn Fence.wide 0 P fn R) E w0 H := fun w hM a ha => by
  simp only [bodyPostDIn, ha.defers]
  exact leaves_one (by intro e; cases e) hs (hD w hM) fun w' hR => h w w' hM hR a ha
theorem HX.doorP {fn : Func} {f : FuncId} {cap : List Value} {ch : List PanicEntry} {u' : FrameMode} {R : Ending → World → Prop} {R' : World → World → Prop} [hf : CallOk P f] (hs : settle u' = .returning) (hD : ∀ w, Mm w0 H w → DFn P f cap.toArray (.panicking ch) u' w (R' w))
    (h : ∀ w w', Mm w0 H w → R' w w' → ∀ a, Rep N [{ target := .fn (.func f) cap.toArray, args := #[] }] E a → ∃ v, (results fn a.tmps).run P w' = .ok v w' ∧ R (.returned v) w') :
    HX N [{ target := .fn (.func f) cap.toArray, args := #[] }] (.panic ch) (bodyPostDIn Fence.wide 0 P fn R) E w0 H := fun w hM a ha => by
  simp only [bodyPostDIn, ha.defers]
  exact leaves_one (by intro e; cases e) hs (hD w hM) fun w' hR => h w w' hM hR a ha
end
theorem wpS_of_HC {P : Program} {N : Nat} {c : Code} {Q : Exit → Act → List Frame → World → Prop} {a : Act} {cs : List Frame} {w w0 : World} {H : List Atom} {E : Env} (hM : Mm w0 H w) (hr : Rep N [] E a) (h : HC P none N [] c (fun e a' w' => Q e a' cs w') E w0 H) :
    c.wpSIn Fence.wide 0 P Q a cs w := wpSIn_of_wpIn rfl (h w hM a hr)
theorem HX.endS {P : Program} {N : Nat} {E : Env} {w0 : World} {H : List Atom} {fn : Func} {c₀ : Frame} {cs : List Frame} {u : FrameMode} {R : Ending → FrameMode → World → Prop} (hr : fn.results = #[]) (h : ∀ w, Mm w0 H w → R (.returned (.tuple #[])) u w) :
    HX N [] .normal (fun e a' w' => bodyPostS P fn c₀ cs R e a' ({ c₀ with mode := u } :: cs) w') E w0 H := fun w hM a ha => ⟨ha.defers, u, rfl, _, results_none hr _ _ _, h w hM⟩
theorem frame_same {c : Frame} {u : FrameMode} (h : c.mode = u) : c = { c with mode := u } := by
  cases c; simp only at h; subst h; rfl
end Go.Sx

