/-
  A small layer over the kit's fenced walk: the temporaries of a frame as an association list, one lemma an operation.
  Nothing here is about one program.
-/
import Derived.RangeFuncNested
import Derived.Sort.LoopGhostIn
import Derived.RangeFuncCalls
import Derived.RangeFuncLeaves
import Derived.OrdersIn
import Derived.TacticsIn
import Derived.DefersIn
import Derived.Below
import Derived.KernelRfl
import Derived.WalkKit
import Derived.IntWalk
namespace Go.Sx
open Go

abbrev Env := List (Nat × Value)
abbrev Post := Exit → Act → World → Prop

def Env.g : Env → Nat → Option Value
  | [], _ => none
  | (k, v) :: E, t => cond (Nat.beq k t) (some v) (Env.g E t)

def Env.ev (E : Env) : Operand → Option Value
  | .tmp t => Env.g E t
  | .const v => some v
  | .global g => some (.pointer (some ⟨g, 0, none⟩))
  | .func f => some (.func (.func f) #[] #[])

def Env.evs (E : Env) : List Operand → Option (List Value)
  | [] => some []
  | x :: l => match Env.ev E x, Env.evs E l with
    | some v, some vs => some (v :: vs)
    | _, _ => none

theorem beq_ne {k t : Nat} (e : k ≠ t) : Nat.beq k t = false := by
  cases h : Nat.beq k t with
  | false => rfl
  | true => exact absurd (Nat.eq_of_beq_eq_true h) e
theorem beq_same (k : Nat) : Nat.beq k k = true := Nat.beq_refl k

structure Rep (N : Nat) (ds : List Deferred) (E : Env) (a : Act) : Prop where
  size : a.tmps.size = N
  defers : a.defers = ds
  get : ∀ t v, Env.g E t = some v → a.tmps[t]? = some v

theorem Rep.ev {N : Nat} {ds : List Deferred} {E : Env} {a : Act} (h : Rep N ds E a) {x : Operand} {v : Value} (hx : Env.ev E x = some v) : a.eval x = v := by
  cases x with
  | tmp t => simp only [Env.ev] at hx; simp [Act.eval, Array.getD_eq_getD_getElem?, h.get t v hx]
  | const c => simpa [Env.ev, Act.eval] using hx
  | func f => simpa [Env.ev, Act.eval] using hx
  | _ => simpa [Env.ev, Act.eval] using hx

theorem Rep.evs {N : Nat} {ds : List Deferred} {E : Env} {a : Act} (h : Rep N ds E a) {l : List Operand} {vs : List Value} (hx : Env.evs E l = some vs) : l.map a.eval = vs := by
  induction l generalizing vs with
  | nil => simpa [Env.evs] using hx
  | cons x l ih =>
    simp only [Env.evs] at hx
    split at hx
    · rename_i v us hv hus
      cases hx
      simp [h.ev hv, ih hus]
    · cases hx

theorem Rep.put {N : Nat} {ds : List Deferred} {E : Env} {a : Act} (h : Rep N ds E a) {d : Nat} (hd : Nat.blt d N = true) (v : Value) : Rep N ds ((d, v) :: E) (a.put (some d) v) := by
  have hd' : d < N := by simpa [Nat.blt_eq] using hd
  refine ⟨by simp [Act.put, h.size], by simp [Act.put, h.defers], fun t u ht => ?_⟩
  simp only [Env.g] at ht
  simp only [Act.put, Array.getElem?_setIfInBounds]
  by_cases e : d = t
  · subst e
    simp only [beq_same, cond_true] at ht
    have hs := h.size
    simp [hs, hd', ht]
  · have : Nat.beq d t = false := beq_ne e
    rw [this] at ht
    simp only [cond_false] at ht
    simp [e, h.get t u ht]

/-- A smaller list says less. -/
def Env.sub (E : Env) : Env → Prop
  | [] => True
  | (t, v) :: E' => Env.g E t = some v ∧ Env.sub E E'

theorem Env.sub_g {E E' : Env} (h : Env.sub E E') {t : Nat} {v : Value} (hg : Env.g E' t = some v) : Env.g E t = some v := by
  induction E' with
  | nil => simp [Env.g] at hg
  | cons p E' ih =>
    obtain ⟨k, u⟩ := p
    simp only [Env.g] at hg
    obtain ⟨h1, h2⟩ := h
    by_cases e : k = t
    · subst e; simp only [beq_same, cond_true, Option.some.injEq] at hg; rw [← hg]; exact h1
    · have : Nat.beq k t = false := beq_ne e
      rw [this] at hg
      exact ih h2 hg

theorem Rep.sub {N : Nat} {ds : List Deferred} {E E' : Env} {a : Act} (h : Rep N ds E a) (hs : Env.sub E E') : Rep N ds E' a :=
  ⟨h.size, h.defers, fun t v hg => h.get t v (Env.sub_g hs hg)⟩

/-- The fence that shuts nothing out, in round r. -/
def FW (r : Option Nat) : Fence := { fn := fun _ => True, depth := none, alive := false, round := r }
theorem FW_room (r : Option Nat) (n : Nat) : (FW r).room n := fun _ h => by simp [FW] at h
theorem FW_none : FW none = Fence.wide := rfl

section
variable (P : Program) (r : Option Nat) (N : Nat) (ds : List Deferred)

def WC (c : Code) (Q : Post) (E : Env) (w : World) : Prop := ∀ a, Rep N ds E a → c.wpIn (FW r) 0 P Q a w
def WL (ol : List Oper) (l : List Oper) (Q : Post) (E : Env) (w : World) : Prop := ∀ a, Rep N ds E a → wpListIn (FW r) 0 P ol.toArray Q l a w
def WX (e : Exit) (Q : Post) (E : Env) (w : World) : Prop := ∀ a, Rep N ds E a → Q e a w
/-- What is asked behind a first piece of code. -/
def Then (y : Code) (Q : Post) : Post := Exit.then (y.wpIn (FW r) 0 P Q) Q
/-- What is asked of a round of a loop. -/
def Again (I : Act → World → Prop) (Q : Post) : Post := Exit.then I Q
def POp (E : Env) (op : Op) (ty : TypeId) (v : Value) : Prop :=
  ∀ a, Rep N ds E a → ∀ d pos af g w, (execOp a.eval ⟨d, op, ty, pos, af, g⟩).run P w = .ok (.value v) w
end

def isDefer : Op → Bool
  | .defer _ => true
  | _ => false

theorem semAt_of {r : Option Nat} {ρ : Operand → Value} {o : Oper} (h : isDefer o.op = false) : Oper.semAt r ρ o = execOp ρ o := by
  unfold Oper.semAt
  cases r with
  | none => rfl
  | some l => cases ho : o.op <;> first | rfl | (rw [ho] at h; cases h)

section
variable {P : Program} {r : Option Nat} {N : Nat} {ds : List Deferred} {ol rest : List Oper} {Q : Post} {E : Env} {w : World}

theorem WC.sub {c : Code} (E' : Env) (h : WC P r N ds c Q E' w) (hs : Env.sub E E') : WC P r N ds c Q E w := fun a ha => h a (ha.sub hs)
theorem WL.sub {l : List Oper} (E' : Env) (h : WL P r N ds ol l Q E' w) (hs : Env.sub E E') : WL P r N ds ol l Q E w := fun a ha => h a (ha.sub hs)
theorem WX.sub {e : Exit} (E' : Env) (h : WX N ds e Q E' w) (hs : Env.sub E E') : WX N ds e Q E w := fun a ha => h a (ha.sub hs)

theorem WC.skip (h : WX N ds .normal Q E w) : WC P r N ds .skip Q E w := fun a ha => wpIn_skip (h a ha)
theorem WC.seq {x y : Code} (h : WC P r N ds x (Then P r y Q) E w) : WC P r N ds (.seq x y) Q E w := fun a ha => wpIn_seq (h a ha)
theorem WC.block {id : Nat} {c : Code} (h : WC P r N ds c (Exit.inBlock id Q) E w) : WC P r N ds (.block id c) Q E w := fun a ha => wpIn_block (h a ha)
theorem WC.exit {id : Nat} (h : WX N ds (.exit id) Q E w) : WC P r N ds (.exit id) Q E w := fun a ha => wpIn_exit (h a ha)
theorem WC.ret (h : WX N ds .ret Q E w) : WC P r N ds .ret Q E w := fun a ha => wpIn_ret (h a ha)
theorem WC.region {id : Nat} {l : List Oper} (h : WL P r N ds l l Q E w) : WC P r N ds (.region id l.toArray false) Q E w := fun a ha => wpIn_region_lit (h a ha)
theorem WC.cond_b {c : Operand} {x y : Code} {b : Bool} (hc : Env.ev E c = some (.bool b)) (h1 : b = true → WC P r N ds x Q E w) (h2 : b = false → WC P r N ds y Q E w) :
    WC P r N ds (.cond c x y) Q E w := fun a ha => wpIn_cond_split (ha.ev hc) (fun e => h1 e a ha) (fun e => h2 e a ha)
theorem WC.cond {c : Operand} {x y : Code} {p : Prop} {_ : Decidable p} (hc : Env.ev E c = some (.bool (decide p))) (h1 : p → WC P r N ds x Q E w) (h2 : ¬ p → WC P r N ds y Q E w) :
    WC P r N ds (.cond c x y) Q E w := WC.cond_b hc (fun e => h1 (of_decide_eq_true e)) (fun e => h2 (of_decide_eq_false e))
theorem WC.cond_t {c : Operand} {x y : Code} (hc : Env.ev E c = some (.bool true)) (h1 : WC P r N ds x Q E w) :
    WC P r N ds (.cond c x y) Q E w := WC.cond_b hc (fun _ => h1) (fun e => by cases e)
theorem WC.cond_f {c : Operand} {x y : Code} (hc : Env.ev E c = some (.bool false)) (h1 : WC P r N ds y Q E w) :
    WC P r N ds (.cond c x y) Q E w := WC.cond_b hc (fun e => by cases e) (fun _ => h1)

/-- A loop: at the head of a round the temporaries read as 'Ex x', for some x with 'I x w'. -/
theorem WC.loop {α : Type} {c : Code} (Ex : α → Env) (I : α → World → Prop) (μ : α → Nat) (x0 : α) (hs : Env.sub E (Ex x0)) (h0 : I x0 w)
    (round : ∀ x w, I x w → WC P r N ds c (Again (fun a' w' => ∃ x', I x' w' ∧ μ x' < μ x ∧ Rep N ds (Ex x') a') Q) (Ex x) w) :
    WC P r N ds (.loop c) Q E w := by
  intro a ha
  refine wpIn_loop_ghost (fun n a w => ∃ x, μ x = n ∧ I x w ∧ Rep N ds (Ex x) a) (μ x0) ⟨x0, rfl, h0, ha.sub hs⟩ ?_
  rintro n a w ⟨x, rfl, hI, hr⟩
  refine wpIn_mono (round x w hI a hr) ?_
  intro e a' w' hq
  cases e with
  | normal => obtain ⟨x', h1, h2, h3⟩ := hq; exact ⟨μ x', h2, x', rfl, h1, h3⟩
  | exit id => exact hq
  | goto l => exact hq
  | ret => exact hq
  | panic ch => exact hq
  | outgrown => exact hq

/-- The end of a round. -/
theorem WX.again {α : Type} {Ex : α → Env} {I : α → World → Prop} {m : Nat} {μ : α → Nat} (x' : α) (h1 : I x' w) (h2 : μ x' < m) (h3 : Env.sub E (Ex x')) :
    WX N ds .normal (Again (fun a' w' => ∃ x', I x' w' ∧ μ x' < m ∧ Rep N ds (Ex x') a') Q) E w := fun _ ha => ⟨x', h1, h2, ha.sub h3⟩

/-- A cut: behind x the temporaries read as 'Ex y', for some y with 'M y w'. -/
theorem WC.cut {α : Type} {x y : Code} (Ex : α → Env) (M : α → World → Prop)
    (h : WC P r N ds x (Again (fun a' w' => ∃ z, M z w' ∧ Rep N ds (Ex z) a') Q) E w) (h2 : ∀ z w, M z w → WC P r N ds y Q (Ex z) w) : WC P r N ds (.seq x y) Q E w := by
  refine WC.seq (fun a ha => wpIn_mono (h a ha) ?_)
  intro e a' w' hq
  cases e with
  | normal => obtain ⟨z, h3, h4⟩ := hq; exact h2 z w' h3 a' h4
  | exit id => exact hq
  | goto l => exact hq
  | ret => exact hq
  | panic ch => exact hq
  | outgrown => exact hq
theorem WX.cut {α : Type} {Ex : α → Env} {M : α → World → Prop} (z : α) (h1 : M z w) (h3 : Env.sub E (Ex z)) :
    WX N ds .normal (Again (fun a' w' => ∃ z, M z w' ∧ Rep N ds (Ex z) a') Q) E w := fun _ ha => ⟨z, h1, ha.sub h3⟩

-- where the ways of leaving go
theorem WX.n_then {y : Code} (h : WC P r N ds y Q E w) : WX N ds .normal (Then P r y Q) E w := h
theorem WX.e_then {y : Code} {id : Nat} (h : WX N ds (.exit id) Q E w) : WX N ds (.exit id) (Then P r y Q) E w := h
theorem WX.r_then {y : Code} (h : WX N ds .ret Q E w) : WX N ds .ret (Then P r y Q) E w := h
theorem WX.e_again {I : Act → World → Prop} {id : Nat} (h : WX N ds (.exit id) Q E w) : WX N ds (.exit id) (Again I Q) E w := h
theorem WX.r_again {I : Act → World → Prop} (h : WX N ds .ret Q E w) : WX N ds .ret (Again I Q) E w := h
theorem WX.n_block {id : Nat} (h : WX N ds .normal Q E w) : WX N ds .normal (Exit.inBlock id Q) E w := h
theorem WX.r_block {id : Nat} (h : WX N ds .ret Q E w) : WX N ds .ret (Exit.inBlock id Q) E w := h
theorem WX.e_block {id : Nat} (h : WX N ds .normal Q E w) : WX N ds (.exit id) (Exit.inBlock id Q) E w := fun a ha => by simp only [Exit.inBlock, if_true]; exact h a ha
theorem WX.e_other {id id' : Nat} (hne : Nat.beq id' id = false) (h : WX N ds (.exit id') Q E w) : WX N ds (.exit id') (Exit.inBlock id Q) E w := fun a ha => by
  have : id' ≠ id := fun e => by subst e; rw [beq_same] at hne; cases hne
  simp only [Exit.inBlock, this, if_false]; exact h a ha

/-- A call that returns. -/
def Fn (P : Program) (f : FuncId) (args : Array Value) (w : World) (R : Value → World → Prop) : Prop :=
  Calls P f args w fun e w' => ∃ v, e = .returned v ∧ R v w'
def RetP (R : Value → World → Prop) (e : Ending) (w' : World) : Prop := ∃ v, e = .returned v ∧ R v w'
theorem Fn.mono {f : FuncId} {args : Array Value} {R R' : Value → World → Prop} (h : Fn P f args w R) (hr : ∀ v w', R v w' → R' v w') : Fn P f args w R' :=
  Calls.mono h fun _ _ ⟨v, he, hv⟩ => ⟨v, he, hr v _ hv⟩

class CallOk (P : Program) (f : FuncId) : Prop where
  run : ∀ args w, (callFunc f args).run P w = .ok (.enter f args) w
class FnIs (P : Program) (f : FuncId) (fn : outParam Func) : Prop where
  is : P.funcs[f]? = some fn
/-- What the type is underneath; its zero value, cells and bytes. -/
class UTy (P : Program) (t : TypeId) (d : outParam TypeDesc) : Prop where
  is : P.underlying t = some d
class ITy (P : Program) (t : TypeId) (z : outParam Value) (n : outParam Nat) (b : outParam Nat) : Prop where
  is : (P.info? t).map (fun i => (i.zero, i.size, i.bytes)) = some (some z, n, b)
/-- Is it a struct or an array? -/
def isAggB (P : Program) (t : TypeId) : Bool := match P.underlying t with | some (.struct _) | some (.array _ _) => true | _ => false
class ATy (P : Program) (t : TypeId) (b : outParam Bool) : Prop where
  is : ((P.underlying t).isSome, isAggB P t) = (true, b)
/-- A field's place and type. -/
def fieldOf (P : Program) (s : TypeId) (f : Nat) : Option (Nat × TypeId) := match P.underlying s with | some (.struct fs) => (fs[f]?).map fun x => (x.offset, x.type) | _ => none
class FTy (P : Program) (s : TypeId) (f : Nat) (off : outParam Nat) (t : outParam TypeId) : Prop where
  is : fieldOf P s f = some (off, t)
theorem ITy.parts {P : Program} {t : TypeId} {z : Value} {n b : Nat} (h : ITy P t z n b) : ∃ i, P.info? t = some i ∧ i.zero = some z ∧ i.size = n ∧ i.bytes = b := by
  have := h.is
  cases hi : P.info? t with
  | none => rw [hi] at this; cases this
  | some i =>
    rw [hi] at this
    simp only [Option.map_some, Option.some.injEq, Prod.mk.injEq] at this
    exact ⟨i, rfl, this.1, this.2.1, this.2.2⟩

def Env.of (i : Nat) : List Value → Env
  | [] => []
  | v :: l => (i, v) :: Env.of (i + 1) l
theorem Env.of_g (l : List Value) : ∀ (i t : Nat) (v : Value), Env.g (Env.of i l) t = some v → i ≤ t ∧ l[t - i]? = some v := by
  induction l with
  | nil => intro i t v h; simp [Env.of, Env.g] at h
  | cons x l ih =>
    intro i t v h
    simp only [Env.of, Env.g] at h
    by_cases e : i = t
    · subst e; simp only [beq_same, cond_true, Option.some.injEq] at h; subst h; simp
    · have : Nat.beq i t = false := beq_ne e
      rw [this] at h
      simp only [cond_false] at h
      obtain ⟨h1, h2⟩ := ih (i + 1) t v h
      refine ⟨by omega, ?_⟩
      have : t - i = (t - (i + 1)) + 1 := by omega
      rw [this]; simpa using h2

theorem enter {f : FuncId} {fn : Func} {c : Code} {l : List Value} {R : Value → World → Prop} [hf : FnIs P f fn] (hb : fn.body = some c) (hN : fn.ntmps = N) (hl : Nat.ble l.length N = true)
    (h : WC P none N [] c (bodyPost P fn (RetP R)) (Env.of 0 l) w) : Fn P f l.toArray w R := by
  refine (callsIn_wide (n := 0)).1 (callsIn_of_wp hf.is hb trivial ?_ rfl)
  have hl' : l.length ≤ N := by simpa using hl
  refine h _ ⟨by simp [hN]; omega, rfl, fun t v ht => ?_⟩
  obtain ⟨-, h2⟩ := Env.of_g l 0 t v ht
  have hlt : t < l.length := by
    rcases Nat.lt_or_ge t l.length with h | h
    · exact h
    · simp [List.getElem?_eq_none h] at h2
  rw [Array.getElem?_append_left (by simpa using hlt)]
  simpa using h2

theorem WX.ret1 {fn : Func} {t : Nat} {v : Value} {R : Value → World → Prop} (hr : fn.results = #[.tmp t]) (hv : Env.g E t = some v) (h : R v w) :
    WX N [] .ret (bodyPost P fn (RetP R)) E w := fun a ha =>
  ⟨ha.defers, _, results_tmp hr _ _ _, _, rfl, by rw [Array.getD_eq_getD_getElem?, ha.get _ _ hv]; exact h⟩
theorem WX.ret2 {fn : Func} {t u : Nat} {v v' : Value} {R : Value → World → Prop} (hr : fn.results = #[.tmp t, .tmp u]) (hv : Env.g E t = some v) (hv' : Env.g E u = some v') (h : R (.tuple #[v, v']) w) :
    WX N [] .ret (bodyPost P fn (RetP R)) E w := fun a ha =>
  ⟨ha.defers, _, results_tmp2 hr _ _ _, _, rfl, by simp only [Array.getD_eq_getD_getElem?, ha.get _ _ hv, ha.get _ _ hv']; exact h⟩
theorem WX.ret0 {fn : Func} {R : Value → World → Prop} (hr : fn.results = #[]) (h : R (.tuple #[]) w) :
    WX N [] .ret (bodyPost P fn (RetP R)) E w := fun _ ha => ⟨ha.defers, _, results_none hr _ _ _, _, rfl, h⟩
theorem WX.end0 {fn : Func} {R : Value → World → Prop} (hr : fn.results = #[]) (h : R (.tuple #[]) w) :
    WX N [] .normal (bodyPost P fn (RetP R)) E w := fun _ ha => ⟨ha.defers, _, results_none hr _ _ _, _, rfl, h⟩

/- ONE OPERATION -/
def putE (d : Option Nat) (v : Value) (E : Env) : Env := match d with | some d => (d, v) :: E | none => E
def dOk (d : Option Nat) (N : Nat) : Bool := match d with | some d => Nat.blt d N | none => true
theorem Rep.putO {a : Act} (h : Rep N ds E a) {d : Option Nat} (hd : dOk d N = true) (v : Value) : Rep N ds (putE d v E) (a.put d v) := by
  cases d with
  | none => exact h
  | some d => exact h.put hd v

theorem WL.nil (h : WX N ds .normal Q E w) : WL P r N ds ol [] Q E w := fun a ha => wpListIn_nil (h a ha)

/-- An operation that yields a value, in a world of its making. -/
theorem WL.run {d : Option Nat} {op : Op} {ty : TypeId} {pos : String} {af : Array Edge} {v : Value} {w' : World}
    (hrun : ∀ a, Rep N ds E a → (execOp a.eval ⟨d, op, ty, pos, af, none⟩).run P w = .ok (.value v) w') (hi : isDefer op = false) (hd : dOk d N = true)
    (h : WL P r N ds ol rest Q (putE d v E) w') : WL P r N ds ol (⟨d, op, ty, pos, af, none⟩ :: rest) Q E w := by
  intro a ha
  refine wpListIn_plain rfl (fun K hK => ?_)
  refine ⟨fun _ _ => trivial, ?_⟩
  rw [semAt_of hi, hrun a ha]
  exact hK _ _ (h _ (ha.putO hd v))
/-- An operation without a value. -/
theorem WL.skip {d : Option Nat} {op : Op} {ty : TypeId} {pos : String} {af : Array Edge} {w' : World}
    (hrun : ∀ a, Rep N ds E a → (execOp a.eval ⟨d, op, ty, pos, af, none⟩).run P w = .ok .skip w') (hi : isDefer op = false) (hd : dOk d N = true)
    (h : WL P r N ds ol rest Q (putE d undef E) w') : WL P r N ds ol (⟨d, op, ty, pos, af, none⟩ :: rest) Q E w := by
  intro a ha
  refine wpListIn_plain rfl (fun K hK => ?_)
  refine ⟨fun _ _ => trivial, ?_⟩
  rw [semAt_of hi, hrun a ha]
  exact hK _ _ (h _ (ha.putO hd _))
/-- An operation that asks nothing of the world. -/
theorem WL.p {d : Nat} {op : Op} {ty : TypeId} {pos : String} {af : Array Edge} {v : Value} (hp : POp P N ds E op ty v) (hi : isDefer op = false) (hd : Nat.blt d N = true)
    (h : WL P r N ds ol rest Q ((d, v) :: E) w) : WL P r N ds ol (⟨some d, op, ty, pos, af, none⟩ :: rest) Q E w :=
  WL.run (fun a ha => hp a ha _ _ _ _ _) hi hd h

/-- A guarded operation, by what its guard says. -/
def guardE (ol : List Oper) (E : Env) (j : Nat) : Option Bool :=
  match (ol[j]?).bind (·.dst) with
  | some t => match Env.g E t with
    | some (.bool b) => some b
    | _ => none
  | none => none
theorem guardE_spec {j : Nat} {b : Bool} (h : guardE ol E j = some b) {a : Act} (ha : Rep N ds E a) : yielded ol.toArray a.tmps j = some b := by
  unfold guardE at h
  unfold yielded
  split at h
  · rename_i t ht
    split at h
    · rename_i b' hb
      cases h
      have : ((ol.toArray[j]?).bind (·.dst)) = some t := by simpa using ht
      rw [this]
      simp [ha.get _ _ hb]
    · cases h
  · cases h
theorem WL.gy {d : Option Nat} {op : Op} {ty : TypeId} {pos : String} {af : Array Edge} {j : Nat} {want b : Bool} (hj : guardE ol E j = some b) (hb : b = want)
    (h : WL P r N ds ol (⟨d, op, ty, pos, af, none⟩ :: rest) Q E w) : WL P r N ds ol (⟨d, op, ty, pos, af, some (j, want)⟩ :: rest) Q E w := by
  intro a ha
  have h1 := h a ha
  have hy := guardE_spec hj ha
  simp only [wpListIn, Region.wanted, if_true] at h1
  simp only [wpListIn, Region.wanted, hy, hb, beq_self_eq_true, if_true]
  exact h1
theorem WL.gn {d : Option Nat} {op : Op} {ty : TypeId} {pos : String} {af : Array Edge} {j : Nat} {want b : Bool} (hj : guardE ol E j = some b) (hb : b = !want) (hd : dOk d N = true)
    (h : WL P r N ds ol rest Q (putE d undef E) w) : WL P r N ds ol (⟨d, op, ty, pos, af, some (j, want)⟩ :: rest) Q E w := by
  intro a ha
  have hy := guardE_spec hj ha
  have hne : ((some (!want) : Option Bool) == some want) = false := by cases want <;> rfl
  simp only [wpListIn, Region.wanted, hy, hb, hne, Bool.false_eq_true, if_false]
  exact ⟨fun _ _ => trivial, h _ (ha.putO hd _)⟩

/-- A guarded operation whose guard was not asked for itself. -/
def guardU (ol : List Oper) (E : Env) (j : Nat) : Bool :=
  match (ol[j]?).bind (·.dst) with
  | some t => match Env.g E t with
    | some (.tuple _) => true
    | _ => false
  | none => false
theorem guardU_spec {j : Nat} (h : guardU ol E j = true) {a : Act} (ha : Rep N ds E a) : yielded ol.toArray a.tmps j = none := by
  unfold guardU at h
  unfold yielded
  split at h
  · rename_i t ht
    split at h
    · rename_i b' hb
      have : ((ol.toArray[j]?).bind (·.dst)) = some t := by simpa using ht
      rw [this]
      simp [ha.get _ _ hb]
    · cases h
  · cases h
theorem WL.nu {d : Option Nat} {op : Op} {ty : TypeId} {pos : String} {af : Array Edge} {j : Nat} {want : Bool} (hj : guardU ol E j = true) (hd : dOk d N = true)
    (h : WL P r N ds ol rest Q (putE d undef E) w) : WL P r N ds ol (⟨d, op, ty, pos, af, some (j, want)⟩ :: rest) Q E w := by
  intro a ha
  have hy := guardU_spec hj ha
  have hne : ((none : Option Bool) == some want) = false := by cases want <;> rfl
  simp only [wpListIn, Region.wanted, hy, hne, Bool.false_eq_true, if_false]
  exact ⟨fun _ _ => trivial, h _ (ha.putO hd _)⟩

/- ONE OPERATION, whatever comes behind it. -/
def NX (N : Nat) (ds : List Deferred) (next : Act → World → Prop) (E : Env) (w : World) : Prop := ∀ a, Rep N ds E a → next a w
def W1 (P : Program) (r : Option Nat) (N : Nat) (ds : List Deferred) (next : Act → World → Prop) (o : Oper) (Q : Post) (E : Env) (w : World) : Prop :=
  ∀ a, Rep N ds E a → o.wpIn (FW r) 0 P a w next Q
theorem WL.fold {l : List Oper} (h : WL P r N ds ol l Q E w) : NX N ds (wpListIn (FW r) 0 P ol.toArray Q l) E w := h
theorem WL.one {d : Option Nat} {op : Op} {ty : TypeId} {pos : String} {af : Array Edge} (h : W1 P r N ds (wpListIn (FW r) 0 P ol.toArray Q rest) ⟨d, op, ty, pos, af, none⟩ Q E w) :
    WL P r N ds ol (⟨d, op, ty, pos, af, none⟩ :: rest) Q E w := fun a ha => by
  simp only [wpListIn, Region.wanted, if_true]
  exact h a ha
variable {next : Act → World → Prop}
theorem W1.run {d : Option Nat} {op : Op} {ty : TypeId} {pos : String} {af : Array Edge} {g : Option (Nat × Bool)} {v : Value} {w' : World}
    (hrun : ∀ a, Rep N ds E a → (execOp a.eval ⟨d, op, ty, pos, af, g⟩).run P w = .ok (.value v) w') (hi : isDefer op = false) (hd : dOk d N = true)
    (h : NX N ds next (putE d v E) w') : W1 P r N ds next ⟨d, op, ty, pos, af, g⟩ Q E w := by
  intro a ha
  refine ⟨fun _ _ => trivial, ?_⟩
  rw [semAt_of hi, hrun a ha]
  exact h _ (ha.putO hd v)
theorem W1.skip {d : Option Nat} {op : Op} {ty : TypeId} {pos : String} {af : Array Edge} {g : Option (Nat × Bool)} {w' : World}
    (hrun : ∀ a, Rep N ds E a → (execOp a.eval ⟨d, op, ty, pos, af, g⟩).run P w = .ok .skip w') (hi : isDefer op = false) (hd : dOk d N = true)
    (h : NX N ds next (putE d undef E) w') : W1 P r N ds next ⟨d, op, ty, pos, af, g⟩ Q E w := by
  intro a ha
  refine ⟨fun _ _ => trivial, ?_⟩
  rw [semAt_of hi, hrun a ha]
  exact h _ (ha.putO hd _)
theorem W1.p {d : Nat} {op : Op} {ty : TypeId} {pos : String} {af : Array Edge} {g : Option (Nat × Bool)} {v : Value} (hp : POp P N ds E op ty v) (hi : isDefer op = false) (hd : Nat.blt d N = true)
    (h : NX N ds next ((d, v) :: E) w) : W1 P r N ds next ⟨some d, op, ty, pos, af, g⟩ Q E w :=
  W1.run (fun a ha => hp a ha _ _ _ _ _) hi hd h
/-- What a call of a value or a function comes to, once its target is known. -/
theorem W1.enter {d : Option Nat} {c : Go.Call} {ty : TypeId} {pos : String} {af : Array Edge} {g : Option (Nat × Bool)} {f : FuncId} {vs : List Value} {R : Value → World → Prop}
    (hd : dOk d N = true) (hrun : ∀ a, Rep N ds E a → (execOp a.eval ⟨d, .call c, ty, pos, af, g⟩).run P w = .ok (.enter f vs.toArray) w) (hc : Fn P f vs.toArray w R)
    (h : ∀ v w', R v w' → NX N ds next (putE d v E) w') : W1 P r N ds next ⟨d, .call c, ty, pos, af, g⟩ Q E w := by
  intro a hr
  refine ⟨fun _ _ => trivial, ?_⟩
  rw [semAt_of rfl, hrun a hr]
  refine ⟨fun h => by simp [FW] at h, ⟨trivial, fun cs hroom => ?_⟩⟩
  obtain ⟨e, w', fr, ⟨v, he, hR⟩, hs, hfr⟩ := hc cs
  subst he
  exact ⟨_, w', fr, h v w' hR _ (hr.putO hd v), comesIn_wide.2 hs, hfr⟩
/-- A call of a function, by its contract. -/
theorem W1.call {d : Option Nat} {f : FuncId} {args : List Operand} {ats : Array TypeId} {ty : TypeId} {pos : String} {af : Array Edge} {g : Option (Nat × Bool)} {vs : List Value} {R : Value → World → Prop}
    [hf : CallOk P f] (hd : dOk d N = true) (ha : Env.evs E args = some vs) (hc : Fn P f vs.toArray w R)
    (h : ∀ v w', R v w' → NX N ds next (putE d v E) w') :
    W1 P r N ds next ⟨d, .call ⟨.value (.func f), args.toArray, ats⟩, ty, pos, af, g⟩ Q E w :=
  W1.enter hd (fun a hr => by
    have hm : Array.map a.eval args.toArray = vs.toArray := by simp [hr.evs ha]
    simp [execOp, resolve, hm, Act.eval, Deferred.ofValue, invoke, hf.run]) hc h
theorem WL.call {d : Option Nat} {f : FuncId} {args : List Operand} {ats : Array TypeId} {ty : TypeId} {pos : String} {af : Array Edge} {vs : List Value} {R : Value → World → Prop}
    [hf : CallOk P f] (hd : dOk d N = true) (ha : Env.evs E args = some vs) (hc : Fn P f vs.toArray w R)
    (h : ∀ v w', R v w' → WL P r N ds ol rest Q (putE d v E) w') :
    WL P r N ds ol (⟨d, .call ⟨.value (.func f), args.toArray, ats⟩, ty, pos, af, none⟩ :: rest) Q E w := WL.one (W1.call hd ha hc h)
/-- A call of a closure whose value is known. -/
theorem W1.callv {d : Option Nat} {x : Operand} {f : FuncId} {cap : List Value} {args : List Operand} {ats : Array TypeId} {ty : TypeId} {pos : String} {af : Array Edge} {g : Option (Nat × Bool)} {vs : List Value} {R : Value → World → Prop}
    [hf : CallOk P f] (hd : dOk d N = true) (hx : Env.ev E x = some (.func (.func f) #[] cap.toArray)) (ha : Env.evs E args = some vs) (hc : Fn P f (vs ++ cap).toArray w R)
    (h : ∀ v w', R v w' → NX N ds next (putE d v E) w') :
    W1 P r N ds next ⟨d, .call ⟨.value x, args.toArray, ats⟩, ty, pos, af, g⟩ Q E w :=
  W1.enter hd (fun a hr => by
    have hm : Array.map a.eval args.toArray = vs.toArray := by simp [hr.evs ha]
    simp [execOp, resolve, hm, hr.ev hx, Deferred.ofValue, invoke, hf.run]) hc h
end
end Go.Sx
namespace Go.Sx
open Go
section
variable {P : Program} {r : Option Nat} {N : Nat} {ds : List Deferred} {E : Env}

theorem cst (n : Nat) : (n : Int) = (n : Int) := rfl
theorem lit (n : Nat) : (@OfNat.ofNat Int n _) = ((@OfNat.ofNat Nat n _ : Nat) : Int) := rfl
theorem POp.of {op : Op} {ty : TypeId} {v v' : Value} (h : POp P N ds E op ty v) (e : v = v') : POp P N ds E op ty v' := e ▸ h

theorem POp.move {x : Operand} {ty : TypeId} {v : Value} (hx : Env.ev E x = some v) : POp P N ds E (.move x) ty v := fun a ha d pos af g w => by
  simp [execOp, ha.ev hx]
theorem POp.assign {x : Operand} {ty : TypeId} {v : Value} (hx : Env.ev E x = some v) : POp P N ds E (.assign x) ty v := fun a ha d pos af g w => by
  simp [execOp, ha.ev hx]
theorem POp.pick_t {c x y : Operand} {ty : TypeId} {v : Value} {b : Bool} (hc : Env.ev E c = some (.bool b)) (hb : b = true) (hx : Env.ev E x = some v) : POp P N ds E (.pick c x y) ty v := fun a ha d pos af g w => by
  subst hb; simp [execOp, ha.ev hc, ha.ev hx, asBool]
theorem POp.pick_f {c x y : Operand} {ty : TypeId} {v : Value} {b : Bool} (hc : Env.ev E c = some (.bool b)) (hb : b = false) (hx : Env.ev E y = some v) : POp P N ds E (.pick c x y) ty v := fun a ha d pos af g w => by
  subst hb; simp [execOp, ha.ev hc, ha.ev hx, asBool]

/- integers -/
theorem POp.bin {op : BinOp} {t t' ty : TypeId} {x y : Operand} {u v z : Value} (hx : Env.ev E x = some u) (hy : Env.ev E y = some v)
    (hg : ∀ w, (eqGuard op t x y u v).run P w = .ok () w) (h : ∀ w, (Go.binOp op t u v).run P w = .ok z w) : POp P N ds E (.binOp op t x y t') ty z := fun a ha d pos af g w => by
  simp [execOp, ha.ev hx, ha.ev hy, Sem.run_bind, hg, h]
theorem guard_int {op : BinOp} {t : TypeId} {x y : Operand} {k : IntKind} {n : Int} {v : Value} (w : World) : (eqGuard op t x y (.int k n) v).run P w = .ok () w := by
  rw [eqGuard_at_int]; rfl
theorem guard_str {op : BinOp} {t : TypeId} {x y : Operand} {s : ByteArray} {v : Value} (w : World) : (eqGuard op t x y (.string s) v).run P w = .ok () w := by
  rw [eqGuard_at_string]; rfl
theorem guard_bool {op : BinOp} {t : TypeId} {x y : Operand} {b : Bool} {v : Value} (w : World) : (eqGuard op t x y (.bool b) v).run P w = .ok () w := by
  rw [eqGuard_at_bool]; rfl

variable {t t' ty : TypeId} {x y : Operand} {k : IntKind} {m n : Int}
theorem POp.add (hx : Env.ev E x = some (.int .i64 m)) (hy : Env.ev E y = some (.int .i64 n)) (h1 : -9223372036854775808 ≤ m + n) (h2 : m + n ≤ 9223372036854775807) :
    POp P N ds E (.binOp .add t x y t') ty (.int .i64 (m + n)) := POp.bin hx hy guard_int fun w => by
  rw [binOp_add]; simp [Op.intArith, IntWalk.i64_in _ ⟨h1, h2⟩]
theorem POp.add' (hx : Env.ev E x = some (.int k m)) (hy : Env.ev E y = some (.int k n)) :
    POp P N ds E (.binOp .add t x y t') ty (.int k (k.wrap (m + n))) := POp.bin hx hy guard_int fun w => by
  rw [binOp_add]; simp [Op.intArith]
theorem POp.sub (hx : Env.ev E x = some (.int .i64 m)) (hy : Env.ev E y = some (.int .i64 n)) (h1 : -9223372036854775808 ≤ m - n) (h2 : m - n ≤ 9223372036854775807) :
    POp P N ds E (.binOp .sub t x y t') ty (.int .i64 (m - n)) := POp.bin hx hy guard_int fun w => by
  rw [binOp_sub]; simp [Op.intArith, IntWalk.i64_in _ ⟨h1, h2⟩]
theorem POp.sub' (hx : Env.ev E x = some (.int k m)) (hy : Env.ev E y = some (.int k n)) :
    POp P N ds E (.binOp .sub t x y t') ty (.int k (k.wrap (m - n))) := POp.bin hx hy guard_int fun w => by
  rw [binOp_sub]; simp [Op.intArith]
theorem POp.mul (hx : Env.ev E x = some (.int .i64 m)) (hy : Env.ev E y = some (.int .i64 n)) (h1 : -9223372036854775808 ≤ m * n) (h2 : m * n ≤ 9223372036854775807) :
    POp P N ds E (.binOp .mul t x y t') ty (.int .i64 (m * n)) := POp.bin hx hy guard_int fun w => by
  rw [binOp_mul]; simp [Op.intArith, IntWalk.i64_in _ ⟨h1, h2⟩]
theorem POp.mul' (hx : Env.ev E x = some (.int k m)) (hy : Env.ev E y = some (.int k n)) :
    POp P N ds E (.binOp .mul t x y t') ty (.int k (k.wrap (m * n))) := POp.bin hx hy guard_int fun w => by
  rw [binOp_mul]; simp [Op.intArith]
theorem POp.quo (hx : Env.ev E x = some (.int .i64 m)) (hy : Env.ev E y = some (.int .i64 n)) (h0 : 0 ≤ m) (h1 : m ≤ 9223372036854775807) (h2 : 0 < n) :
    POp P N ds E (.binOp .quo t x y t') ty (.int .i64 (m / n)) := POp.bin hx hy guard_int fun w => by
  have e : n ≠ 0 := by omega
  rw [binOp_quo]
  simp only [Op.intDiv, e, if_false]
  rw [wrap_i64_tdiv m n (by omega) (by omega) (by omega), Int.tdiv_eq_ediv_of_nonneg h0]; rfl
theorem POp.rem (hx : Env.ev E x = some (.int .i64 m)) (hy : Env.ev E y = some (.int .i64 n)) (h0 : 0 ≤ m) (h2 : 0 < n) :
    POp P N ds E (.binOp .rem t x y t') ty (.int .i64 (m % n)) := POp.bin hx hy guard_int fun w => by
  have e : n ≠ 0 := by omega
  rw [binOp_rem]
  simp only [Op.intDiv, e, if_false]
  rw [Int.tmod_eq_emod_of_nonneg h0]; rfl
theorem POp.lss (hx : Env.ev E x = some (.int k m)) (hy : Env.ev E y = some (.int k n)) :
    POp P N ds E (.binOp .lss t x y t') ty (.bool (decide (m < n))) := POp.bin hx hy guard_int fun w => by rw [binOp_lss]; rfl
theorem POp.leq (hx : Env.ev E x = some (.int k m)) (hy : Env.ev E y = some (.int k n)) :
    POp P N ds E (.binOp .leq t x y t') ty (.bool (decide (m ≤ n))) := POp.bin hx hy guard_int fun w => by rw [binOp_leq]; rfl
theorem POp.gtr (hx : Env.ev E x = some (.int k m)) (hy : Env.ev E y = some (.int k n)) :
    POp P N ds E (.binOp .gtr t x y t') ty (.bool (decide (n < m))) := POp.bin hx hy guard_int fun w => by rw [binOp_gtr]; rfl
theorem POp.geq (hx : Env.ev E x = some (.int k m)) (hy : Env.ev E y = some (.int k n)) :
    POp P N ds E (.binOp .geq t x y t') ty (.bool (decide (n ≤ m))) := POp.bin hx hy guard_int fun w => by rw [binOp_geq]; rfl
theorem POp.eql (hx : Env.ev E x = some (.int k m)) (hy : Env.ev E y = some (.int k n)) :
    POp P N ds E (.binOp .eql t x y t') ty (.bool (decide (m = n))) := POp.bin hx hy guard_int fun w => by rw [binOp_eql]; rfl
theorem POp.neq (hx : Env.ev E x = some (.int k m)) (hy : Env.ev E y = some (.int k n)) :
    POp P N ds E (.binOp .neq t x y t') ty (.bool (decide (¬ m = n))) := POp.bin hx hy guard_int fun w => by
  rw [binOp_neq]
  have : (m != n) = decide (¬ m = n) := by by_cases h : m = n <;> simp [h]
  rw [this]; rfl

theorem ofInt_toNat (a : Nat) (h : a < 2 ^ 64) : (BitVec.ofInt 64 (a : Int)).toNat = a := by
  simp; omega
theorem wrap_nat (a : Nat) (h : a < 9223372036854775808) : IntKind.i64.wrap (a : Int) = (a : Int) := IntWalk.i64_in _ (by omega)
theorem bits_and_nat (a b : Nat) (ha : a < 9223372036854775808) (hb : b < 9223372036854775808) : bits .and .i64 (a : Int) (b : Int) = ((a &&& b : Nat) : Int) := by
  show IntKind.i64.wrap (((BitVec.ofInt 64 a &&& BitVec.ofInt 64 b).toNat : Nat) : Int) = _
  rw [BitVec.toNat_and, ofInt_toNat a (by omega), ofInt_toNat b (by omega)]
  exact wrap_nat _ (Nat.lt_of_le_of_lt Nat.and_le_left ha)
theorem bits_or_nat (a b : Nat) (ha : a < 9223372036854775808) (hb : b < 9223372036854775808) : bits .or .i64 (a : Int) (b : Int) = ((a ||| b : Nat) : Int) := by
  show IntKind.i64.wrap (((BitVec.ofInt 64 a ||| BitVec.ofInt 64 b).toNat : Nat) : Int) = _
  rw [BitVec.toNat_or, ofInt_toNat a (by omega), ofInt_toNat b (by omega)]
  exact wrap_nat _ (Nat.or_lt_two_pow (n := 63) ha hb)
theorem bits_xor_nat (a b : Nat) (ha : a < 9223372036854775808) (hb : b < 9223372036854775808) : bits .xor .i64 (a : Int) (b : Int) = ((a ^^^ b : Nat) : Int) := by
  show IntKind.i64.wrap (((BitVec.ofInt 64 a ^^^ BitVec.ofInt 64 b).toNat : Nat) : Int) = _
  rw [BitVec.toNat_xor, ofInt_toNat a (by omega), ofInt_toNat b (by omega)]
  exact wrap_nat _ (Nat.xor_lt_two_pow (n := 63) ha hb)
variable {a b : Nat}
theorem POp.xor (hx : Env.ev E x = some (.int .i64 m)) (hy : Env.ev E y = some (.int .i64 n)) (em : m = (a : Int)) (en : n = (b : Int)) (h1 : a < 9223372036854775808) (h2 : b < 9223372036854775808) :
    POp P N ds E (.binOp .xor t x y t') ty (.int .i64 ((a ^^^ b : Nat) : Int)) := POp.bin hx hy guard_int fun w => by
  subst em; subst en
  rw [binOp_xor, intBits_xor, bits_xor_nat a b h1 h2]; rfl
theorem POp.and (hx : Env.ev E x = some (.int .i64 m)) (hy : Env.ev E y = some (.int .i64 n)) (em : m = (a : Int)) (en : n = (b : Int)) (h1 : a < 9223372036854775808) (h2 : b < 9223372036854775808) :
    POp P N ds E (.binOp .and t x y t') ty (.int .i64 ((a &&& b : Nat) : Int)) := POp.bin hx hy guard_int fun w => by
  subst em; subst en
  rw [binOp_and, intBits_and, bits_and_nat a b h1 h2]; rfl
theorem POp.or (hx : Env.ev E x = some (.int .i64 m)) (hy : Env.ev E y = some (.int .i64 n)) (em : m = (a : Int)) (en : n = (b : Int)) (h1 : a < 9223372036854775808) (h2 : b < 9223372036854775808) :
    POp P N ds E (.binOp .or t x y t') ty (.int .i64 ((a ||| b : Nat) : Int)) := POp.bin hx hy guard_int fun w => by
  subst em; subst en
  rw [binOp_or, intBits_or, bits_or_nat a b h1 h2]; rfl
theorem POp.shr {k' : IntKind} (hx : Env.ev E x = some (.int .i64 m)) (hy : Env.ev E y = some (.int k' n)) (em : m = (a : Int)) (en : n = (b : Int)) (h1 : b < 64) :
    POp P N ds E (.binOp .shr t x y t') ty (.int .i64 ((a >>> b : Nat) : Int)) := POp.bin hx hy guard_int fun w => by
  subst em; subst en
  rw [binOp_shr, shift_shr_i64 k' a b (by omega) (by omega), Nat.shiftRight_eq_div_pow]
  simp
theorem POp.shl {k' : IntKind} (hx : Env.ev E x = some (.int .i64 m)) (hy : Env.ev E y = some (.int k' n)) (em : m = (a : Int)) (en : n = (b : Int)) (h1 : b < 64) (h2 : a <<< b < 9223372036854775808) :
    POp P N ds E (.binOp .shl t x y t') ty (.int .i64 ((a <<< b : Nat) : Int)) := POp.bin hx hy guard_int fun w => by
  subst em; subst en
  have e : ((a : Int) * 2 ^ ((b : Int).toNat)) = ((a <<< b : Nat) : Int) := by rw [Nat.shiftLeft_eq]; simp
  rw [binOp_shl, shift_shl_i64 k' a b (by omega) (by omega), e, wrap_nat _ h2]; rfl
theorem POp.xor' (hx : Env.ev E x = some (.int k m)) (hy : Env.ev E y = some (.int k n)) :
    POp P N ds E (.binOp .xor t x y t') ty (.int k (bits .xor k m n)) := POp.bin hx hy guard_int fun w => by rw [binOp_xor, intBits_xor]; rfl
theorem POp.not_d {p : Prop} {_ : Decidable p} (hx : Env.ev E x = some (.bool (decide p))) : POp P N ds E (.unOp .not t x) ty (.bool (decide (¬ p))) := fun a ha d pos af g w => by
  simp [execOp, ha.ev hx, Op.unary]
theorem POp.not_b {b : Bool} (hx : Env.ev E x = some (.bool b)) : POp P N ds E (.unOp .not t x) ty (.bool (!b)) := fun a ha d pos af g w => by
  simp [execOp, ha.ev hx, Op.unary]
theorem POp.neg (hx : Env.ev E x = some (.int .i64 n)) (h : -9223372036854775808 < n) (h' : n ≤ 9223372036854775807) : POp P N ds E (.unOp .neg t x) ty (.int .i64 (-n)) := fun a ha d pos af g w => by
  simp only [execOp, ha.ev hx, Op.unary, Op.intArith]
  rw [IntWalk.i64_in _ (by omega), Int.zero_sub]; rfl

theorem POp.conv {src dst : TypeId} {k k' : IntKind} {d' : TypeDesc} [hs : UTy P src d'] [hd : UTy P dst (.int k')] (hx : Env.ev E x = some (.int k n)) :
    POp P N ds E (.convert src dst x) ty (.int k' (k'.wrap n)) := fun a ha d pos af g w => by
  simp [execOp, ha.ev hx, convert, run_underlying hs.is, run_underlying hd.is, Conv.intToInt]
theorem wrap_id_u8_i64 {n : Int} (h0 : 0 ≤ n) (h : n ≤ 9223372036854775807) : IntKind.i64.wrap n = n := IntWalk.i64_in _ (by omega)
theorem POp.conv_i64 {src dst : TypeId} {k : IntKind} {d' : TypeDesc} [hs : UTy P src d'] [hd : UTy P dst (.int .i64)] (hx : Env.ev E x = some (.int k n)) (h1 : -9223372036854775808 ≤ n) (h : n ≤ 9223372036854775807) :
    POp P N ds E (.convert src dst x) ty (.int .i64 n) := (POp.conv hx).of (by rw [IntWalk.i64_in _ (by omega)])
theorem wrap_u8 {n : Int} (h0 : 0 ≤ n) (h : n < 256) : IntKind.u8.wrap n = n := by
  simp [IntKind.wrap, IntKind.bits, IntKind.signed]; omega
theorem POp.conv_u8 {src dst : TypeId} {k : IntKind} {d' : TypeDesc} [hs : UTy P src d'] [hd : UTy P dst (.int .u8)] (hx : Env.ev E x = some (.int k n)) (h1 : 0 ≤ n) (h : n < 256) :
    POp P N ds E (.convert src dst x) ty (.int .u8 n) := (POp.conv hx).of (by rw [wrap_u8 h1 h])

theorem bits_xor_u8 (a b : Nat) (ha : a < 256) (hb : b < 256) : bits .xor .u8 (a : Int) (b : Int) = ((a ^^^ b : Nat) : Int) := by
  show IntKind.u8.wrap (((BitVec.ofInt 8 a ^^^ BitVec.ofInt 8 b).toNat : Nat) : Int) = _
  have h1 : (BitVec.ofInt 8 (a : Int)).toNat = a := by simp; omega
  have h2 : (BitVec.ofInt 8 (b : Int)).toNat = b := by simp; omega
  have h3 : a ^^^ b < 256 := Nat.xor_lt_two_pow (n := 8) ha hb
  rw [BitVec.toNat_xor, h1, h2]
  exact wrap_u8 (by omega) (by omega)
theorem POp.xor8 (hx : Env.ev E x = some (.int .u8 m)) (hy : Env.ev E y = some (.int .u8 n)) (em : m = (a : Int)) (en : n = (b : Int)) (h1 : a < 256) (h2 : b < 256) :
    POp P N ds E (.binOp .xor t x y t') ty (.int .u8 ((a ^^^ b : Nat) : Int)) := POp.bin hx hy guard_int fun w => by
  subst em; subst en
  rw [binOp_xor, intBits_xor, bits_xor_u8 a b h1 h2]; rfl
theorem POp.len_slice {e : TypeId} {a : Option Addr} {l c : Nat} [h : UTy P t (.slice e)] (hx : Env.ev E x = some (.slice a l c)) :
    POp P N ds E (.call ⟨.builtin .len, #[x], #[t]⟩) ty (.int .i64 l) := fun b hb d pos af g w => by
  simp [execOp, hb.ev hx, resolve, invoke, Go.builtin, Builtin.len_, run_underlying h.is, goInt]
theorem POp.len_string {s : ByteArray} [h : UTy P t .string] (hx : Env.ev E x = some (.string s)) :
    POp P N ds E (.call ⟨.builtin .len, #[x], #[t]⟩) ty (.int .i64 s.size) := fun b hb d pos af g w => by
  simp [execOp, hb.ev hx, resolve, invoke, Go.builtin, Builtin.len_, run_underlying h.is, goInt]
theorem POp.min_int {ts : Array TypeId} (hx : Env.ev E x = some (.int k m)) (hy : Env.ev E y = some (.int k n)) :
    POp P N ds E (.call ⟨.builtin .min, #[x, y], ts⟩) ty (.int k (min m n)) := fun b hb d pos af g w => by
  have : (if n < m then n else m) = min m n := by omega
  simp [execOp, hb.ev hx, hb.ev hy, resolve, invoke, Go.builtin, Builtin.min_, Builtin.min2, this]
theorem POp.max_int {ts : Array TypeId} (hx : Env.ev E x = some (.int k m)) (hy : Env.ev E y = some (.int k n)) :
    POp P N ds E (.call ⟨.builtin .max, #[x, y], ts⟩) ty (.int k (max m n)) := fun b hb d pos af g w => by
  simp [execOp, hb.ev hx, hb.ev hy, resolve, invoke, Go.builtin, Builtin.max_, Builtin.max2]
  omega
theorem POp.extract {i : Nat} {vs : List Value} {v : Value} (hx : Env.ev E x = some (.tuple vs.toArray)) (hv : vs[i]? = some v) :
    POp P N ds E (.extract x i) ty v := fun b hb d pos af g w => by
  simp [execOp, hb.ev hx, Instr.extract, hv]
theorem POp.nilCheck {a : Addr} (hx : Env.ev E x = some (.pointer (some a))) : POp P N ds E (.nilCheck x) ty (.pointer (some a)) := fun b hb d pos af g w => by
  simp [execOp, hb.ev hx]
theorem POp.makeFunc {fn : Go.Fn} {first captured : List Operand} {v1 v2 : List Value} (h1 : Env.evs E first = some v1) (h2 : Env.evs E captured = some v2) :
    POp P N ds E (.makeFunc fn first.toArray captured.toArray) ty (.func fn v1.toArray v2.toArray) := fun b hb d pos af g w => by
  simp [execOp, Instr.makeFunc, hb.evs h1, hb.evs h2]
end
end Go.Sx
namespace Go.Sx
open Go Go.RowKit

/-- Whatever lay there lies as it lay; there may be more. -/
abbrev Ext (w w' : World) : Prop := Below w.heap.size w w'
theorem Ext.refl (w : World) : Ext w w := Below.refl _ w
theorem Ext.trans {a b c : World} (h : Ext a b) (k : Ext b c) : Ext a c := Below.trans h (k.mono h.size)
theorem Ext.drew (w : World) : Ext w w.drew := (Below.refl _ w).drew
theorem Ext.alloc (w : World) (o : Obj) : Ext w (w.alloc o) := (Below.refl _ w).alloc (Nat.le_refl _) o

/-- A block of cells that nothing shares bytes with. -/
def Blk (w : World) (b : Nat) (cs : List Value) (e : TypeId) : Prop := w.heap[b]? = some (.cells cs.toArray e (0, 0))
theorem Blk.lt {w : World} {b : Nat} {cs : List Value} {e : TypeId} (h : Blk w b cs e) : b < w.heap.size := (Array.getElem?_eq_some_iff.1 h).1
theorem Blk.ext {w w' : World} {b : Nat} {cs : List Value} {e : TypeId} (h : Blk w b cs e) (k : Ext w w') : Blk w' b cs e := (k.block b h.lt).trans h
theorem Blk.below {w w' : World} {b n : Nat} {cs : List Value} {e : TypeId} (h : Blk w b cs e) (k : Below n w w') (hb : b < n) : Blk w' b cs e := (k.block b hb).trans h
theorem Blk.cell {w : World} {b : Nat} {cs : List Value} {e : TypeId} (h : Blk w b cs e) {i : Nat} {v : Value} (hi : cs[i]? = some v) : w.cell? ⟨b, i, none⟩ = some v := by
  unfold Blk at h
  simp [World.cell?, h, hi]
theorem Blk.free {w : World} {b : Nat} {cs : List Value} {e : TypeId} (h : Blk w b cs e) (i : Nat) : w.frozen? ⟨b, i, none⟩ = false := by
  unfold Blk at h
  simp [World.frozen?, h]
theorem Blk.new (w : World) (cs : List Value) (e : TypeId) : Blk (w.alloc (.cells cs.toArray e)) w.heap.size cs e := by
  show (w.heap.push (.cells cs.toArray e))[w.heap.size]? = _
  simp
theorem Blk.set {w : World} {b : Nat} {cs : List Value} {e : TypeId} (h : Blk w b cs e) (i : Nat) (v : Value) : Blk (w.setCell ⟨b, i, none⟩ v) b (cs.set i v) e := by
  unfold Blk at *
  simp only [World.setCell, Array.getElem?_modify, if_true, h, Option.map_some]
  simp
theorem Blk.other {w : World} {b b' : Nat} {cs : List Value} {e : TypeId} (h : Blk w b cs e) (hne : b ≠ b') (i : Nat) (v : Value) : Blk (w.setCell ⟨b', i, none⟩ v) b cs e := by
  unfold Blk at *
  rw [Below.heap_setCell _ _ _ _ hne]; exact h
theorem Blk.alloc {w : World} {b : Nat} {cs : List Value} {e : TypeId} (h : Blk w b cs e) (o : Obj) : Blk (w.alloc o) b cs e := h.ext (Ext.alloc w o)
theorem Blk.drew {w : World} {b : Nat} {cs : List Value} {e : TypeId} (h : Blk w b cs e) : Blk w.drew b cs e := h

theorem cell_ext {w w' : World} (k : Ext w w') {a : Addr} {v : Value} (h : w.cell? a = some v) : w'.cell? a = some v := by
  have hb : a.block < w.heap.size := by
    unfold World.cell? at h
    split at h
    · rename_i hc; exact (Array.getElem?_eq_some_iff.1 hc).1
    · cases h
  rw [k.cell hb]; exact h

section
variable {P : Program} {r : Option Nat} {N : Nat} {ds : List Deferred} {ol rest : List Oper} {Q : Post} {E : Env} {w : World} {next : Act → World → Prop} {g : Option (Nat × Bool)}
variable {d : Nat} {t t' ty : TypeId} {pos : String} {af : Array Edge} {x y : Operand} {k : IntKind} {m n : Int}

theorem run_isAgg {b : Bool} [h : ATy P t b] : (isAgg t).run P w = .ok b w := by
  have h1 := h.is
  simp only [Prod.mk.injEq] at h1
  obtain ⟨h1, h2⟩ := h1
  obtain ⟨d, hd⟩ := Option.isSome_iff_exists.1 h1
  simp only [isAgg, Sem.run_bind, run_underlying hd]
  simp only [isAggB, hd] at h2
  cases d <;> simp_all <;> rfl
theorem run_sizeOf {z : Value} {n b : Nat} [h : ITy P t z n b] : (sizeOf t).run P w = .ok n w := by
  obtain ⟨i, hi, h1, h2, h3⟩ := h.parts
  simp [sizeOf, typeInfo, hi, h2]
theorem run_zeroValue {z : Value} {n b : Nat} [h : ITy P t z n b] : (zeroValue t).run P w = .ok z w := by
  obtain ⟨i, hi, h1, h2, h3⟩ := h.parts
  simp [zeroValue, typeInfo, hi, h1]
theorem run_bytes {z : Value} {n b : Nat} [h : ITy P t z n b] {α : Type} {f : Nat → Sem α} : (do let i ← typeInfo t; f i.bytes).run P w = (f b).run P w := by
  obtain ⟨i, hi, h1, h2, h3⟩ := h.parts
  simp [typeInfo, hi, h3, Sem.run_bind]

/- loads -/
theorem W1.load {a : Addr} {v : Value} [ha : ATy P t false] (hx : Env.ev E x = some (.pointer (some a))) (hc : w.cell? a = some v) (hd : Nat.blt d N = true)
    (h : NX N ds next ((d, v) :: E) w) : W1 P r N ds next ⟨some d, .load t x, ty, pos, af, g⟩ Q E w :=
  W1.run (fun b hb => by
    simp only [execOp, hb.ev hx, Instr.loadAt, Instr.sureAddr, loadVar, Sem.run_bind, Sem.run_pure]
    simp [run_isAgg, hc]) rfl hd h

theorem run_loadCellsFrom (P : Program) (w : World) (b off : Nat) (vs : List Value) (hc : ∀ i v, vs[i]? = some v → w.cell? ⟨b, off + i, none⟩ = some v) :
    ∀ (n i : Nat) (acc : Array Value), i + n = vs.length → (loadCellsFrom ⟨b, off, none⟩ i n acc).run P w = .ok (acc ++ (vs.drop i).toArray) w
  | 0, i, acc, h => by
    have : vs.drop i = [] := List.drop_eq_nil_of_le (by omega)
    simp [loadCellsFrom, this]
  | n + 1, i, acc, h => by
    have hi : i < vs.length := by omega
    have hv := hc i vs[i] (by simp [hi])
    have ha : Addr.add ⟨b, off, none⟩ i = ⟨b, off + i, none⟩ := by
      unfold Addr.add; split
      · rename_i h0; subst h0; rfl
      · rfl
    simp only [loadCellsFrom, Sem.run_bind]
    have : (load (Addr.add ⟨b, off, none⟩ i)).run P w = .ok vs[i] w := by simp [load, Sem.run, ha, hv]
    rw [this]
    simp only [Result.andThen]
    rw [run_loadCellsFrom P w b off vs hc n (i + 1) (acc.push vs[i]) (by omega)]
    rw [List.drop_eq_getElem_cons hi]
    simp
/-- A struct or an array, whole. -/
theorem W1.loadAgg {b off : Nat} {vs : List Value} {z : Value} {n bb : Nat} [ha : ATy P t true] [hi : ITy P t z n bb] (hx : Env.ev E x = some (.pointer (some ⟨b, off, none⟩)))
    (hn : vs.length = n) (hc : ∀ i v, vs[i]? = some v → w.cell? ⟨b, off + i, none⟩ = some v) (hd : Nat.blt d N = true)
    (h : NX N ds next ((d, .agg vs.toArray) :: E) w) : W1 P r N ds next ⟨some d, .load t x, ty, pos, af, g⟩ Q E w :=
  W1.run (fun b' hb => by
    simp only [execOp, hb.ev hx, Instr.loadAt, Instr.sureAddr, loadVar, Sem.run_bind, Sem.run_pure]
    simp [run_isAgg, run_sizeOf, loadCells, run_loadCellsFrom P w b off vs hc n 0 #[] (by omega), Result.andThen, Sem.run_bind]) rfl hd h

theorem WL.load {a : Addr} {v : Value} [ha : ATy P t false] (hx : Env.ev E x = some (.pointer (some a))) (hc : w.cell? a = some v) (hd : Nat.blt d N = true)
    (h : WL P r N ds ol rest Q ((d, v) :: E) w) : WL P r N ds ol (⟨some d, .load t x, ty, pos, af, none⟩ :: rest) Q E w := WL.one (W1.load hx hc hd h)
/- stores -/
theorem W1.store {a : Addr} {u v : Value} {z : Value} {bb : Nat} [hi : ITy P t z 1 bb] (hx : Env.ev E x = some (.pointer (some a))) (hy : Env.ev E y = some v)
    (ha' : ∀ vs, v ≠ .agg vs) (ht : ∀ vs, v ≠ .tuple vs) (hc : w.cell? a = some u) (hf : w.frozen? a = false) 
    (h : NX N ds next E (w.setCell a v)) : W1 P r N ds next ⟨none, .store t x y, ty, pos, af, g⟩ Q E w :=
  W1.skip (fun b hb => by
    have hst : (Go.store a v).run P w = .ok () (w.setCell a v) := by
      cases v with
      | agg cs => exact absurd rfl (ha' cs)
      | tuple vs => exact absurd rfl (ht vs)
      | _ => simp [Go.store, Sem.run, hc, hf]
    have ha : Addr.add a 0 = a := by simp [Addr.add]
    have hv : v.cells = #[v] := by cases v <;> first | rfl | exact absurd rfl (ha' _)
    simp only [execOp, hb.ev hx, hb.ev hy, Instr.storeAt, Instr.sureAddr, storeVar, Sem.run_bind, Sem.run_pure, Result.andThen]
    simp [run_sizeOf, hv, storeCells, ha, hst]) rfl rfl h

/- new blocks -/
theorem W1.alloc {z : Value} {n bb : Nat} [hi : ITy P t z n bb] (hd : Nat.blt d N = true)
    (h : NX N ds next ((d, .pointer (some ⟨w.heap.size, 0, none⟩)) :: E) (w.alloc (.cells z.cells t))) : W1 P r N ds next ⟨some d, .alloc t, ty, pos, af, g⟩ Q E w :=
  W1.run (fun b hb => by
    simp [execOp, Instr.alloc, Sem.run_bind, run_zeroValue, newVar, newRow]) rfl hd h
theorem W1.box {v : Value} (hx : Env.ev E x = some v) (hd : Nat.blt d N = true)
    (h : NX N ds next ((d, .pointer (some ⟨w.heap.size, 0, none⟩)) :: E) (w.alloc (.cells v.cells t))) : W1 P r N ds next ⟨some d, .box t x, ty, pos, af, g⟩ Q E w :=
  W1.run (fun b hb => by
    simp [execOp, Instr.box, hb.ev hx, newVar, newRow]) rfl hd h

/- places -/
theorem add_lit (b off n : Nat) : Addr.add ⟨b, off, none⟩ n = ⟨b, off + n, none⟩ := by
  unfold Addr.add; split
  · rename_i h0; subst h0; rfl
  · rfl
theorem POp.index_slice {e : TypeId} {b off l c : Nat} {z : Value} {sz bb : Nat} [h : UTy P t (.slice e)] [hi : ITy P e z sz bb] (hx : Env.ev E x = some (.slice (some ⟨b, off, none⟩) l c)) (hy : Env.ev E y = some (.int k n))
    (h0 : 0 ≤ n) (h1 : n < l) {o : Nat} (ho : off + n.toNat * sz = o) : POp P N ds E (.indexAddr t x y) ty (.pointer (some ⟨b, o, none⟩)) := fun a ha d pos af g w => by
  subst ho
  have h2 : 0 ≤ n ∧ n < (l : Int) := ⟨h0, h1⟩
  simp [execOp, ha.ev hx, ha.ev hy, Instr.indexAt, asIntOf, run_underlying h.is, Sem.run_bind, h2, run_sizeOf, add_lit]
theorem POp.index_array {e : TypeId} {len b off : Nat} {z : Value} {sz bb : Nat} [h : UTy P t (.array len e)] [hi : ITy P e z sz bb] (hx : Env.ev E x = some (.pointer (some ⟨b, off, none⟩))) (hy : Env.ev E y = some (.int k n))
    (h0 : 0 ≤ n) (h1 : n < len) {o : Nat} (ho : off + n.toNat * sz = o) : POp P N ds E (.indexAddr t x y) ty (.pointer (some ⟨b, o, none⟩)) := fun a ha d pos af g w => by
  subst ho
  have h2 : 0 ≤ n ∧ n < (len : Int) := ⟨h0, h1⟩
  simp [execOp, ha.ev hx, ha.ev hy, Instr.indexAt, Instr.sureAddr, asIntOf, run_underlying h.is, Sem.run_bind, h2, run_sizeOf, add_lit]
end
end Go.Sx

