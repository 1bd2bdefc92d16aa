/-
  A small layer over the kit's fenced walk: the temporaries of a frame as an association list, one lemma an operation.
  Nothing here is about one program.
-/
import Derived.RangeFuncNested
import Derived.Sort.LoopGhostIn
import Derived.RangeFuncCalls
import Derived.RangeFuncLeaves
import Derived.OrdersIn
import Derived.TacticsIn
import Derived.DefersIn
import Derived.Below
import Derived.KernelRfl
import Derived.WalkKit
import Derived.IntWalk
import Derived.Sort.QuietThIn
import Derived.Laws.IdiomStrings
import Derived.Laws.Small
import Derived.WideShapes
import Derived.RangeFuncRecord
import Derived.Laws.AppendOwn
namespace Go.Sx
open Go

abbrev Env := List (Nat × Value)
abbrev Post := Exit → Act → World → Prop

def Env.g : Env → Nat → Option Value
  | [], _ => none
  | (k, v) :: E, t => cond (Nat.beq k t) (some v) (Env.g E t)

def Env.ev (E : Env) : Operand → Option Value
  | .tmp t => Env.g E t
  | .const v => some v
  | .global g => some (.pointer (some ⟨g, 0, none⟩))
  | .func f => some (.func (.func f) #[] #[])

def Env.evs (E : Env) : List Operand → Option (List Value)
  | [] => some []
  | x :: l => match Env.ev E x, Env.evs E l with
    | some v, some vs => some (v :: vs)
    | _, _ => none

theorem beq_ne {k t : Nat} (e : k ≠ t) : Nat.beq k t = false := by
  cases h : Nat.beq k t with
  | false => rfl
  | true => exact absurd (Nat.eq_of_beq_eq_true h) e
theorem beq_same (k : Nat) : Nat.beq k k = true := Nat.beq_refl k

structure Rep (N : Nat) (ds : List Deferred) (E : Env) (a : Act) : Prop where
  size : a.tmps.size = N
  defers : a.defers = ds
  get : ∀ t v, Env.g E t = some v → a.tmps[t]? = some v

theorem Rep.ev {N : Nat} {ds : List Deferred} {E : Env} {a : Act} (h : Rep N ds E a) {x : Operand} {v : Value} (hx : Env.ev E x = some v) : a.eval x = v := by
  cases x with
  | tmp t => simp only [Env.ev] at hx; simp [Act.eval, Array.getD_eq_getD_getElem?, h.get t v hx]
  | const c => simpa [Env.ev, Act.eval] using hx
  | func f => simpa [Env.ev, Act.eval] using hx
  | _ => simpa [Env.ev, Act.eval] using hx

theorem Rep.evs {N : Nat} {ds : List Deferred} {E : Env} {a : Act} (h : Rep N ds E a) {l : List Operand} {vs : List Value} (hx : Env.evs E l = some vs) : l.map a.eval = vs := by
  induction l generalizing vs with
  | nil => simpa [Env.evs] using hx
  | cons x l ih =>
    simp only [Env.evs] at hx
    split at hx
    · rename_i v us hv hus
      cases hx
      simp [h.ev hv, ih hus]
    · cases hx

theorem Rep.put {N : Nat} {ds : List Deferred} {E : Env} {a : Act} (h : Rep N ds E a) {d : Nat} (hd : Nat.blt d N = true) (v : Value) : Rep N ds ((d, v) :: E) (a.put (some d) v) := by
  have hd' : d < N := by simpa [Nat.blt_eq] using hd
  refine ⟨by simp [Act.put, h.size], by simp [Act.put, h.defers], fun t u ht => ?_⟩
  simp only [Env.g] at ht
  simp only [Act.put, Array.getElem?_setIfInBounds]
  by_cases e : d = t
  · subst e
    simp only [beq_same, cond_true] at ht
    have hs := h.size
    simp [hs, hd', ht]
  · have : Nat.beq d t = false := beq_ne e
    rw [this] at ht
    simp only [cond_false] at ht
    simp [e, h.get t u ht]

/-- A smaller list says less. -/
def Env.sub (E : Env) : Env → Prop
  | [] => True
  | (t, v) :: E' => Env.g E t = some v ∧ Env.sub E E'

theorem Env.sub_g {E E' : Env} (h : Env.sub E E') {t : Nat} {v : Value} (hg : Env.g E' t = some v) : Env.g E t = some v := by
  induction E' with
  | nil => simp [Env.g] at hg
  | cons p E' ih =>
    obtain ⟨k, u⟩ := p
    simp only [Env.g] at hg
    obtain ⟨h1, h2⟩ := h
    by_cases e : k = t
    · subst e; simp only [beq_same, cond_true, Option.some.injEq] at hg; rw [← hg]; exact h1
    · have : Nat.beq k t = false := beq_ne e
      rw [this] at hg
      exact ih h2 hg

theorem Rep.sub {N : Nat} {ds : List Deferred} {E E' : Env} {a : Act} (h : Rep N ds E a) (hs : Env.sub E E') : Rep N ds E' a :=
  ⟨h.size, h.defers, fun t v hg => h.get t v (Env.sub_g hs hg)⟩

/-- The fence that shuts nothing out, in round r. -/
def FW (r : Option Nat) : Fence := { fn := fun _ => True, depth := none, alive := false, round := r }
theorem FW_room (r : Option Nat) (n : Nat) : (FW r).room n := fun _ h => by simp [FW] at h

section
variable (P : Program) (r : Option Nat) (N : Nat) (ds : List Deferred)

def WC (c : Code) (Q : Post) (E : Env) (w : World) : Prop := ∀ a, Rep N ds E a → c.wpIn (FW r) 0 P Q a w
def WL (ol : List Oper) (l : List Oper) (Q : Post) (E : Env) (w : World) : Prop := ∀ a, Rep N ds E a → wpListIn (FW r) 0 P ol.toArray Q l a w
def WX (e : Exit) (Q : Post) (E : Env) (w : World) : Prop := ∀ a, Rep N ds E a → Q e a w
/-- What is asked behind a first piece of code. -/
def Then (y : Code) (Q : Post) : Post := Exit.then (y.wpIn (FW r) 0 P Q) Q
/-- What is asked of a round of a loop. -/
def Again (I : Act → World → Prop) (Q : Post) : Post := Exit.then I Q
def POp (E : Env) (op : Op) (ty : TypeId) (v : Value) : Prop :=
  ∀ a, Rep N ds E a → ∀ d pos af g w, (execOp a.eval ⟨d, op, ty, pos, af, g⟩).run P w = .ok (.value v) w
end

def isDefer : Op → Bool
  | .defer _ => true
  | _ => false

theorem semAt_of {r : Option Nat} {ρ : Operand → Value} {o : Oper} (h : isDefer o.op = false) : Oper.semAt r ρ o = execOp ρ o := by
  unfold Oper.semAt
  cases r with
  | none => rfl
  | some l => cases ho : o.op <;> first | rfl | (rw [ho] at h; cases h)

section
variable {P : Program} {r : Option Nat} {N : Nat} {ds : List Deferred} {ol rest : List Oper} {Q : Post} {E : Env} {w : World}

theorem WC.sub {c : Code} (E' : Env) (h : WC P r N ds c Q E' w) (hs : Env.sub E E') : WC P r N ds c Q E w := fun a ha => h a (ha.sub hs)

theorem WC.skip (h : WX N ds .normal Q E w) : WC P r N ds .skip Q E w := fun a ha => wpIn_skip (h a ha)
theorem WC.seq {x y : Code} (h : WC P r N ds x (Then P r y Q) E w) : WC P r N ds (.seq x y) Q E w := fun a ha => wpIn_seq (h a ha)
theorem WC.block {id : Nat} {c : Code} (h : WC P r N ds c (Exit.inBlock id Q) E w) : WC P r N ds (.block id c) Q E w := fun a ha => wpIn_block (h a ha)
theorem WC.exit {id : Nat} (h : WX N ds (.exit id) Q E w) : WC P r N ds (.exit id) Q E w := fun a ha => wpIn_exit (h a ha)
theorem WC.ret (h : WX N ds .ret Q E w) : WC P r N ds .ret Q E w := fun a ha => wpIn_ret (h a ha)
theorem WC.region {id : Nat} {l : List Oper} (h : WL P r N ds l l Q E w) : WC P r N ds (.region id l.toArray false) Q E w := fun a ha => wpIn_region_lit (h a ha)
theorem WC.cond_b {c : Operand} {x y : Code} {b : Bool} (hc : Env.ev E c = some (.bool b)) (h1 : b = true → WC P r N ds x Q E w) (h2 : b = false → WC P r N ds y Q E w) :
    WC P r N ds (.cond c x y) Q E w := fun a ha => wpIn_cond_split (ha.ev hc) (fun e => h1 e a ha) (fun e => h2 e a ha)

/-- A loop: at the head of a round the temporaries read as 'Ex x', for some x with 'I x w'. -/
theorem WC.loop {α : Type} {c : Code} (Ex : α → Env) (I : α → World → Prop) (μ : α → Nat) (x0 : α) (hs : Env.sub E (Ex x0)) (h0 : I x0 w)
    (round : ∀ x w, I x w → WC P r N ds c (Again (fun a' w' => ∃ x', I x' w' ∧ μ x' < μ x ∧ Rep N ds (Ex x') a') Q) (Ex x) w) :
    WC P r N ds (.loop c) Q E w := by
  intro a ha
  refine wpIn_loop_ghost (fun n a w => ∃ x, μ x = n ∧ I x w ∧ Rep N ds (Ex x) a) (μ x0) ⟨x0, rfl, h0, ha.sub hs⟩ ?_
  rintro n a w ⟨x, rfl, hI, hr⟩
  refine wpIn_mono (round x w hI a hr) ?_
  intro e a' w' hq
  cases e with
  | normal => obtain ⟨x', h1, h2, h3⟩ := hq; exact ⟨μ x', h2, x', rfl, h1, h3⟩
  | exit id => exact hq
  | goto l => exact hq
  | ret => exact hq
  | panic ch => exact hq
  | outgrown => exact hq

/-- The end of a round. -/
theorem WX.again {α : Type} {Ex : α → Env} {I : α → World → Prop} {m : Nat} {μ : α → Nat} (x' : α) (h1 : I x' w) (h2 : μ x' < m) (h3 : Env.sub E (Ex x')) :
    WX N ds .normal (Again (fun a' w' => ∃ x', I x' w' ∧ μ x' < m ∧ Rep N ds (Ex x') a') Q) E w := fun _ ha => ⟨x', h1, h2, ha.sub h3⟩


-- where the ways of leaving go
theorem WX.n_then {y : Code} (h : WC P r N ds y Q E w) : WX N ds .normal (Then P r y Q) E w := h
theorem WX.e_then {y : Code} {id : Nat} (h : WX N ds (.exit id) Q E w) : WX N ds (.exit id) (Then P r y Q) E w := h
theorem WX.r_then {y : Code} (h : WX N ds .ret Q E w) : WX N ds .ret (Then P r y Q) E w := h
theorem WX.e_again {I : Act → World → Prop} {id : Nat} (h : WX N ds (.exit id) Q E w) : WX N ds (.exit id) (Again I Q) E w := h
theorem WX.r_again {I : Act → World → Prop} (h : WX N ds .ret Q E w) : WX N ds .ret (Again I Q) E w := h
theorem WX.n_block {id : Nat} (h : WX N ds .normal Q E w) : WX N ds .normal (Exit.inBlock id Q) E w := h
theorem WX.r_block {id : Nat} (h : WX N ds .ret Q E w) : WX N ds .ret (Exit.inBlock id Q) E w := h
theorem WX.e_block {id : Nat} (h : WX N ds .normal Q E w) : WX N ds (.exit id) (Exit.inBlock id Q) E w := fun a ha => by simp only [Exit.inBlock, if_true]; exact h a ha
theorem WX.e_other {id id' : Nat} (hne : Nat.beq id' id = false) (h : WX N ds (.exit id') Q E w) : WX N ds (.exit id') (Exit.inBlock id Q) E w := fun a ha => by
  have : id' ≠ id := fun e => by subst e; rw [beq_same] at hne; cases hne
  simp only [Exit.inBlock, this, if_false]; exact h a ha

/-- A call that returns. -/
def Fn (P : Program) (f : FuncId) (args : Array Value) (w : World) (R : Value → World → Prop) : Prop :=
  Calls P f args w fun e w' => ∃ v, e = .returned v ∧ R v w'
def RetP (R : Value → World → Prop) (e : Ending) (w' : World) : Prop := ∃ v, e = .returned v ∧ R v w'
theorem Fn.mono {f : FuncId} {args : Array Value} {R R' : Value → World → Prop} (h : Fn P f args w R) (hr : ∀ v w', R v w' → R' v w') : Fn P f args w R' :=
  Calls.mono h fun _ _ ⟨v, he, hv⟩ => ⟨v, he, hr v _ hv⟩

class CallOk (P : Program) (f : FuncId) : Prop where
  run : ∀ args w, (callFunc f args).run P w = .ok (.enter f args) w
class FnIs (P : Program) (f : FuncId) (fn : outParam Func) : Prop where
  is : P.funcs[f]? = some fn
/-- What the type is underneath; its zero value, cells and bytes. -/
class UTy (P : Program) (t : TypeId) (d : outParam TypeDesc) : Prop where
  is : P.underlying t = some d
class ITy (P : Program) (t : TypeId) (z : outParam Value) (n : outParam Nat) (b : outParam Nat) : Prop where
  is : (P.info? t).map (fun i => (i.zero, i.size, i.bytes)) = some (some z, n, b)
/-- Is it a struct or an array? -/
def isAggB (P : Program) (t : TypeId) : Bool := match P.underlying t with | some (.struct _) | some (.array _ _) => true | _ => false
class ATy (P : Program) (t : TypeId) (b : outParam Bool) : Prop where
  is : ((P.underlying t).isSome, isAggB P t) = (true, b)
/-- A field's place and type. -/
def fieldOf (P : Program) (s : TypeId) (f : Nat) : Option (Nat × TypeId) := match P.underlying s with | some (.struct fs) => (fs[f]?).map fun x => (x.offset, x.type) | _ => none
class FTy (P : Program) (s : TypeId) (f : Nat) (off : outParam Nat) (t : outParam TypeId) : Prop where
  is : fieldOf P s f = some (off, t)
theorem ITy.parts {P : Program} {t : TypeId} {z : Value} {n b : Nat} (h : ITy P t z n b) : ∃ i, P.info? t = some i ∧ i.zero = some z ∧ i.size = n ∧ i.bytes = b := by
  have := h.is
  cases hi : P.info? t with
  | none => rw [hi] at this; cases this
  | some i =>
    rw [hi] at this
    simp only [Option.map_some, Option.some.injEq, Prod.mk.injEq] at this
    exact ⟨i, rfl, this.1, this.2.1, this.2.2⟩

def Env.of (i : Nat) : List Value → Env
  | [] => []
  | v :: l => (i, v) :: Env.of (i + 1) l
theorem Env.of_g (l : List Value) : ∀ (i t : Nat) (v : Value), Env.g (Env.of i l) t = some v → i ≤ t ∧ l[t - i]? = some v := by
  induction l with
  | nil => intro i t v h; simp [Env.of, Env.g] at h
  | cons x l ih =>
    intro i t v h
    simp only [Env.of, Env.g] at h
    by_cases e : i = t
    · subst e; simp only [beq_same, cond_true, Option.some.injEq] at h; subst h; simp
    · have : Nat.beq i t = false := beq_ne e
      rw [this] at h
      simp only [cond_false] at h
      obtain ⟨h1, h2⟩ := ih (i + 1) t v h
      refine ⟨by omega, ?_⟩
      have : t - i = (t - (i + 1)) + 1 := by omega
      rw [this]; simpa using h2

theorem enter {f : FuncId} {fn : Func} {c : Code} {l : List Value} {R : Value → World → Prop} [hf : FnIs P f fn] (hb : fn.body = some c) (hN : fn.ntmps = N) (hl : Nat.ble l.length N = true)
    (h : WC P none N [] c (bodyPost P fn (RetP R)) (Env.of 0 l) w) : Fn P f l.toArray w R := by
  refine (callsIn_wide (n := 0)).1 (callsIn_of_wp hf.is hb trivial ?_ rfl)
  have hl' : l.length ≤ N := by simpa using hl
  refine h _ ⟨by simp [hN]; omega, rfl, fun t v ht => ?_⟩
  obtain ⟨-, h2⟩ := Env.of_g l 0 t v ht
  have hlt : t < l.length := by
    rcases Nat.lt_or_ge t l.length with h | h
    · exact h
    · simp [List.getElem?_eq_none h] at h2
  rw [Array.getElem?_append_left (by simpa using hlt)]
  simpa using h2

theorem WX.ret1 {fn : Func} {t : Nat} {v : Value} {R : Value → World → Prop} (hr : fn.results = #[.tmp t]) (hv : Env.g E t = some v) (h : R v w) :
    WX N [] .ret (bodyPost P fn (RetP R)) E w := fun a ha =>
  ⟨ha.defers, _, results_tmp hr _ _ _, _, rfl, by rw [Array.getD_eq_getD_getElem?, ha.get _ _ hv]; exact h⟩
theorem WX.ret2 {fn : Func} {t u : Nat} {v v' : Value} {R : Value → World → Prop} (hr : fn.results = #[.tmp t, .tmp u]) (hv : Env.g E t = some v) (hv' : Env.g E u = some v') (h : R (.tuple #[v, v']) w) :
    WX N [] .ret (bodyPost P fn (RetP R)) E w := fun a ha =>
  ⟨ha.defers, _, results_tmp2 hr _ _ _, _, rfl, by simp only [Array.getD_eq_getD_getElem?, ha.get _ _ hv, ha.get _ _ hv']; exact h⟩
theorem WX.ret0 {fn : Func} {R : Value → World → Prop} (hr : fn.results = #[]) (h : R (.tuple #[]) w) :
    WX N [] .ret (bodyPost P fn (RetP R)) E w := fun _ ha => ⟨ha.defers, _, results_none hr _ _ _, _, rfl, h⟩
theorem WX.end0 {fn : Func} {R : Value → World → Prop} (hr : fn.results = #[]) (h : R (.tuple #[]) w) :
    WX N [] .normal (bodyPost P fn (RetP R)) E w := fun _ ha => ⟨ha.defers, _, results_none hr _ _ _, _, rfl, h⟩

/- ONE OPERATION -/
def putE (d : Option Nat) (v : Value) (E : Env) : Env := match d with | some d => (d, v) :: E | none => E
def dOk (d : Option Nat) (N : Nat) : Bool := match d with | some d => Nat.blt d N | none => true
theorem Rep.putO {a : Act} (h : Rep N ds E a) {d : Option Nat} (hd : dOk d N = true) (v : Value) : Rep N ds (putE d v E) (a.put d v) := by
  cases d with
  | none => exact h
  | some d => exact h.put hd v

theorem WL.nil (h : WX N ds .normal Q E w) : WL P r N ds ol [] Q E w := fun a ha => wpListIn_nil (h a ha)

/-- An operation that yields a value, in a world of its making. -/
theorem WL.run {d : Option Nat} {op : Op} {ty : TypeId} {pos : String} {af : Array Edge} {v : Value} {w' : World}
    (hrun : ∀ a, Rep N ds E a → (execOp a.eval ⟨d, op, ty, pos, af, none⟩).run P w = .ok (.value v) w') (hi : isDefer op = false) (hd : dOk d N = true)
    (h : WL P r N ds ol rest Q (putE d v E) w') : WL P r N ds ol (⟨d, op, ty, pos, af, none⟩ :: rest) Q E w := by
  intro a ha
  refine wpListIn_plain rfl (fun K hK => ?_)
  refine ⟨fun _ _ => trivial, ?_⟩
  rw [semAt_of hi, hrun a ha]
  exact hK _ _ (h _ (ha.putO hd v))
/-- An operation that asks nothing of the world. -/
theorem WL.p {d : Nat} {op : Op} {ty : TypeId} {pos : String} {af : Array Edge} {v : Value} (hp : POp P N ds E op ty v) (hi : isDefer op = false) (hd : Nat.blt d N = true)
    (h : WL P r N ds ol rest Q ((d, v) :: E) w) : WL P r N ds ol (⟨some d, op, ty, pos, af, none⟩ :: rest) Q E w :=
  WL.run (fun a ha => hp a ha _ _ _ _ _) hi hd h

/-- A guarded operation, by what its guard says. -/
def guardE (ol : List Oper) (E : Env) (j : Nat) : Option Bool :=
  match (ol[j]?).bind (·.dst) with
  | some t => match Env.g E t with
    | some (.bool b) => some b
    | _ => none
  | none => none
theorem guardE_spec {j : Nat} {b : Bool} (h : guardE ol E j = some b) {a : Act} (ha : Rep N ds E a) : yielded ol.toArray a.tmps j = some b := by
  unfold guardE at h
  unfold yielded
  split at h
  · rename_i t ht
    split at h
    · rename_i b' hb
      cases h
      have : ((ol.toArray[j]?).bind (·.dst)) = some t := by simpa using ht
      rw [this]
      simp [ha.get _ _ hb]
    · cases h
  · cases h
theorem WL.gy {d : Option Nat} {op : Op} {ty : TypeId} {pos : String} {af : Array Edge} {j : Nat} {want b : Bool} (hj : guardE ol E j = some b) (hb : b = want)
    (h : WL P r N ds ol (⟨d, op, ty, pos, af, none⟩ :: rest) Q E w) : WL P r N ds ol (⟨d, op, ty, pos, af, some (j, want)⟩ :: rest) Q E w := by
  intro a ha
  have h1 := h a ha
  have hy := guardE_spec hj ha
  simp only [wpListIn, Region.wanted, if_true] at h1
  simp only [wpListIn, Region.wanted, hy, hb, beq_self_eq_true, if_true]
  exact h1
theorem WL.gn {d : Option Nat} {op : Op} {ty : TypeId} {pos : String} {af : Array Edge} {j : Nat} {want b : Bool} (hj : guardE ol E j = some b) (hb : b = !want) (hd : dOk d N = true)
    (h : WL P r N ds ol rest Q (putE d undef E) w) : WL P r N ds ol (⟨d, op, ty, pos, af, some (j, want)⟩ :: rest) Q E w := by
  intro a ha
  have hy := guardE_spec hj ha
  have hne : ((some (!want) : Option Bool) == some want) = false := by cases want <;> rfl
  simp only [wpListIn, Region.wanted, hy, hb, hne, Bool.false_eq_true, if_false]
  exact ⟨fun _ _ => trivial, h _ (ha.putO hd _)⟩

/-- A guarded operation whose guard was not asked for itself. -/
def guardU (ol : List Oper) (E : Env) (j : Nat) : Bool :=
  match (ol[j]?).bind (·.dst) with
  | some t => match Env.g E t with
    | some (.tuple _) => true
    | _ => false
  | none => false
theorem guardU_spec {j : Nat} (h : guardU ol E j = true) {a : Act} (ha : Rep N ds E a) : yielded ol.toArray a.tmps j = none := by
  unfold guardU at h
  unfold yielded
  split at h
  · rename_i t ht
    split at h
    · rename_i b' hb
      have : ((ol.toArray[j]?).bind (·.dst)) = some t := by simpa using ht
      rw [this]
      simp [ha.get _ _ hb]
    · cases h
  · cases h
theorem WL.nu {d : Option Nat} {op : Op} {ty : TypeId} {pos : String} {af : Array Edge} {j : Nat} {want : Bool} (hj : guardU ol E j = true) (hd : dOk d N = true)
    (h : WL P r N ds ol rest Q (putE d undef E) w) : WL P r N ds ol (⟨d, op, ty, pos, af, some (j, want)⟩ :: rest) Q E w := by
  intro a ha
  have hy := guardU_spec hj ha
  have hne : ((none : Option Bool) == some want) = false := by cases want <;> rfl
  simp only [wpListIn, Region.wanted, hy, hne, Bool.false_eq_true, if_false]
  exact ⟨fun _ _ => trivial, h _ (ha.putO hd _)⟩

/- ONE OPERATION, whatever comes behind it. -/
def NX (N : Nat) (ds : List Deferred) (next : Act → World → Prop) (E : Env) (w : World) : Prop := ∀ a, Rep N ds E a → next a w
def W1 (P : Program) (r : Option Nat) (N : Nat) (ds : List Deferred) (next : Act → World → Prop) (o : Oper) (Q : Post) (E : Env) (w : World) : Prop :=
  ∀ a, Rep N ds E a → o.wpIn (FW r) 0 P a w next Q
theorem WL.fold {l : List Oper} (h : WL P r N ds ol l Q E w) : NX N ds (wpListIn (FW r) 0 P ol.toArray Q l) E w := h
theorem WL.one {d : Option Nat} {op : Op} {ty : TypeId} {pos : String} {af : Array Edge} (h : W1 P r N ds (wpListIn (FW r) 0 P ol.toArray Q rest) ⟨d, op, ty, pos, af, none⟩ Q E w) :
    WL P r N ds ol (⟨d, op, ty, pos, af, none⟩ :: rest) Q E w := fun a ha => by
  simp only [wpListIn, Region.wanted, if_true]
  exact h a ha
variable {next : Act → World → Prop}
theorem W1.run {d : Option Nat} {op : Op} {ty : TypeId} {pos : String} {af : Array Edge} {g : Option (Nat × Bool)} {v : Value} {w' : World}
    (hrun : ∀ a, Rep N ds E a → (execOp a.eval ⟨d, op, ty, pos, af, g⟩).run P w = .ok (.value v) w') (hi : isDefer op = false) (hd : dOk d N = true)
    (h : NX N ds next (putE d v E) w') : W1 P r N ds next ⟨d, op, ty, pos, af, g⟩ Q E w := by
  intro a ha
  refine ⟨fun _ _ => trivial, ?_⟩
  rw [semAt_of hi, hrun a ha]
  exact h _ (ha.putO hd v)
theorem W1.skip {d : Option Nat} {op : Op} {ty : TypeId} {pos : String} {af : Array Edge} {g : Option (Nat × Bool)} {w' : World}
    (hrun : ∀ a, Rep N ds E a → (execOp a.eval ⟨d, op, ty, pos, af, g⟩).run P w = .ok .skip w') (hi : isDefer op = false) (hd : dOk d N = true)
    (h : NX N ds next (putE d undef E) w') : W1 P r N ds next ⟨d, op, ty, pos, af, g⟩ Q E w := by
  intro a ha
  refine ⟨fun _ _ => trivial, ?_⟩
  rw [semAt_of hi, hrun a ha]
  exact h _ (ha.putO hd _)
/-- What a call of a value or a function comes to, once its target is known. -/
theorem W1.enter {d : Option Nat} {c : Go.Call} {ty : TypeId} {pos : String} {af : Array Edge} {g : Option (Nat × Bool)} {f : FuncId} {vs : List Value} {R : Value → World → Prop}
    (hd : dOk d N = true) (hrun : ∀ a, Rep N ds E a → (execOp a.eval ⟨d, .call c, ty, pos, af, g⟩).run P w = .ok (.enter f vs.toArray) w) (hc : Fn P f vs.toArray w R)
    (h : ∀ v w', R v w' → NX N ds next (putE d v E) w') : W1 P r N ds next ⟨d, .call c, ty, pos, af, g⟩ Q E w := by
  intro a hr
  refine ⟨fun _ _ => trivial, ?_⟩
  rw [semAt_of rfl, hrun a hr]
  refine ⟨fun h => by simp [FW] at h, ⟨trivial, fun cs hroom => ?_⟩⟩
  obtain ⟨e, w', fr, ⟨v, he, hR⟩, hs, hfr⟩ := hc cs
  subst he
  exact ⟨_, w', fr, h v w' hR _ (hr.putO hd v), comesIn_wide.2 hs, hfr⟩
/-- A call of a function, by its contract. -/
theorem W1.call {d : Option Nat} {f : FuncId} {args : List Operand} {ats : Array TypeId} {ty : TypeId} {pos : String} {af : Array Edge} {g : Option (Nat × Bool)} {vs : List Value} {R : Value → World → Prop}
    [hf : CallOk P f] (hd : dOk d N = true) (ha : Env.evs E args = some vs) (hc : Fn P f vs.toArray w R)
    (h : ∀ v w', R v w' → NX N ds next (putE d v E) w') :
    W1 P r N ds next ⟨d, .call ⟨.value (.func f), args.toArray, ats⟩, ty, pos, af, g⟩ Q E w :=
  W1.enter hd (fun a hr => by
    have hm : Array.map a.eval args.toArray = vs.toArray := by simp [hr.evs ha]
    simp [execOp, resolve, hm, Act.eval, Deferred.ofValue, invoke, hf.run]) hc h
theorem WL.call {d : Option Nat} {f : FuncId} {args : List Operand} {ats : Array TypeId} {ty : TypeId} {pos : String} {af : Array Edge} {vs : List Value} {R : Value → World → Prop}
    [hf : CallOk P f] (hd : dOk d N = true) (ha : Env.evs E args = some vs) (hc : Fn P f vs.toArray w R)
    (h : ∀ v w', R v w' → WL P r N ds ol rest Q (putE d v E) w') :
    WL P r N ds ol (⟨d, .call ⟨.value (.func f), args.toArray, ats⟩, ty, pos, af, none⟩ :: rest) Q E w := WL.one (W1.call hd ha hc h)
/-- A call of a closure whose value is known. -/
theorem W1.callv {d : Option Nat} {x : Operand} {f : FuncId} {cap : List Value} {args : List Operand} {ats : Array TypeId} {ty : TypeId} {pos : String} {af : Array Edge} {g : Option (Nat × Bool)} {vs : List Value} {R : Value → World → Prop}
    [hf : CallOk P f] (hd : dOk d N = true) (hx : Env.ev E x = some (.func (.func f) #[] cap.toArray)) (ha : Env.evs E args = some vs) (hc : Fn P f (vs ++ cap).toArray w R)
    (h : ∀ v w', R v w' → NX N ds next (putE d v E) w') :
    W1 P r N ds next ⟨d, .call ⟨.value x, args.toArray, ats⟩, ty, pos, af, g⟩ Q E w :=
  W1.enter hd (fun a hr => by
    have hm : Array.map a.eval args.toArray = vs.toArray := by simp [hr.evs ha]
    simp [execOp, resolve, hm, hr.ev hx, Deferred.ofValue, invoke, hf.run]) hc h
end
end Go.Sx
namespace Go.Sx
open Go
section
variable {P : Program} {r : Option Nat} {N : Nat} {ds : List Deferred} {E : Env}

theorem cst (n : Nat) : (n : Int) = (n : Int) := rfl
theorem lit (n : Nat) : (@OfNat.ofNat Int n _) = ((@OfNat.ofNat Nat n _ : Nat) : Int) := rfl
theorem POp.of {op : Op} {ty : TypeId} {v v' : Value} (h : POp P N ds E op ty v) (e : v = v') : POp P N ds E op ty v' := e ▸ h

theorem POp.move {x : Operand} {ty : TypeId} {v : Value} (hx : Env.ev E x = some v) : POp P N ds E (.move x) ty v := fun a ha d pos af g w => by
  simp [execOp, ha.ev hx]
theorem POp.assign {x : Operand} {ty : TypeId} {v : Value} (hx : Env.ev E x = some v) : POp P N ds E (.assign x) ty v := fun a ha d pos af g w => by
  simp [execOp, ha.ev hx]
theorem POp.pick_t {c x y : Operand} {ty : TypeId} {v : Value} {b : Bool} (hc : Env.ev E c = some (.bool b)) (hb : b = true) (hx : Env.ev E x = some v) : POp P N ds E (.pick c x y) ty v := fun a ha d pos af g w => by
  subst hb; simp [execOp, ha.ev hc, ha.ev hx, asBool]
theorem POp.pick_f {c x y : Operand} {ty : TypeId} {v : Value} {b : Bool} (hc : Env.ev E c = some (.bool b)) (hb : b = false) (hx : Env.ev E y = some v) : POp P N ds E (.pick c x y) ty v := fun a ha d pos af g w => by
  subst hb; simp [execOp, ha.ev hc, ha.ev hx, asBool]

/- integers -/
theorem POp.bin {op : BinOp} {t t' ty : TypeId} {x y : Operand} {u v z : Value} (hx : Env.ev E x = some u) (hy : Env.ev E y = some v)
    (hg : ∀ w, (eqGuard op t x y u v).run P w = .ok () w) (h : ∀ w, (Go.binOp op t u v).run P w = .ok z w) : POp P N ds E (.binOp op t x y t') ty z := fun a ha d pos af g w => by
  simp [execOp, ha.ev hx, ha.ev hy, Sem.run_bind, hg, h]
theorem guard_int {op : BinOp} {t : TypeId} {x y : Operand} {k : IntKind} {n : Int} {v : Value} (w : World) : (eqGuard op t x y (.int k n) v).run P w = .ok () w := by
  rw [eqGuard_at_int]; rfl
theorem guard_str {op : BinOp} {t : TypeId} {x y : Operand} {s : ByteArray} {v : Value} (w : World) : (eqGuard op t x y (.string s) v).run P w = .ok () w := by
  rw [eqGuard_at_string]; rfl
theorem guard_bool {op : BinOp} {t : TypeId} {x y : Operand} {b : Bool} {v : Value} (w : World) : (eqGuard op t x y (.bool b) v).run P w = .ok () w := by
  rw [eqGuard_at_bool]; rfl

variable {t t' ty : TypeId} {x y : Operand} {k : IntKind} {m n : Int}
theorem POp.add (hx : Env.ev E x = some (.int .i64 m)) (hy : Env.ev E y = some (.int .i64 n)) (h1 : -9223372036854775808 ≤ m + n) (h2 : m + n ≤ 9223372036854775807) :
    POp P N ds E (.binOp .add t x y t') ty (.int .i64 (m + n)) := POp.bin hx hy guard_int fun w => by
  rw [binOp_add]; simp [Op.intArith, IntWalk.i64_in _ ⟨h1, h2⟩]
theorem POp.sub (hx : Env.ev E x = some (.int .i64 m)) (hy : Env.ev E y = some (.int .i64 n)) (h1 : -9223372036854775808 ≤ m - n) (h2 : m - n ≤ 9223372036854775807) :
    POp P N ds E (.binOp .sub t x y t') ty (.int .i64 (m - n)) := POp.bin hx hy guard_int fun w => by
  rw [binOp_sub]; simp [Op.intArith, IntWalk.i64_in _ ⟨h1, h2⟩]
theorem POp.mul (hx : Env.ev E x = some (.int .i64 m)) (hy : Env.ev E y = some (.int .i64 n)) (h1 : -9223372036854775808 ≤ m * n) (h2 : m * n ≤ 9223372036854775807) :
    POp P N ds E (.binOp .mul t x y t') ty (.int .i64 (m * n)) := POp.bin hx hy guard_int fun w => by
  rw [binOp_mul]; simp [Op.intArith, IntWalk.i64_in _ ⟨h1, h2⟩]
theorem POp.rem (hx : Env.ev E x = some (.int .i64 m)) (hy : Env.ev E y = some (.int .i64 n)) (h0 : 0 ≤ m) (h2 : 0 < n) :
    POp P N ds E (.binOp .rem t x y t') ty (.int .i64 (m % n)) := POp.bin hx hy guard_int fun w => by
  have e : n ≠ 0 := by omega
  rw [binOp_rem]
  simp only [Op.intDiv, e, if_false]
  rw [Int.tmod_eq_emod_of_nonneg h0]; rfl
theorem POp.lss (hx : Env.ev E x = some (.int k m)) (hy : Env.ev E y = some (.int k n)) :
    POp P N ds E (.binOp .lss t x y t') ty (.bool (decide (m < n))) := POp.bin hx hy guard_int fun w => by rw [binOp_lss]; rfl
theorem POp.leq (hx : Env.ev E x = some (.int k m)) (hy : Env.ev E y = some (.int k n)) :
    POp P N ds E (.binOp .leq t x y t') ty (.bool (decide (m ≤ n))) := POp.bin hx hy guard_int fun w => by rw [binOp_leq]; rfl
theorem POp.gtr (hx : Env.ev E x = some (.int k m)) (hy : Env.ev E y = some (.int k n)) :
    POp P N ds E (.binOp .gtr t x y t') ty (.bool (decide (n < m))) := POp.bin hx hy guard_int fun w => by rw [binOp_gtr]; rfl
theorem POp.geq (hx : Env.ev E x = some (.int k m)) (hy : Env.ev E y = some (.int k n)) :
    POp P N ds E (.binOp .geq t x y t') ty (.bool (decide (n ≤ m))) := POp.bin hx hy guard_int fun w => by rw [binOp_geq]; rfl
theorem POp.eql (hx : Env.ev E x = some (.int k m)) (hy : Env.ev E y = some (.int k n)) :
    POp P N ds E (.binOp .eql t x y t') ty (.bool (decide (m = n))) := POp.bin hx hy guard_int fun w => by rw [binOp_eql]; rfl
theorem POp.neq (hx : Env.ev E x = some (.int k m)) (hy : Env.ev E y = some (.int k n)) :
    POp P N ds E (.binOp .neq t x y t') ty (.bool (decide (¬ m = n))) := POp.bin hx hy guard_int fun w => by
  rw [binOp_neq]
  have : (m != n) = decide (¬ m = n) := by by_cases h : m = n <;> simp [h]
  rw [this]; rfl

theorem ofInt_toNat (a : Nat) (h : a < 2 ^ 64) : (BitVec.ofInt 64 (a : Int)).toNat = a := by
  simp; omega
theorem wrap_nat (a : Nat) (h : a < 9223372036854775808) : IntKind.i64.wrap (a : Int) = (a : Int) := IntWalk.i64_in _ (by omega)
theorem bits_xor_nat (a b : Nat) (ha : a < 9223372036854775808) (hb : b < 9223372036854775808) : bits .xor .i64 (a : Int) (b : Int) = ((a ^^^ b : Nat) : Int) := by
  show IntKind.i64.wrap (((BitVec.ofInt 64 a ^^^ BitVec.ofInt 64 b).toNat : Nat) : Int) = _
  rw [BitVec.toNat_xor, ofInt_toNat a (by omega), ofInt_toNat b (by omega)]
  exact wrap_nat _ (Nat.xor_lt_two_pow (n := 63) ha hb)
variable {a b : Nat}
theorem POp.shr {k' : IntKind} (hx : Env.ev E x = some (.int .i64 m)) (hy : Env.ev E y = some (.int k' n)) (em : m = (a : Int)) (en : n = (b : Int)) (h1 : b < 64) :
    POp P N ds E (.binOp .shr t x y t') ty (.int .i64 ((a >>> b : Nat) : Int)) := POp.bin hx hy guard_int fun w => by
  subst em; subst en
  rw [binOp_shr, shift_shr_i64 k' a b (by omega) (by omega), Nat.shiftRight_eq_div_pow]
  simp
theorem POp.not_b {b : Bool} (hx : Env.ev E x = some (.bool b)) : POp P N ds E (.unOp .not t x) ty (.bool (!b)) := fun a ha d pos af g w => by
  simp [execOp, ha.ev hx, Op.unary]
theorem POp.neg (hx : Env.ev E x = some (.int .i64 n)) (h : -9223372036854775808 < n) (h' : n ≤ 9223372036854775807) : POp P N ds E (.unOp .neg t x) ty (.int .i64 (-n)) := fun a ha d pos af g w => by
  simp only [execOp, ha.ev hx, Op.unary, Op.intArith]
  rw [IntWalk.i64_in _ (by omega), Int.zero_sub]; rfl

theorem POp.conv {src dst : TypeId} {k k' : IntKind} {d' : TypeDesc} [hs : UTy P src d'] [hd : UTy P dst (.int k')] (hx : Env.ev E x = some (.int k n)) :
    POp P N ds E (.convert src dst x) ty (.int k' (k'.wrap n)) := fun a ha d pos af g w => by
  simp [execOp, ha.ev hx, convert, run_underlying hs.is, run_underlying hd.is, Conv.intToInt]
theorem POp.conv_i64 {src dst : TypeId} {k : IntKind} {d' : TypeDesc} [hs : UTy P src d'] [hd : UTy P dst (.int .i64)] (hx : Env.ev E x = some (.int k n)) (h1 : -9223372036854775808 ≤ n) (h : n ≤ 9223372036854775807) :
    POp P N ds E (.convert src dst x) ty (.int .i64 n) := (POp.conv hx).of (by rw [IntWalk.i64_in _ (by omega)])
theorem wrap_u8 {n : Int} (h0 : 0 ≤ n) (h : n < 256) : IntKind.u8.wrap n = n := by
  simp [IntKind.wrap, IntKind.bits, IntKind.signed]; omega
theorem POp.conv_u8 {src dst : TypeId} {k : IntKind} {d' : TypeDesc} [hs : UTy P src d'] [hd : UTy P dst (.int .u8)] (hx : Env.ev E x = some (.int k n)) (h1 : 0 ≤ n) (h : n < 256) :
    POp P N ds E (.convert src dst x) ty (.int .u8 n) := (POp.conv hx).of (by rw [wrap_u8 h1 h])

theorem POp.len_slice {e : TypeId} {a : Option Addr} {l c : Nat} [h : UTy P t (.slice e)] (hx : Env.ev E x = some (.slice a l c)) :
    POp P N ds E (.call ⟨.builtin .len, #[x], #[t]⟩) ty (.int .i64 l) := fun b hb d pos af g w => by
  simp [execOp, hb.ev hx, resolve, invoke, Go.builtin, Builtin.len_, run_underlying h.is, goInt]
theorem POp.len_string {s : ByteArray} [h : UTy P t .string] (hx : Env.ev E x = some (.string s)) :
    POp P N ds E (.call ⟨.builtin .len, #[x], #[t]⟩) ty (.int .i64 s.size) := fun b hb d pos af g w => by
  simp [execOp, hb.ev hx, resolve, invoke, Go.builtin, Builtin.len_, run_underlying h.is, goInt]
theorem POp.min_int {ts : Array TypeId} (hx : Env.ev E x = some (.int k m)) (hy : Env.ev E y = some (.int k n)) :
    POp P N ds E (.call ⟨.builtin .min, #[x, y], ts⟩) ty (.int k (min m n)) := fun b hb d pos af g w => by
  have : (if n < m then n else m) = min m n := by omega
  simp [execOp, hb.ev hx, hb.ev hy, resolve, invoke, Go.builtin, Builtin.min_, Builtin.min2, this]
theorem POp.max_int {ts : Array TypeId} (hx : Env.ev E x = some (.int k m)) (hy : Env.ev E y = some (.int k n)) :
    POp P N ds E (.call ⟨.builtin .max, #[x, y], ts⟩) ty (.int k (max m n)) := fun b hb d pos af g w => by
  simp [execOp, hb.ev hx, hb.ev hy, resolve, invoke, Go.builtin, Builtin.max_, Builtin.max2]
  omega
theorem POp.extract {i : Nat} {vs : List Value} {v : Value} (hx : Env.ev E x = some (.tuple vs.toArray)) (hv : vs[i]? = some v) :
    POp P N ds E (.extract x i) ty v := fun b hb d pos af g w => by
  simp [execOp, hb.ev hx, Instr.extract, hv]
theorem POp.nilCheck {a : Addr} (hx : Env.ev E x = some (.pointer (some a))) : POp P N ds E (.nilCheck x) ty (.pointer (some a)) := fun b hb d pos af g w => by
  simp [execOp, hb.ev hx]
theorem POp.makeFunc {fn : Go.Fn} {first captured : List Operand} {v1 v2 : List Value} (h1 : Env.evs E first = some v1) (h2 : Env.evs E captured = some v2) :
    POp P N ds E (.makeFunc fn first.toArray captured.toArray) ty (.func fn v1.toArray v2.toArray) := fun b hb d pos af g w => by
  simp [execOp, Instr.makeFunc, hb.evs h1, hb.evs h2]
end
end Go.Sx
namespace Go.Sx
open Go Go.RowKit

/-- Whatever lay there lies as it lay; there may be more. -/
abbrev Ext (w w' : World) : Prop := Below w.heap.size w w'
theorem Ext.refl (w : World) : Ext w w := Below.refl _ w
theorem Ext.trans {a b c : World} (h : Ext a b) (k : Ext b c) : Ext a c := Below.trans h (k.mono h.size)
theorem Ext.drew (w : World) : Ext w w.drew := (Below.refl _ w).drew
theorem Ext.alloc (w : World) (o : Obj) : Ext w (w.alloc o) := (Below.refl _ w).alloc (Nat.le_refl _) o

/-- A block of cells that nothing shares bytes with. -/
def Blk (w : World) (b : Nat) (cs : List Value) (e : TypeId) : Prop := w.heap[b]? = some (.cells cs.toArray e (0, 0))
theorem Blk.cell {w : World} {b : Nat} {cs : List Value} {e : TypeId} (h : Blk w b cs e) {i : Nat} {v : Value} (hi : cs[i]? = some v) : w.cell? ⟨b, i, none⟩ = some v := by
  unfold Blk at h
  simp [World.cell?, h, hi]
theorem Blk.free {w : World} {b : Nat} {cs : List Value} {e : TypeId} (h : Blk w b cs e) (i : Nat) : w.frozen? ⟨b, i, none⟩ = false := by
  unfold Blk at h
  simp [World.frozen?, h]
theorem Blk.new (w : World) (cs : List Value) (e : TypeId) : Blk (w.alloc (.cells cs.toArray e)) w.heap.size cs e := by
  show (w.heap.push (.cells cs.toArray e))[w.heap.size]? = _
  simp
theorem Blk.set {w : World} {b : Nat} {cs : List Value} {e : TypeId} (h : Blk w b cs e) (i : Nat) (v : Value) : Blk (w.setCell ⟨b, i, none⟩ v) b (cs.set i v) e := by
  unfold Blk at *
  simp only [World.setCell, Array.getElem?_modify, if_true, h, Option.map_some]
  simp

theorem cell_ext {w w' : World} (k : Ext w w') {a : Addr} {v : Value} (h : w.cell? a = some v) : w'.cell? a = some v := by
  have hb : a.block < w.heap.size := by
    unfold World.cell? at h
    split at h
    · rename_i hc; exact (Array.getElem?_eq_some_iff.1 hc).1
    · cases h
  rw [k.cell hb]; exact h

section
variable {P : Program} {r : Option Nat} {N : Nat} {ds : List Deferred} {ol rest : List Oper} {Q : Post} {E : Env} {w : World} {next : Act → World → Prop} {g : Option (Nat × Bool)}
variable {d : Nat} {t t' ty : TypeId} {pos : String} {af : Array Edge} {x y : Operand} {k : IntKind} {m n : Int}

theorem run_isAgg {b : Bool} [h : ATy P t b] : (isAgg t).run P w = .ok b w := by
  have h1 := h.is
  simp only [Prod.mk.injEq] at h1
  obtain ⟨h1, h2⟩ := h1
  obtain ⟨d, hd⟩ := Option.isSome_iff_exists.1 h1
  simp only [isAgg, Sem.run_bind, run_underlying hd]
  simp only [isAggB, hd] at h2
  cases d <;> simp_all <;> rfl
theorem run_sizeOf {z : Value} {n b : Nat} [h : ITy P t z n b] : (sizeOf t).run P w = .ok n w := by
  obtain ⟨i, hi, h1, h2, h3⟩ := h.parts
  simp [sizeOf, typeInfo, hi, h2]
theorem run_zeroValue {z : Value} {n b : Nat} [h : ITy P t z n b] : (zeroValue t).run P w = .ok z w := by
  obtain ⟨i, hi, h1, h2, h3⟩ := h.parts
  simp [zeroValue, typeInfo, hi, h1]

/- loads -/
theorem W1.load {a : Addr} {v : Value} [ha : ATy P t false] (hx : Env.ev E x = some (.pointer (some a))) (hc : w.cell? a = some v) (hd : Nat.blt d N = true)
    (h : NX N ds next ((d, v) :: E) w) : W1 P r N ds next ⟨some d, .load t x, ty, pos, af, g⟩ Q E w :=
  W1.run (fun b hb => by
    simp only [execOp, hb.ev hx, Instr.loadAt, Instr.sureAddr, loadVar, Sem.run_bind, Sem.run_pure]
    simp [run_isAgg, hc]) rfl hd h

theorem run_loadCellsFrom (P : Program) (w : World) (b off : Nat) (vs : List Value) (hc : ∀ i v, vs[i]? = some v → w.cell? ⟨b, off + i, none⟩ = some v) :
    ∀ (n i : Nat) (acc : Array Value), i + n = vs.length → (loadCellsFrom ⟨b, off, none⟩ i n acc).run P w = .ok (acc ++ (vs.drop i).toArray) w
  | 0, i, acc, h => by
    have : vs.drop i = [] := List.drop_eq_nil_of_le (by omega)
    simp [loadCellsFrom, this]
  | n + 1, i, acc, h => by
    have hi : i < vs.length := by omega
    have hv := hc i vs[i] (by simp [hi])
    have ha : Addr.add ⟨b, off, none⟩ i = ⟨b, off + i, none⟩ := by
      unfold Addr.add; split
      · rename_i h0; subst h0; rfl
      · rfl
    simp only [loadCellsFrom, Sem.run_bind]
    have : (load (Addr.add ⟨b, off, none⟩ i)).run P w = .ok vs[i] w := by simp [load, Sem.run, ha, hv]
    rw [this]
    simp only [Result.andThen]
    rw [run_loadCellsFrom P w b off vs hc n (i + 1) (acc.push vs[i]) (by omega)]
    rw [List.drop_eq_getElem_cons hi]
    simp
/-- A struct or an array, whole. -/
theorem W1.loadAgg {b off : Nat} {vs : List Value} {z : Value} {n bb : Nat} [ha : ATy P t true] [hi : ITy P t z n bb] (hx : Env.ev E x = some (.pointer (some ⟨b, off, none⟩)))
    (hn : vs.length = n) (hc : ∀ i v, vs[i]? = some v → w.cell? ⟨b, off + i, none⟩ = some v) (hd : Nat.blt d N = true)
    (h : NX N ds next ((d, .agg vs.toArray) :: E) w) : W1 P r N ds next ⟨some d, .load t x, ty, pos, af, g⟩ Q E w :=
  W1.run (fun b' hb => by
    simp only [execOp, hb.ev hx, Instr.loadAt, Instr.sureAddr, loadVar, Sem.run_bind, Sem.run_pure]
    simp [run_isAgg, run_sizeOf, loadCells, run_loadCellsFrom P w b off vs hc n 0 #[] (by omega), Result.andThen, Sem.run_bind]) rfl hd h

theorem WL.load {a : Addr} {v : Value} [ha : ATy P t false] (hx : Env.ev E x = some (.pointer (some a))) (hc : w.cell? a = some v) (hd : Nat.blt d N = true)
    (h : WL P r N ds ol rest Q ((d, v) :: E) w) : WL P r N ds ol (⟨some d, .load t x, ty, pos, af, none⟩ :: rest) Q E w := WL.one (W1.load hx hc hd h)
/- stores -/
theorem W1.store {a : Addr} {u v : Value} {z : Value} {bb : Nat} [hi : ITy P t z 1 bb] (hx : Env.ev E x = some (.pointer (some a))) (hy : Env.ev E y = some v)
    (ha' : ∀ vs, v ≠ .agg vs) (ht : ∀ vs, v ≠ .tuple vs) (hc : w.cell? a = some u) (hf : w.frozen? a = false) 
    (h : NX N ds next E (w.setCell a v)) : W1 P r N ds next ⟨none, .store t x y, ty, pos, af, g⟩ Q E w :=
  W1.skip (fun b hb => by
    have hst : (Go.store a v).run P w = .ok () (w.setCell a v) := by
      cases v with
      | agg cs => exact absurd rfl (ha' cs)
      | tuple vs => exact absurd rfl (ht vs)
      | _ => simp [Go.store, Sem.run, hc, hf]
    have ha : Addr.add a 0 = a := by simp [Addr.add]
    have hv : v.cells = #[v] := by cases v <;> first | rfl | exact absurd rfl (ha' _)
    simp only [execOp, hb.ev hx, hb.ev hy, Instr.storeAt, Instr.sureAddr, storeVar, Sem.run_bind, Sem.run_pure, Result.andThen]
    simp [run_sizeOf, hv, storeCells, ha, hst]) rfl rfl h

/- new blocks -/
theorem W1.alloc {z : Value} {n bb : Nat} [hi : ITy P t z n bb] (hd : Nat.blt d N = true)
    (h : NX N ds next ((d, .pointer (some ⟨w.heap.size, 0, none⟩)) :: E) (w.alloc (.cells z.cells t))) : W1 P r N ds next ⟨some d, .alloc t, ty, pos, af, g⟩ Q E w :=
  W1.run (fun b hb => by
    simp [execOp, Instr.alloc, Sem.run_bind, run_zeroValue, newVar, newRow]) rfl hd h
theorem W1.box {v : Value} (hx : Env.ev E x = some v) (hd : Nat.blt d N = true)
    (h : NX N ds next ((d, .pointer (some ⟨w.heap.size, 0, none⟩)) :: E) (w.alloc (.cells v.cells t))) : W1 P r N ds next ⟨some d, .box t x, ty, pos, af, g⟩ Q E w :=
  W1.run (fun b hb => by
    simp [execOp, Instr.box, hb.ev hx, newVar, newRow]) rfl hd h

/- places -/
theorem add_lit (b off n : Nat) : Addr.add ⟨b, off, none⟩ n = ⟨b, off + n, none⟩ := by
  unfold Addr.add; split
  · rename_i h0; subst h0; rfl
  · rfl
theorem POp.index_slice {e : TypeId} {b off l c : Nat} {z : Value} {sz bb : Nat} [h : UTy P t (.slice e)] [hi : ITy P e z sz bb] (hx : Env.ev E x = some (.slice (some ⟨b, off, none⟩) l c)) (hy : Env.ev E y = some (.int k n))
    (h0 : 0 ≤ n) (h1 : n < l) {o : Nat} (ho : off + n.toNat * sz = o) : POp P N ds E (.indexAddr t x y) ty (.pointer (some ⟨b, o, none⟩)) := fun a ha d pos af g w => by
  subst ho
  have h2 : 0 ≤ n ∧ n < (l : Int) := ⟨h0, h1⟩
  simp [execOp, ha.ev hx, ha.ev hy, Instr.indexAt, asIntOf, run_underlying h.is, Sem.run_bind, h2, run_sizeOf, add_lit]
theorem POp.index_array {e : TypeId} {len b off : Nat} {z : Value} {sz bb : Nat} [h : UTy P t (.array len e)] [hi : ITy P e z sz bb] (hx : Env.ev E x = some (.pointer (some ⟨b, off, none⟩))) (hy : Env.ev E y = some (.int k n))
    (h0 : 0 ≤ n) (h1 : n < len) {o : Nat} (ho : off + n.toNat * sz = o) : POp P N ds E (.indexAddr t x y) ty (.pointer (some ⟨b, o, none⟩)) := fun a ha d pos af g w => by
  subst ho
  have h2 : 0 ≤ n ∧ n < (len : Int) := ⟨h0, h1⟩
  simp [execOp, ha.ev hx, ha.ev hy, Instr.indexAt, Instr.sureAddr, asIntOf, run_underlying h.is, Sem.run_bind, h2, run_sizeOf, add_lit]
end
end Go.Sx
/-
  The layer's laws for statements whose order Go leaves open.
-/
namespace Go.Sx
open Go Go.RowKit

/- ONE WALK FOR EVERY ORDER, where each operation yields one value in every world that extends the first. -/
section quiet
variable {F : Fence} {n : Nat} {P : Program} {ops : Array Oper} {C : World → Prop}
theorem quiet_not_defer {o : Oper} {a : Act} {w : World} {v : Value} (h : o.quietAtIn F n P a C w v) : isDefer o.op = false := by
  unfold Oper.quietAtIn at h
  cases ho : o.op with
  | defer c =>
    simp only [execOp, ho, Sem.run_bind] at h
    cases hr : (resolve a.eval c o.type).run P w <;> simp [hr, Result.andThen, Oper.quietUponIn] at h
  | _ => rfl
theorem wpIn_of_quiet_any {o : Oper} {a : Act} {K : Act → Prop} {K' : Act → World → Prop} {Q' : Post} {w : World} (hC : C w) (h : ∀ a w', C w' → K a → K' a w')
    (ha : o.askedIn F P a C) (hh : o.quietIn F n P a C K) : o.wpIn F n P a w K' Q' := by
  obtain ⟨v, h1, h2⟩ := hh
  have h3 := h1 w hC
  refine ⟨ha w hC, ?_⟩
  rw [semAt_of (quiet_not_defer h3)]
  unfold Oper.quietAtIn at h3
  cases hr : (execOp a.eval o).run P w with
  | halt x w' => rw [hr] at h3; exact h3.elim
  | ok nx w' =>
    rw [hr] at h3
    cases nx with
    | value u => obtain ⟨rfl, rfl⟩ := h3; exact h _ _ hC h2
    | skip => obtain ⟨rfl, rfl⟩ := h3; exact h _ _ hC h2
    | enter f args =>
      obtain ⟨rfl, hn, hc⟩ := h3
      refine ⟨hn, hc.mono ?_⟩
      rintro e w'' ⟨rfl, hw⟩
      exact h _ _ hw h2
    | _ => exact h3.elim
theorem wpOpIn_of_quiet_any {i : Nat} {a : Act} {K : Act → Prop} {K' : Act → World → Prop} {Q' : Post} {w : World} (hC : C w) (h : ∀ a w', C w' → K a → K' a w')
    (hh : qOpIn F n P ops C i K a) : wpOpIn F n P ops Q' i K' a w := by
  unfold qOpIn at hh
  unfold wpOpIn
  cases ho : ops[i]? with
  | none => rw [ho] at hh; exact h _ _ hC hh
  | some o =>
    rw [ho] at hh
    obtain ⟨hq, hh⟩ := hh
    dsimp only
    by_cases hw : Region.wanted o (yielded ops a.tmps) = true
    · rw [if_pos hw] at hh ⊢; exact wpIn_of_quiet_any hC h hq hh
    · rw [if_neg hw] at hh ⊢; exact ⟨hq w hC, h _ _ hC hh⟩
theorem wpAnyIn_of_quiet_any {md : Region.Mode} {Q : Act → Prop} {Q' : Post} (hQ : ∀ a w, C w → Q a → Q' .normal a w) : ∀ (fuel : Nat) (listed : Array Bool) (a : Act) (w : World), C w →
    wpAnyQIn F n P md ops C Q fuel listed a → wpAnyIn F n P md ops Q' fuel listed a w
  | 0, _, _, _, hC, h => ⟨h.1, hQ _ _ hC h.2⟩
  | fuel + 1, _, _, _, hC, h => ⟨fun h0 => hQ _ _ hC (h.1 h0), fun i hi => wpOpIn_of_quiet_any hC (fun a' w' hw' => wpAnyIn_of_quiet_any hQ fuel _ a' w' hw') (h.2 i hi)⟩
theorem wpIn_region_quiet_any {id : Nat} {Q : Post} {a : Act} {w : World} (hm : P.follows .mixedOrders = true) (hB : Region.lexB .any ops = true) (hC : C { w with drawn := w.drawn + 1 })
    (h : wpQuietIn F n P ops C (fun a' => ∀ w', C w' → Q .normal a' w') ops.toList a) : (Code.region id ops true).wpIn F n P Q a w := by
  simp only [Region.lexB, Bool.and_eq_true] at hB
  refine wpIn_region_any hm (wpAnyIn_of_quiet_any (Q := fun a' => ∀ w', C w' → Q .normal a' w') (fun _ w' hw' h => h w' hw') _ _ _ _ hC ?_)
  have := wpAnyQIn_lex (F := F) (n := n) (C := C) (md := .any) hB.1 ops.toList 0 (Array.replicate ops.size false) a (by simp) (by simpa using hB.2) h
  simpa using this
end quiet

def QL (P : Program) (r : Option Nat) (N : Nat) (ds : List Deferred) (w : World) (ol l : List Oper) (Q : Post) (E : Env) : Prop :=
  ∀ a, Rep N ds E a → wpQuietIn (FW r) 0 P ol.toArray (Ext w) (fun a' => ∀ w', Ext w w' → Q .normal a' w') l a
class Mixed (P : Program) : Prop where
  is : P.follows .mixedOrders = true
section
variable {P : Program} {r : Option Nat} {N : Nat} {ds : List Deferred} {ol rest : List Oper} {Q : Post} {E : Env} {w : World}
theorem WC.quiet [hm : Mixed P] {id : Nat} {l : List Oper} (hB : Region.lexB .any l.toArray = true) (h : QL P r N ds w l l Q E) : WC P r N ds (.region id l.toArray true) Q E w := fun a ha =>
  wpIn_region_quiet_any (C := Ext w) hm.is hB (Ext.drew w) (by simpa using h a ha)
theorem QL.nil (h : ∀ w', Ext w w' → WX N ds .normal Q E w') : QL P r N ds w ol [] Q E := fun a ha w' hw' => h w' hw' a ha
theorem QL.step {d : Option Nat} {op : Op} {ty : TypeId} {pos : String} {af : Array Edge} {v : Value} (hd : dOk d N = true)
    (hq : ∀ a, Rep N ds E a → ∀ w', Ext w w' → Oper.quietAtIn (FW r) 0 P ⟨d, op, ty, pos, af, none⟩ a (Ext w) w' v)
    (h : QL P r N ds w ol rest Q (putE d v E)) : QL P r N ds w ol (⟨d, op, ty, pos, af, none⟩ :: rest) Q E := by
  intro a ha
  refine ⟨fun _ _ _ _ => trivial, ?_⟩
  simp only [Region.wanted, if_true]
  exact ⟨v, fun w' hw' => hq a ha w' hw', h _ (ha.putO hd v)⟩
theorem QL.p {d : Nat} {op : Op} {ty : TypeId} {pos : String} {af : Array Edge} {v : Value} (hp : POp P N ds E op ty v) (hd : Nat.blt d N = true)
    (h : QL P r N ds w ol rest Q ((d, v) :: E)) : QL P r N ds w ol (⟨some d, op, ty, pos, af, none⟩ :: rest) Q E :=
  QL.step hd (fun a ha w' _ => by unfold Oper.quietAtIn; rw [hp a ha]; exact ⟨rfl, rfl⟩) h
theorem QL.load {d : Nat} {t ty : TypeId} {x : Operand} {pos : String} {af : Array Edge} {a : Addr} {v : Value} [ht : ATy P t false] (hx : Env.ev E x = some (.pointer (some a)))
    (hc : w.cell? a = some v) (hd : Nat.blt d N = true) (h : QL P r N ds w ol rest Q ((d, v) :: E)) : QL P r N ds w ol (⟨some d, .load t x, ty, pos, af, none⟩ :: rest) Q E :=
  QL.step hd (fun b hb w' hw' => by
    have hc' := cell_ext hw' hc
    have : (execOp b.eval ⟨some d, .load t x, ty, pos, af, none⟩).run P w' = .ok (.value v) w' := by
      simp only [execOp, hb.ev hx, Instr.loadAt, Instr.sureAddr, loadVar, Sem.run_bind, Sem.run_pure]
      simp [run_isAgg, Go.load, Sem.run, hc', Result.andThen]
    unfold Oper.quietAtIn; rw [this]; exact ⟨rfl, rfl⟩) h
theorem QL.gy {d : Option Nat} {op : Op} {ty : TypeId} {pos : String} {af : Array Edge} {j : Nat} {want b : Bool} (hj : guardE ol E j = some b) (hb : b = want)
    (h : QL P r N ds w ol (⟨d, op, ty, pos, af, none⟩ :: rest) Q E) : QL P r N ds w ol (⟨d, op, ty, pos, af, some (j, want)⟩ :: rest) Q E := by
  intro a ha
  have h1 := h a ha
  have hy := guardE_spec hj ha
  simp only [wpQuietIn, Region.wanted, if_true] at h1
  simp only [wpQuietIn, Region.wanted, hy, hb, beq_self_eq_true, if_true]
  exact h1
theorem QL.gn {d : Option Nat} {op : Op} {ty : TypeId} {pos : String} {af : Array Edge} {j : Nat} {want b : Bool} (hj : guardE ol E j = some b) (hb : b = !want) (hd : dOk d N = true)
    (h : QL P r N ds w ol rest Q (putE d undef E)) : QL P r N ds w ol (⟨d, op, ty, pos, af, some (j, want)⟩ :: rest) Q E := by
  intro a ha
  have hy := guardE_spec hj ha
  have hne : ((some (!want) : Option Bool) == some want) = false := by cases want <;> rfl
  simp only [wpQuietIn, Region.wanted, hy, hb, hne, Bool.false_eq_true, if_false]
  exact ⟨fun _ _ _ _ => trivial, h _ (ha.putO hd _)⟩
end

/- EVERY ORDER, one after another: an operation that asks nothing of the world may be taken first. -/
class QPanic (Q : Post) : Prop where
  is : ∀ c (a : Act) d v w, Q (.panic c) (a.put d v) w → Q (.panic c) a w
theorem put_defers (a : Act) (d : Option Nat) (v : Value) : (a.put d v).defers = a.defers := by cases d <;> rfl
instance {P : Program} {r : Option Nat} {y : Code} {Q : Post} [h : QPanic Q] : QPanic (Then P r y Q) := ⟨fun c a d v w hq => h.is c a d v w hq⟩
instance {I : Act → World → Prop} {Q : Post} [h : QPanic Q] : QPanic (Again I Q) := ⟨fun c a d v w hq => h.is c a d v w hq⟩
instance {id : Nat} {Q : Post} [h : QPanic Q] : QPanic (Exit.inBlock id Q) := ⟨fun c a d v w hq => h.is c a d v w hq⟩
instance {P : Program} {fn : Func} {R : Ending → World → Prop} : QPanic (bodyPost P fn R) := ⟨fun c a d v w hq => by
  simp only [bodyPost, put_defers] at hq ⊢; exact hq⟩

def callsB (op : Op) : Bool := match op with | .call ⟨.value _, _, _⟩ | .call ⟨.invoke _ _, _, _⟩ => true | _ => false
def WA (P : Program) (N : Nat) (ds : List Deferred) (ol : List Oper) (fuel : Nat) (listed : Array Bool) (Q : Post) (E : Env) (w : World) : Prop :=
  ∀ a, Rep N ds E a → wpAnyIn (FW none) 0 P .any ol.toArray Q fuel listed a w
/-- Operation i comes next. -/
def WO (P : Program) (N : Nat) (ds : List Deferred) (ol : List Oper) (fuel : Nat) (listed : Array Bool) (i : Nat) (o : Oper) (Q : Post) (E : Env) (w : World) : Prop :=
  ∀ a, Rep N ds E a → if Region.wanted o (yielded ol.toArray a.tmps) then o.wpIn (FW none) 0 P a w (wpAnyIn (FW none) 0 P .any ol.toArray Q fuel (listed.setIfInBounds i true)) Q
    else wpAnyIn (FW none) 0 P .any ol.toArray Q fuel (listed.setIfInBounds i true) (a.put o.dst undef) w
section
variable {P : Program} {N : Nat} {ds : List Deferred} {ol rest : List Oper} {Q : Post} {E : Env} {w : World} {fuel : Nat} {listed : Array Bool} {i : Nat}
variable {d : Option Nat} {op : Op} {ty : TypeId} {pos : String} {af : Array Edge}
theorem WC.any [hm : Mixed P] {id : Nat} {l : List Oper} {fuel : Nat} (hf : l.length = fuel) (h : ∀ w', Ext w w' → w'.heap = w.heap → WA P N ds l fuel (Array.replicate l.length false) Q E w') :
    WC P none N ds (.region id l.toArray true) Q E w := fun a ha =>
  wpIn_region_any hm.is (by subst hf; simpa using h w.drew (Ext.drew w) rfl a ha)
theorem WA.take {d : Nat} {v : Value} [hq : QPanic Q] (i : Nat) (ho : ol[i]? = some ⟨some d, op, ty, pos, af, none⟩) (hs : (Region.noSelect ol.toArray && Region.free .any ol.toArray listed i && (Region.ready .any ol.toArray listed).contains i) = true)
    (hi : callsB op = false)
    (hp : POp P N ds E op ty v) (hd : Nat.blt d N = true) (h : WA P N ds ol fuel (listed.setIfInBounds i true) Q ((d, v) :: E) w) : WA P N ds ol (fuel + 1) listed Q E w := by
  intro a ha
  simp only [Bool.and_eq_true] at hs
  have ho' : ol.toArray[i]? = some ⟨some d, op, ty, pos, af, none⟩ := by simpa using ho
  refine wpAnyIn_take (F := FW none) rfl ho' hs.1.1 hs.1.2 hs.2 (fun c a w => hq.is c a _ _ w) ⟨.inl ⟨rfl, fun w => hp a ha _ _ _ _ _⟩, fun w => ?_⟩ (h _ (ha.put hd v))
  unfold Oper.about
  cases op with
  | call c =>
    obtain ⟨cal, args, ats⟩ := c
    cases cal with
    | builtin b => simp [resolve, Target.leads]
    | value f => cases hi
    | invoke f m => cases hi
  | _ => rfl
/-- A guarded operation that is not wanted. -/
theorem WA.drop {j : Nat} {want b : Bool} [hq : QPanic Q] (i : Nat) (ho : ol[i]? = some ⟨d, op, ty, pos, af, some (j, want)⟩) (hs : (Region.noSelect ol.toArray && Region.free .any ol.toArray listed i && (Region.ready .any ol.toArray listed).contains i) = true)
    (hi : callsB op = false)
    (hj : guardE ol E j = some b) (hb : b = !want) (hd : dOk d N = true) (h : WA P N ds ol fuel (listed.setIfInBounds i true) Q (putE d undef E) w) : WA P N ds ol (fuel + 1) listed Q E w := by
  intro a ha
  simp only [Bool.and_eq_true] at hs
  have ho' : ol.toArray[i]? = some ⟨d, op, ty, pos, af, some (j, want)⟩ := by simpa using ho
  have hy := guardE_spec hj ha
  have hne : ((some (!want) : Option Bool) == some want) = false := by cases want <;> rfl
  refine wpAnyIn_take (F := FW none) rfl ho' hs.1.1 hs.1.2 hs.2 (fun c a w => hq.is c a _ _ w) ⟨.inr ⟨by simp only [Region.wanted, hy, hb, hne], rfl⟩, fun w => ?_⟩ (h _ (ha.putO hd undef))
  unfold Oper.about
  cases op with
  | call c =>
    obtain ⟨cal, args, ats⟩ := c
    cases cal with
    | builtin b => simp [resolve, Target.leads]
    | value f => cases hi
    | invoke f m => cases hi
  | _ => rfl
theorem WA.take_g {d : Nat} {v : Value} {j : Nat} {want b : Bool} [hq : QPanic Q] (i : Nat) (ho : ol[i]? = some ⟨some d, op, ty, pos, af, some (j, want)⟩) (hs : (Region.noSelect ol.toArray && Region.free .any ol.toArray listed i && (Region.ready .any ol.toArray listed).contains i) = true)
    (hi : callsB op = false)
    (hj : guardE ol E j = some b) (hb : b = want) (hp : POp P N ds E op ty v) (hd : Nat.blt d N = true) (h : WA P N ds ol fuel (listed.setIfInBounds i true) Q ((d, v) :: E) w) : WA P N ds ol (fuel + 1) listed Q E w := by
  intro a ha
  simp only [Bool.and_eq_true] at hs
  have ho' : ol.toArray[i]? = some ⟨some d, op, ty, pos, af, some (j, want)⟩ := by simpa using ho
  have hy := guardE_spec hj ha
  refine wpAnyIn_take (F := FW none) rfl ho' hs.1.1 hs.1.2 hs.2 (fun c a w => hq.is c a _ _ w) ⟨.inl ⟨by simp only [Region.wanted, hy, hb, beq_self_eq_true], fun w => hp a ha _ _ _ _ _⟩, fun w => ?_⟩ (h _ (ha.put hd v))
  unfold Oper.about
  cases op with
  | call c =>
    obtain ⟨cal, args, ats⟩ := c
    cases cal with
    | builtin b => simp [resolve, Target.leads]
    | value f => cases hi
    | invoke f m => cases hi
  | _ => rfl
theorem WA.done (hr : Region.ready .any ol.toArray listed = []) (h : WX N ds .normal Q E w) : WA P N ds ol fuel listed Q E w := fun a ha => wpAnyIn_done hr (h a ha) _
def AllO (P : Program) (N : Nat) (ds : List Deferred) (ol : List Oper) (fuel : Nat) (listed : Array Bool) (Q : Post) (E : Env) (w : World) : List Nat → Prop
  | [] => True
  | i :: l => (∃ o, ol[i]? = some o ∧ WO P N ds ol fuel listed i o Q E w) ∧ AllO P N ds ol fuel listed Q E w l
theorem WA.all (rs : List Nat) (hr : Region.ready .any ol.toArray listed = rs) (hne : rs.isEmpty = false) (h : AllO P N ds ol fuel listed Q E w rs) : WA P N ds ol (fuel + 1) listed Q E w := by
  intro a ha
  refine wpAnyIn_all hr (by intro e; rw [e] at hne; cases hne) ?_
  clear hr hne
  induction rs with
  | nil => intro i hi; cases hi
  | cons i l ih =>
    intro j hj
    rcases List.mem_cons.1 hj with rfl | hj
    · obtain ⟨o, ho, h1⟩ := h.1
      have ho' : ol.toArray[j]? = some o := by simpa using ho
      unfold wpOpIn
      rw [ho']
      have h2 := h1 a ha
      dsimp only
      split
      · rename_i hw; rw [if_pos hw] at h2; exact h2
      · rename_i hw; rw [if_neg hw] at h2; exact ⟨fun _ _ => trivial, h2⟩
    · exact ih h.2 j hj
theorem WA.fold (h : WA P N ds ol fuel listed Q E w) : NX N ds (wpAnyIn (FW none) 0 P .any ol.toArray Q fuel listed) E w := h
theorem WO.one (h : W1 P none N ds (wpAnyIn (FW none) 0 P .any ol.toArray Q fuel (listed.setIfInBounds i true)) ⟨d, op, ty, pos, af, none⟩ Q E w) :
    WO P N ds ol fuel listed i ⟨d, op, ty, pos, af, none⟩ Q E w := fun a ha => by
  simp only [Region.wanted, if_true]
  exact h a ha
theorem WO.one_g {j : Nat} {want b : Bool} (hj : guardE ol E j = some b) (hb : b = want)
    (h : W1 P none N ds (wpAnyIn (FW none) 0 P .any ol.toArray Q fuel (listed.setIfInBounds i true)) ⟨d, op, ty, pos, af, some (j, want)⟩ Q E w) :
    WO P N ds ol fuel listed i ⟨d, op, ty, pos, af, some (j, want)⟩ Q E w := fun a ha => by
  have hy := guardE_spec hj ha
  simp only [Region.wanted, hy, hb, beq_self_eq_true, if_true]
  exact h a ha
end
end Go.Sx
/-
  The layer's laws for strings, slices that are made or grown, structs.
-/
namespace Go.Sx
open Go Go.RowKit

/-- Byte i of a string. -/
def sb (s : ByteArray) (i : Nat) : Nat := (s.data.toList.getD i 0).toNat
theorem ba_toList (s : ByteArray) : s.toList = s.data.toList := by
  exact Go.ByteArray.toList_eq s

section
variable {P : Program} {r : Option Nat} {N : Nat} {ds : List Deferred} {E : Env}
variable {t t' ty : TypeId} {x y : Operand} {k k' : IntKind} {m n : Int}

theorem POp.index_string {s : ByteArray} [h : UTy P t .string] (hx : Env.ev E x = some (.string s)) (hy : Env.ev E y = some (.int k n)) {i : Nat} (ei : n = (i : Int)) (h1 : i < s.size) :
    POp P N ds E (.index t x y) ty (.int .u8 ((sb s i : Nat) : Int)) := fun a ha d pos af g w => by
  obtain rfl : i = n.toNat := by omega
  have h0 : 0 ≤ n := by omega
  have hlt : n.toNat < s.size := h1
  have e : s[n.toNat]? = some s[n.toNat] := by simp [hlt]
  have e2 : sb s n.toNat = (s[n.toNat]).toNat := by
    unfold sb
    rw [List.getD_eq_getElem?_getD]
    have h5 : n.toNat < s.data.size := hlt
    have : s.data.toList[n.toNat]? = some s[n.toNat] := by
      rw [Array.getElem?_toList, Array.getElem?_eq_getElem h5]; rfl
    rw [this]; rfl
  simp [execOp, ha.ev hx, ha.ev hy, Instr.index, asIntOf, run_underlying h.is, Sem.run_bind, h0, e, e2]

theorem run_bound {k : IntKind} {i : Int} {y : Nat} {code : BoundsCode} {P : Program} {w : World} (h0 : 0 ≤ i) (h1 : i ≤ y) : (Instr.sliceBound (.int k i) y code).run P w = .ok i.toNat w := by
  simp [Instr.sliceBound, asIntOf, h0, h1]
theorem POp.sub_lh {s : ByteArray} {lo hi : Operand} [h : UTy P t .string] (hx : Env.ev E x = some (.string s)) (hl : Env.ev E lo = some (.int k m)) (hh : Env.ev E hi = some (.int k' n)) (h0 : 0 ≤ m) (h1 : m ≤ n) (h2 : n ≤ s.size) :
    POp P N ds E (.slice t x (some lo) (some hi) none) ty (.string (s.extract m.toNat n.toNat)) := fun a ha d pos af g w => by
  have hb : m ≤ ((n.toNat : Nat) : Int) := by omega
  simp [execOp, ha.ev hx, ha.ev hl, ha.ev hh, Instr.sliceAt, Instr.slice, run_underlying h.is, Instr.sliceBounds, run_bound (show 0 ≤ n by omega) h2, run_bound h0 hb, Sem.run_bind]

theorem POp.cat {s u : ByteArray} (hx : Env.ev E x = some (.string s)) (hy : Env.ev E y = some (.string u)) (h : s.size + u.size ≤ 9223372036854775807) :
    POp P N ds E (.binOp .add t x y t') ty (.string (s ++ u)) := POp.bin hx hy guard_str fun w => by
  have : ¬ (((s.size + u.size : Nat) : Int) > IntKind.i64.max) := by
    simp only [IntKind.max, IntKind.signed, IntKind.bits]; omega
  simp only [Go.binOp, Op.stringOp]
  rw [if_neg this]; rfl
theorem str_eq (s u : ByteArray) : (s.toList == u.toList) = decide (s = u) := by
  rw [ba_toList, ba_toList]
  by_cases h : s = u
  · subst h; simp
  · have : ¬ s.data.toList = u.data.toList := fun e => h (by cases s; cases u; exact congrArg ByteArray.mk (Array.toList_inj.1 e))
    rw [decide_eq_false h]; exact beq_eq_false_iff_ne.2 this
theorem POp.seql {s u : ByteArray} (hx : Env.ev E x = some (.string s)) (hy : Env.ev E y = some (.string u)) :
    POp P N ds E (.binOp .eql t x y t') ty (.bool (decide (s = u))) := POp.bin hx hy guard_str fun w => by
  simp only [Go.binOp, Op.stringOp, str_eq]; rfl
theorem POp.sneq {s u : ByteArray} (hx : Env.ev E x = some (.string s)) (hy : Env.ev E y = some (.string u)) :
    POp P N ds E (.binOp .neq t x y t') ty (.bool (decide (¬ s = u))) := POp.bin hx hy guard_str fun w => by
  simp only [Go.binOp, Op.stringOp, str_eq]
  by_cases h : s = u <;> simp [h]
theorem POp.beql {b c : Bool} [h : UTy P t .bool] (hx : Env.ev E x = some (.bool b)) (hy : Env.ev E y = some (.bool c)) :
    POp P N ds E (.binOp .eql t x y t') ty (.bool (b == c)) := POp.bin hx hy guard_bool fun w => by
  exact run_eql_bool w t b c h.is
theorem POp.bneq {b c : Bool} [h : UTy P t .bool] (hx : Env.ev E x = some (.bool b)) (hy : Env.ev E y = some (.bool c)) :
    POp P N ds E (.binOp .neq t x y t') ty (.bool (!(b == c))) := POp.bin hx hy guard_bool fun w => by
  exact run_neq_bool w t b c h.is

/- slices of slices -/
theorem POp.cut_h {e : TypeId} {b off l c : Nat} {z : Value} {sz bb : Nat} {hi : Operand} [h : UTy P t (.slice e)] [hi' : ITy P e z sz bb] (hx : Env.ev E x = some (.slice (some ⟨b, off, none⟩) l c))
    (hh : Env.ev E hi = some (.int k' n)) (h1 : 0 ≤ n) (h2 : n ≤ c) :
    POp P N ds E (.slice t x none (some hi) none) ty (.slice (some ⟨b, off, none⟩) n.toNat c) := fun a ha d pos af g w => by
  by_cases hc : c = 0
  · subst hc
    simp [execOp, ha.ev hx, ha.ev hh, Instr.sliceAt, Instr.slice, run_underlying h.is, Instr.sliceBounds, run_bound h1 (show n ≤ ((0 : Nat) : Int) from h2), Sem.run_bind, run_sizeOf]
  · simp [execOp, ha.ev hx, ha.ev hh, Instr.sliceAt, Instr.slice, run_underlying h.is, Instr.sliceBounds, run_bound h1 h2, Sem.run_bind, run_sizeOf, hc, add_lit]

/- structs by value -/
theorem POp.fieldAddr {f off : Nat} {ft : TypeId} {b o n bb : Nat} {z : Value} [h : FTy P t f off ft] [hi : ITy P ft z n bb] (hn : Nat.beq n 0 = false) (hx : Env.ev E x = some (.pointer (some ⟨b, o, none⟩))) :
    POp P N ds E (.fieldAddr t x f) ty (.pointer (some ⟨b, o + off, none⟩)) := fun a ha d pos af g w => by
  have h1 := h.is
  have hn' : n ≠ 0 := fun e => by subst e; cases hn
  unfold fieldOf at h1
  cases hu : P.underlying t with
  | none => rw [hu] at h1; cases h1
  | some du =>
    rw [hu] at h1
    cases du with
    | struct fs =>
      simp only [Option.map_eq_some_iff] at h1
      obtain ⟨fl, h2, h3⟩ := h1
      simp only [Prod.mk.injEq] at h3
      obtain ⟨h3, h4⟩ := h3
      have hS : (sizeOf fl.type).run P w = .ok n w := by rw [h4]; exact run_sizeOf
      simp [execOp, ha.ev hx, Instr.fieldAt, Instr.sureAddr, run_underlying hu, h2, fieldPlace, hS, hn', h3, add_lit, Sem.run_bind]
    | _ => cases h1
theorem POp.field {f off : Nat} {ft : TypeId} {cs : List Value} {v : Value} [h : FTy P t f off ft] [ha' : ATy P ft false] (hx : Env.ev E x = some (.agg cs.toArray)) (hv : cs[off]? = some v) :
    POp P N ds E (.field t x f) ty v := fun a ha d pos af g w => by
  have h1 := h.is
  unfold fieldOf at h1
  cases hu : P.underlying t with
  | none => rw [hu] at h1; cases h1
  | some du =>
    rw [hu] at h1
    cases du with
    | struct fs =>
      simp only [Option.map_eq_some_iff] at h1
      obtain ⟨fl, h2, h3⟩ := h1
      simp only [Prod.mk.injEq] at h3
      obtain ⟨h3, h4⟩ := h3
      have hA : (isAgg fl.type).run P w = .ok false w := by rw [h4]; exact run_isAgg
      simp [execOp, ha.ev hx, Instr.field, run_underlying hu, h2, asAgg, part, hA, h3, hv, Sem.run_bind]
    | _ => cases h1
end

section
variable {P : Program} {r : Option Nat} {N : Nat} {ds : List Deferred} {ol rest : List Oper} {Q : Post} {E : Env} {w : World} {next : Act → World → Prop} {g : Option (Nat × Bool)}
variable {d : Nat} {t t' ty : TypeId} {pos : String} {af : Array Edge} {x y : Operand} {k k' : IntKind} {m n : Int}

/- make -/

/- a literal of a slice, each element one cell, all written -/

/- string(b) -/
theorem W1.bytes_string {dst e : TypeId} {a : Addr} {l : List UInt8} {len cap : Nat} [h : UTy P t (.slice e)] [he : UTy P e (.int .u8)] [hs : UTy P dst .string] (hx : Env.ev E x = some (.slice (some a) len cap)) (hl : len = l.length)
    (hc : ∀ j (hj : j < l.length), w.cell? (a.add j) = some (.int .u8 (l[j].toNat : Int))) (hd : Nat.blt d N = true)
    (hn : NX N ds next ((d, .string ⟨l.toArray⟩) :: E) w) : W1 P r N ds next ⟨some d, .convert t dst x, ty, pos, af, g⟩ Q E w :=
  W1.run (fun b hb => by
    subst hl
    simp only [execOp, hb.ev hx, Sem.run_bind, run_convert_bytes_back w t dst e a cap l h.is he.is hs.is hc, Result.andThen, Sem.run_pure]) rfl hd hn

/- append onto a slice of the call's own -/
end
end Go.Sx
/-
  The layer's laws for a range over a function: the caller's statement, one round, the call of yield.
-/
namespace Go.Sx
open Go Go.RowKit

/-- Nothing has turned but block l, which stays a block of its kind. -/
structure Upd1 (l : Nat) (w w' : World) : Prop where
  os : w'.os = w.os
  tape : w'.tape = w.tape
  output : w'.output = w.output
  size : w'.heap.size = w.heap.size
  block : ∀ k, k ≠ l → w'.heap[k]? = w.heap[k]?
theorem Upd1.put (w : World) (l : Nat) (o : Obj) : Upd1 l w (w.putObj l o) := ⟨rfl, rfl, rfl, by simp, fun _ hk => World.putObj_heap_other hk⟩

section
variable {P : Program} {r : Option Nat} {N : Nat} {ds : List Deferred} {ol rest : List Oper} {Q : Post} {E : Env} {w : World} {next : Act → World → Prop} {g : Option (Nat × Bool)}

/-- The record of a loop over a function, as block l. -/
def LoopAt (N : Nat) (E : Env) (ps : List Nat) (assign body : Code) (st : LoopState) (pe : Option Code) (l : Nat) (W : World) : Prop :=
  ∃ rec : Loop, W.heap[l]? = some (.loop rec) ∧ rec.state = st ∧ rec.pending = pe ∧ rec.params = ps.toArray ∧ rec.assign = assign ∧ rec.body = body ∧ Rep N [] E ⟨rec.tmps, []⟩
theorem LoopAt.keep {E : Env} {ps : List Nat} {assign body : Code} {st : LoopState} {pe : Option Code} {l : Nat} {W W' : World} (h : LoopAt N E ps assign body st pe l W) (hk : W'.heap[l]? = W.heap[l]?) : LoopAt N E ps assign body st pe l W' := by
  obtain ⟨rec, h1, h2⟩ := h
  exact ⟨rec, hk.trans h1, h2⟩

/-- How a round may end. -/
def RP (N : Nat) (E : Env) (ps : List Nat) (assign body : Code) (l : Nat) (R : Bool → World → Prop) : Post
  | .normal, _, W => LoopAt N E ps assign body .busy none l W ∧ ∀ W', Upd1 l W W' → LoopAt N E ps assign body .ready none l W' → R true W'
  | .ret, _, W => LoopAt N E ps assign body .busy none l W ∧ ∀ W', Upd1 l W W' → LoopAt N E ps assign body .done (some .ret) l W' → R false W'
  | .exit id, _, W => LoopAt N E ps assign body .busy none l W ∧ ∀ W', Upd1 l W W' → LoopAt N E ps assign body .done (some (.exit id)) l W' → R false W'
  | _, _, _ => False
/-- What is asked behind the assignment to the loop's variables. -/
def RA (P : Program) (N : Nat) (E : Env) (ps : List Nat) (assign body : Code) (l : Nat) (R : Bool → World → Prop) : Post
  | .normal, a, W => LoopAt N E ps assign body .ready none l W ∧ ∀ W', Upd1 l W W' → LoopAt N E ps assign body .busy none l W' → body.wpIn (FW (some l)) 0 P (RP N E ps assign body l R) a W'
  | _, _, _ => False
theorem WX.ra {E0 : Env} {ps : List Nat} {assign body : Code} {l : Nat} {R : Bool → World → Prop} (h1 : LoopAt N E0 ps assign body .ready none l w)
    (h2 : ∀ w', Upd1 l w w' → LoopAt N E0 ps assign body .busy none l w' → WC P (some l) N [] body (RP N E0 ps assign body l R) E w') : WX N [] .normal (RA P N E0 ps assign body l R) E w :=
  fun a ha => ⟨h1, fun w' hw hl => h2 w' hw hl a ha⟩
theorem WX.rp_n {E0 : Env} {ps : List Nat} {assign body : Code} {l : Nat} {R : Bool → World → Prop} (h1 : LoopAt N E0 ps assign body .busy none l w)
    (h2 : ∀ w', Upd1 l w w' → LoopAt N E0 ps assign body .ready none l w' → R true w') : WX N [] .normal (RP N E0 ps assign body l R) E w := fun _ _ => ⟨h1, h2⟩

/-- A call of yield comes to this. -/
def Yld (P : Program) (l : Nat) (args : List Value) (W : World) (R : Bool → World → Prop) : Prop :=
  ∃ fn tmps assign body, (Instr.yield l args.toArray).run P W = .ok (.round l fn tmps assign body) W ∧ RoundIn (FW none) 0 P l fn tmps assign body W fun e W' => ∃ b, e = .returned (.bool b) ∧ R b W'

def putAll : List (Nat × Value) → Env → Env
  | [], E => E
  | (t, v) :: l, E => putAll l ((t, v) :: E)
theorem rep_putAll : ∀ (l : List (Nat × Value)) (E : Env) (tmps : Array Value), (∀ p ∈ l, p.1 < N) → Rep N [] E ⟨tmps, []⟩ →
    Rep N [] (putAll l E) ⟨l.foldl (fun t p => t.setIfInBounds p.1 p.2) tmps, []⟩
  | [], _, _, _, h => h
  | (t, v) :: l, E, tmps, hl, h => by
    have ht : t < N := hl (t, v) (by simp)
    have h1 := h.put (d := t) (by simpa [Nat.blt_eq] using ht) v
    exact rep_putAll l _ _ (fun p hp => hl p (by simp [hp])) h1

theorem Yld.of {ps : List Nat} {assign body : Code} {l : Nat} {args : List Value} {R : Bool → World → Prop} (hL : LoopAt N E ps assign body .ready none l w) (hlen : args.length = ps.length) (hps : (ps.all (Nat.blt · N)) = true)
    (h : WC P (some l) N [] assign (RA P N E ps assign body l R) (putAll (ps.zip args) E) w) : Yld P l args w R := by
  obtain ⟨rec, h1, h2, h3, h4, rfl, rfl, h7⟩ := hL
  have hy := run_yield (P := P) (args := args.toArray) h1 (by simp [h4, hlen])
  refine ⟨_, _, _, _, hy, roundIn_of_wpIn trivial ?_⟩
  have hrep : Rep N [] (putAll (ps.zip args) E) ⟨(rec.params.zip args.toArray).foldl (fun tmps (p : Nat × Value) => tmps.setIfInBounds p.1 p.2) rec.tmps, []⟩ := by
    have := rep_putAll (ps.zip args) E rec.tmps (fun p hp => by
      have h8 := (List.of_mem_zip hp).1
      have := List.all_eq_true.1 hps _ h8
      simpa [Nat.blt_eq] using this) h7
    rw [h4]
    simpa using this
  have hw := h _ hrep
  refine wpIn_mono hw ?_
  intro e a W hq
  cases e with
  | normal =>
    obtain ⟨⟨rec1, g1, g2, g3, g4, g5, g6, g7⟩, hq⟩ := hq
    refine ⟨_, run_beginRound g1 g2, ?_⟩
    have hl1 : l < W.heap.size := (Array.getElem?_eq_some_iff.1 g1).1
    have hb := hq (W.putObj l (.loop { rec1 with state := .busy })) (Upd1.put _ _ _) ⟨{ rec1 with state := .busy }, World.putObj_heap_same hl1, rfl, g3, g4, g5, g6, g7⟩
    refine wpIn_mono hb ?_
    intro e a2 W2 hq2
    cases e with
    | normal =>
      obtain ⟨⟨rec2, f1, f2, f3, f4, f5, f6, f7⟩, hq2⟩ := hq2
      refine ⟨_, _, run_endRound none f1, _, rfl, hq2 _ (Upd1.put _ _ _) ⟨_, World.putObj_heap_same (Array.getElem?_eq_some_iff.1 f1).1, rfl, rfl, f4, f5, f6, f7⟩⟩
    | ret =>
      obtain ⟨⟨rec2, f1, f2, f3, f4, f5, f6, f7⟩, hq2⟩ := hq2
      refine ⟨_, _, run_endRound (some .ret) f1, _, rfl, hq2 _ (Upd1.put _ _ _) ⟨_, World.putObj_heap_same (Array.getElem?_eq_some_iff.1 f1).1, rfl, rfl, f4, f5, f6, f7⟩⟩
    | exit id =>
      obtain ⟨⟨rec2, f1, f2, f3, f4, f5, f6, f7⟩, hq2⟩ := hq2
      refine ⟨_, _, run_endRound (some (.exit id)) f1, _, rfl, hq2 _ (Upd1.put _ _ _) ⟨_, World.putObj_heap_same (Array.getElem?_eq_some_iff.1 f1).1, rfl, rfl, f4, f5, f6, f7⟩⟩
    | goto t => exact hq2.elim
    | panic c => exact hq2.elim
    | outgrown => exact hq2.elim
  | exit id => exact hq.elim
  | goto l => exact hq.elim
  | ret => exact hq.elim
  | panic c => exact hq.elim
  | outgrown => exact hq.elim

/-- The call of yield. -/
theorem W1.yield {d : Option Nat} {x : Operand} {l : Nat} {args : List Operand} {ats : Array TypeId} {ty : TypeId} {pos : String} {af : Array Edge} {vs : List Value} {R : Bool → World → Prop}
    (hd : dOk d N = true) (hx : Env.ev E x = some (.func (.yield l) #[] #[])) (ha : Env.evs E args = some vs) (hc : Yld P l vs w R)
    (h : ∀ b w', R b w' → NX N ds next (putE d (.bool b) E) w') :
    W1 P r N ds next ⟨d, .call ⟨.value x, args.toArray, ats⟩, ty, pos, af, g⟩ Q E w := by
  intro a hr
  obtain ⟨fn, tmps, assign, body, hy, hround⟩ := hc
  refine ⟨fun _ _ => trivial, ?_⟩
  have hrun : (execOp a.eval ⟨d, .call ⟨.value x, args.toArray, ats⟩, ty, pos, af, g⟩).run P w = .ok (.round l fn tmps assign body) w := by
    have hm : Array.map a.eval args.toArray = vs.toArray := by simp [hr.evs ha]
    simp [execOp, resolve, hm, hr.ev hx, Deferred.ofValue, invoke, hy]
  rw [semAt_of rfl, hrun]
  refine ⟨fun h => by simp [FW] at h, trivial, fun c cs hroom => ?_⟩
  obtain ⟨e, w', ⟨b, he, hR⟩, hs⟩ := hround.2 c cs (FW_room _ _)
  subst he
  exact ⟨.returned (.bool b), w', h b w' hR _ (hr.putO hd _), hs⟩

def markOf (D : Nat) : Deferred := { target := .collected D, args := #[] }
/-- 'for .. := range g { .. }', outermost. -/
theorem WC.rangeFunc {x : Operand} {ps : List Nat} {assign body : Code} {gf : FuncId} {lb : List Value} [hcf : CallOk P gf] (hg : Env.ev E x = some (.func (.func gf) #[] lb.toArray))
    (h : ∀ w1, Ext w w1 → w1.heap.size = w.heap.size + 2 → LoopAt N E ps assign body .ready none (w.heap.size + 1) w1 → w1.heap[w.heap.size]? = some (.deferred (some [])) →
      Fn P gf (.func (.yield (w.heap.size + 1)) #[] #[] :: lb).toArray w1 fun _ w2 =>
        (LoopAt N E ps assign body .ready none (w.heap.size + 1) w2 ∧ ∀ w3, Upd1 (w.heap.size + 1) w2 w3 → WX N (markOf w.heap.size :: ds) .normal Q E w3) ∨
        (∃ c, LoopAt N E ps assign body .done (some c) (w.heap.size + 1) w2 ∧ ∀ w3, Upd1 (w.heap.size + 1) w2 w3 → WC P none N (markOf w.heap.size :: ds) c Q E w3)) :
    WC P none N ds (.rangeFunc x ps.toArray assign body) Q E w := by
  intro a ha
  refine wpIn_rangeFunc ?_
  intro fn hfn
  have hm : Rep N (markOf w.heap.size :: ds) E { a with defers := [markOf w.heap.size] ++ a.defers } := ⟨ha.size, by simp [ha.defers], ha.get⟩
  obtain ⟨W1, hW1⟩ : ∃ W1, (w.alloc (.deferred (some []))).alloc (.loop { state := .ready, pending := none, fn, tmps := a.tmps, params := ps.toArray, assign, body, defers := w.heap.size }) = W1 := ⟨_, rfl⟩
  have he := run_enterLoop_outer (P := P) (w := w) fn a.tmps ps.toArray assign body
  rw [hW1] at he
  refine ⟨_, _, W1, { target := .fn (.func gf) lb.toArray, args := #[.func (.yield (w.heap.size + 1)) #[] #[]] }, W1, gf, (.func (.yield (w.heap.size + 1)) #[] #[] :: lb).toArray, W1, he, ?_, fun _ _ => trivial, ?_, fun h => by simp [FW] at h, ?_⟩
  · simp only [resolve, ha.ev hg]
    simp [Deferred.ofValue, Act.eval]
  · have : (#[Value.func (.yield (w.heap.size + 1)) #[] #[]] ++ lb.toArray) = (Value.func (.yield (w.heap.size + 1)) #[] #[] :: lb).toArray := by simp
    simp only [invoke, this, hcf.run]
  · subst hW1
    have hc := h ((w.alloc (.deferred (some []))).alloc (.loop { state := .ready, pending := none, fn, tmps := a.tmps, params := ps.toArray, assign, body, defers := w.heap.size }))
      (((Below.refl _ w).alloc (Nat.le_refl _) _).alloc (by simp) _) (by simp) ⟨_, by rw [show w.heap.size + 1 = (w.alloc (.deferred (some []))).heap.size by simp]; exact World.alloc_heap_new _ _, rfl, rfl, rfl, rfl, rfl, ⟨ha.size, rfl, ha.get⟩⟩
      (by rw [Below.heap_alloc _ _ _ (by simp)]; exact World.alloc_heap_new w _)
    refine (callsIn_wide (n := 0)).2 (Calls.mono hc ?_)
    rintro e w2 ⟨v, rfl, (⟨hl, hq⟩ | ⟨c, hl, hq⟩)⟩
    · obtain ⟨rec, h1, h2, h3, h4⟩ := hl
      have := run_endLoop (P := P) h1 (by rw [h2]; simp)
      rw [h3] at this
      exact ⟨none, _, this, hq _ (Upd1.put _ _ _) _ hm⟩
    · obtain ⟨rec, h1, h2, h3, h4⟩ := hl
      have := run_endLoop (P := P) h1 (by rw [h2]; simp)
      rw [h3] at this
      exact ⟨some c, _, this, hq _ (Upd1.put _ _ _) _ hm⟩

/-- The same with a name for the record. -/
theorem WC.rangeFunc' {x : Operand} {ps : List Nat} {assign body : Code} {gf : FuncId} {lb : List Value} [hcf : CallOk P gf] (hg : Env.ev E x = some (.func (.func gf) #[] lb.toArray))
    (h : ∀ w1 D l (L : LoopState → Option Code → World → Prop), (∀ st pe W, L st pe W ↔ LoopAt N E ps assign body st pe l W) → w.heap.size = D → D + 1 = l → w1.heap.size = l + 1 → Ext w w1 → L .ready none w1 → w1.heap[D]? = some (.deferred (some [])) →
      Fn P gf (.func (.yield l) #[] #[] :: lb).toArray w1 fun _ w2 =>
        (L .ready none w2 ∧ ∀ w3, Upd1 l w2 w3 → WX N (markOf D :: ds) .normal Q E w3) ∨
        (∃ c, L .done (some c) w2 ∧ ∀ w3, Upd1 l w2 w3 → WC P none N (markOf D :: ds) c Q E w3)) :
    WC P none N ds (.rangeFunc x ps.toArray assign body) Q E w :=
  WC.rangeFunc hg fun w1 hx hs hl hd => h w1 _ _ (fun st pe W => LoopAt N E ps assign body st pe (w.heap.size + 1) W) (fun _ _ _ => Iff.rfl) rfl rfl hs hx hl hd

/- a function that holds such a loop -/
theorem enterM {f : FuncId} {fn : Func} {c : Code} {l : List Value} {R : Value → World → Prop} [hf : FnIs P f fn] (hb : fn.body = some c) (hN : fn.ntmps = N) (hl : Nat.ble l.length N = true)
    (h : WC P none N [] c (bodyPostM Fence.wide 0 P fn (RetP R)) (Env.of 0 l) w) : Fn P f l.toArray w R := by
  refine (callsIn_wide (n := 0)).1 (callsIn_of_wp_marks hf.is hb trivial ?_ rfl)
  have hl' : l.length ≤ N := by simpa using hl
  refine h _ ⟨by simp [hN]; omega, rfl, fun t v ht => ?_⟩
  obtain ⟨-, h2⟩ := Env.of_g l 0 t v ht
  have hlt : t < l.length := by
    rcases Nat.lt_or_ge t l.length with h | h
    · exact h
    · simp [List.getElem?_eq_none h] at h2
  rw [Array.getElem?_append_left (by simpa using hlt)]
  simpa using h2
theorem WX.retM2 {fn : Func} {t u D : Nat} {v v' : Value} {R : Value → World → Prop} (hr : fn.results = #[.tmp t, .tmp u]) (hv : Env.g E t = some v) (hv' : Env.g E u = some v') (hD : w.heap[D]? = some (.deferred (some [])))
    (h : ∀ w', Upd1 D w w' → R (.tuple #[v, v']) w') : WX N [markOf D] .ret (bodyPostM Fence.wide 0 P fn (RetP R)) E w := fun a ha => by
  simp only [bodyPostM, ha.defers]
  refine ⟨by simp, .inl ⟨D, _, rfl, run_takeDeferred hD, ?_⟩⟩
  exact ⟨_, results_tmp2 hr _ _ _, _, rfl, by simp only [Array.getD_eq_getD_getElem?, ha.get _ _ hv, ha.get _ _ hv']; exact h _ (Upd1.put _ _ _)⟩
end
end Go.Sx
/-
  The layer's laws whose small premises prove themselves.
-/
namespace Go.Sx
open Go Go.RowKit
section
variable {P : Program} {r : Option Nat} {N : Nat} {ds : List Deferred} {ol rest : List Oper} {Q : Post} {E : Env} {w : World} {fuel : Nat} {listed : Array Bool} {next : Act → World → Prop} {g : Option (Nat × Bool)}
variable {d : Nat} {op : Op} {ty : TypeId} {pos : String} {af : Array Edge} {v : Value}
theorem WL.pa (h : WL P r N ds ol rest Q ((d, v) :: E) w)
    (hp : POp P N ds E op ty v := by
      first
        | (apply POp.move; rfl)
        | (apply POp.assign; rfl)
        | (apply POp.extract; rfl; rfl)
        | (apply POp.len_slice; rfl)
        | (apply POp.len_string; rfl)
        | (apply POp.lss; rfl; rfl)
        | (apply POp.leq; rfl; rfl)
        | (apply POp.gtr; rfl; rfl)
        | (apply POp.geq; rfl; rfl)
        | (apply POp.eql; rfl; rfl)
        | (apply POp.neq; rfl; rfl)
        | (apply POp.not_d; rfl)
        | (apply POp.not_b; rfl)
        | (apply POp.add; rfl; rfl; omega; omega)
        | (apply POp.sub; rfl; rfl; omega; omega)
        | (apply POp.xor; rfl; rfl; (first | with_reducible exact cst _ | with_reducible exact lit _ | exact rfl); (first | with_reducible exact cst _ | with_reducible exact lit _ | exact rfl); (first | omega | assumption | decide | (refine Nat.lt_of_le_of_lt (Nat.shiftRight_le _ _) ?_; omega) | (refine Nat.lt_of_le_of_lt Nat.and_le_right ?_; omega) | (refine Nat.lt_of_le_of_lt Nat.and_le_left ?_; omega) | (refine Nat.xor_lt_two_pow (n := 63) ?_ ?_ <;> omega)); (first | omega | assumption | decide | (refine Nat.lt_of_le_of_lt (Nat.shiftRight_le _ _) ?_; omega) | (refine Nat.lt_of_le_of_lt Nat.and_le_right ?_; omega) | (refine Nat.lt_of_le_of_lt Nat.and_le_left ?_; omega) | (refine Nat.xor_lt_two_pow (n := 63) ?_ ?_ <;> omega)))
        | (apply POp.xor8; rfl; rfl; (first | with_reducible exact cst _ | with_reducible exact lit _ | exact rfl); (first | with_reducible exact cst _ | with_reducible exact lit _ | exact rfl); (first | omega | assumption); (first | omega | assumption))
        | (apply POp.and; rfl; rfl; (first | with_reducible exact cst _ | with_reducible exact lit _ | exact rfl); (first | with_reducible exact cst _ | with_reducible exact lit _ | exact rfl); (first | omega | assumption | decide | (refine Nat.lt_of_le_of_lt (Nat.shiftRight_le _ _) ?_; omega) | (refine Nat.lt_of_le_of_lt Nat.and_le_right ?_; omega) | (refine Nat.lt_of_le_of_lt Nat.and_le_left ?_; omega) | (refine Nat.xor_lt_two_pow (n := 63) ?_ ?_ <;> omega)); (first | omega | assumption | decide | (refine Nat.lt_of_le_of_lt (Nat.shiftRight_le _ _) ?_; omega) | (refine Nat.lt_of_le_of_lt Nat.and_le_right ?_; omega) | (refine Nat.lt_of_le_of_lt Nat.and_le_left ?_; omega) | (refine Nat.xor_lt_two_pow (n := 63) ?_ ?_ <;> omega)))
        | (apply POp.or; rfl; rfl; (first | with_reducible exact cst _ | with_reducible exact lit _ | exact rfl); (first | with_reducible exact cst _ | with_reducible exact lit _ | exact rfl); (first | omega | assumption | decide | (refine Nat.lt_of_le_of_lt (Nat.shiftRight_le _ _) ?_; omega) | (refine Nat.lt_of_le_of_lt Nat.and_le_right ?_; omega) | (refine Nat.lt_of_le_of_lt Nat.and_le_left ?_; omega) | (refine Nat.xor_lt_two_pow (n := 63) ?_ ?_ <;> omega)); (first | omega | assumption | decide | (refine Nat.lt_of_le_of_lt (Nat.shiftRight_le _ _) ?_; omega) | (refine Nat.lt_of_le_of_lt Nat.and_le_right ?_; omega) | (refine Nat.lt_of_le_of_lt Nat.and_le_left ?_; omega) | (refine Nat.xor_lt_two_pow (n := 63) ?_ ?_ <;> omega)))
        | (apply POp.shr; rfl; rfl; (first | with_reducible exact cst _ | with_reducible exact lit _ | exact rfl); (first | with_reducible exact cst _ | with_reducible exact lit _ | exact rfl); omega)
        | (apply POp.shl; rfl; rfl; (first | with_reducible exact cst _ | with_reducible exact lit _ | exact rfl); (first | with_reducible exact cst _ | with_reducible exact lit _ | exact rfl); omega; (first | omega | assumption | decide | (refine Nat.lt_of_le_of_lt (Nat.shiftRight_le _ _) ?_; omega) | (refine Nat.lt_of_le_of_lt Nat.and_le_right ?_; omega) | (refine Nat.lt_of_le_of_lt Nat.and_le_left ?_; omega) | (refine Nat.xor_lt_two_pow (n := 63) ?_ ?_ <;> omega)))
        | (apply POp.quo; rfl; rfl; omega; omega; omega)
        | (apply POp.rem; rfl; rfl; omega; omega)
        | (apply POp.min_int; rfl; rfl)
        | (apply POp.max_int; rfl; rfl)
        | (apply POp.conv_i64; rfl; omega; omega)
        | (apply POp.index_slice; rfl; rfl; omega; omega; (first | (simp only [Nat.zero_add, Nat.add_zero, Nat.mul_one, Int.toNat_natCast, Int.reduceToNat, Nat.reduceMul, Nat.reduceAdd]; done) | (simp only [Nat.zero_add, Nat.add_zero, Nat.mul_one, Int.toNat_natCast, Int.reduceToNat, Nat.reduceMul, Nat.reduceAdd]; rfl) | rfl))
        | (apply POp.index_array; rfl; rfl; omega; omega; (first | (simp only [Nat.zero_add, Nat.add_zero, Nat.mul_one, Int.toNat_natCast, Int.reduceToNat, Nat.reduceMul, Nat.reduceAdd]; done) | (simp only [Nat.zero_add, Nat.add_zero, Nat.mul_one, Int.toNat_natCast, Int.reduceToNat, Nat.reduceMul, Nat.reduceAdd]; rfl) | rfl))
        | (apply POp.makeFunc; rfl; rfl)
        | (apply POp.index_string; rfl; rfl; (first | with_reducible exact cst _ | with_reducible exact lit _ | exact rfl); omega)
        | (apply POp.sub_lh; rfl; rfl; rfl; omega; omega; omega)
        | (apply POp.sub_h; rfl; rfl; omega; omega)
        | (apply POp.sub_l; rfl; rfl; omega; omega)
        | (apply POp.seql; rfl; rfl)
        | (apply POp.sneq; rfl; rfl)
        | (apply POp.conv_u8; rfl; omega; omega)
        | (apply POp.mul; rfl; rfl; omega; omega)
        | (refine POp.pick_t rfl ?_ rfl; (first | with_reducible rfl | assumption | (simp only [Bool.not_true, Bool.not_false]; done) | (simp only [decide_eq_true_eq, decide_eq_false_iff_not, Bool.not_true, Bool.not_false, not_true_eq_false, not_false_eq_true, reduceCtorEq]; first | done | assumption | omega)))
        | (refine POp.pick_f rfl ?_ rfl; (first | with_reducible rfl | assumption | (simp only [Bool.not_true, Bool.not_false]; done) | (simp only [decide_eq_true_eq, decide_eq_false_iff_not, Bool.not_true, Bool.not_false, not_true_eq_false, not_false_eq_true, reduceCtorEq]; first | done | assumption | omega)))
        | (apply POp.neg; rfl; omega; omega)
        | (apply POp.cat; rfl; rfl; omega)
        | (apply POp.beql; rfl; rfl)
        | (apply POp.bneq; rfl; rfl)
        | (apply POp.field; rfl; rfl)
        | (refine POp.fieldAddr rfl rfl)
        | (apply POp.cut_h; rfl; rfl; omega; omega)
        | (apply POp.xor32; rfl; rfl)
        | (apply POp.and32; rfl; rfl)
        | (apply POp.or32; rfl; rfl)
        | (apply POp.add32; rfl; rfl)
        | (apply POp.not32; rfl)
        | (apply POp.shl32; rfl; rfl; (first | with_reducible exact cst _ | with_reducible exact lit _ | exact rfl); omega)
        | (apply POp.shr32; rfl; rfl; (first | with_reducible exact cst _ | with_reducible exact lit _ | exact rfl); omega)
        | (apply POp.conv832; rfl)
        | (apply POp.conv328; rfl)
        | (apply POp.conv648; rfl)) (hi : isDefer op = false := by exact rfl) (hd : Nat.blt d N = true := by exact rfl) :
    WL P r N ds ol (⟨some d, op, ty, pos, af, none⟩ :: rest) Q E w := WL.p hp hi hd h
theorem WA.pa [hq : QPanic Q] (i : Nat) (ho : ol[i]? = some ⟨some d, op, ty, pos, af, none⟩) (h : WA P N ds ol fuel (listed.setIfInBounds i true) Q ((d, v) :: E) w)
    (hp : POp P N ds E op ty v := by
      first
        | (apply POp.move; rfl)
        | (apply POp.assign; rfl)
        | (apply POp.extract; rfl; rfl)
        | (apply POp.len_slice; rfl)
        | (apply POp.len_string; rfl)
        | (apply POp.lss; rfl; rfl)
        | (apply POp.leq; rfl; rfl)
        | (apply POp.gtr; rfl; rfl)
        | (apply POp.geq; rfl; rfl)
        | (apply POp.eql; rfl; rfl)
        | (apply POp.neq; rfl; rfl)
        | (apply POp.not_d; rfl)
        | (apply POp.not_b; rfl)
        | (apply POp.add; rfl; rfl; omega; omega)
        | (apply POp.sub; rfl; rfl; omega; omega)
        | (apply POp.xor; rfl; rfl; (first | with_reducible exact cst _ | with_reducible exact lit _ | exact rfl); (first | with_reducible exact cst _ | with_reducible exact lit _ | exact rfl); (first | omega | assumption | decide | (refine Nat.lt_of_le_of_lt (Nat.shiftRight_le _ _) ?_; omega) | (refine Nat.lt_of_le_of_lt Nat.and_le_right ?_; omega) | (refine Nat.lt_of_le_of_lt Nat.and_le_left ?_; omega) | (refine Nat.xor_lt_two_pow (n := 63) ?_ ?_ <;> omega)); (first | omega | assumption | decide | (refine Nat.lt_of_le_of_lt (Nat.shiftRight_le _ _) ?_; omega) | (refine Nat.lt_of_le_of_lt Nat.and_le_right ?_; omega) | (refine Nat.lt_of_le_of_lt Nat.and_le_left ?_; omega) | (refine Nat.xor_lt_two_pow (n := 63) ?_ ?_ <;> omega)))
        | (apply POp.xor8; rfl; rfl; (first | with_reducible exact cst _ | with_reducible exact lit _ | exact rfl); (first | with_reducible exact cst _ | with_reducible exact lit _ | exact rfl); (first | omega | assumption); (first | omega | assumption))
        | (apply POp.and; rfl; rfl; (first | with_reducible exact cst _ | with_reducible exact lit _ | exact rfl); (first | with_reducible exact cst _ | with_reducible exact lit _ | exact rfl); (first | omega | assumption | decide | (refine Nat.lt_of_le_of_lt (Nat.shiftRight_le _ _) ?_; omega) | (refine Nat.lt_of_le_of_lt Nat.and_le_right ?_; omega) | (refine Nat.lt_of_le_of_lt Nat.and_le_left ?_; omega) | (refine Nat.xor_lt_two_pow (n := 63) ?_ ?_ <;> omega)); (first | omega | assumption | decide | (refine Nat.lt_of_le_of_lt (Nat.shiftRight_le _ _) ?_; omega) | (refine Nat.lt_of_le_of_lt Nat.and_le_right ?_; omega) | (refine Nat.lt_of_le_of_lt Nat.and_le_left ?_; omega) | (refine Nat.xor_lt_two_pow (n := 63) ?_ ?_ <;> omega)))
        | (apply POp.or; rfl; rfl; (first | with_reducible exact cst _ | with_reducible exact lit _ | exact rfl); (first | with_reducible exact cst _ | with_reducible exact lit _ | exact rfl); (first | omega | assumption | decide | (refine Nat.lt_of_le_of_lt (Nat.shiftRight_le _ _) ?_; omega) | (refine Nat.lt_of_le_of_lt Nat.and_le_right ?_; omega) | (refine Nat.lt_of_le_of_lt Nat.and_le_left ?_; omega) | (refine Nat.xor_lt_two_pow (n := 63) ?_ ?_ <;> omega)); (first | omega | assumption | decide | (refine Nat.lt_of_le_of_lt (Nat.shiftRight_le _ _) ?_; omega) | (refine Nat.lt_of_le_of_lt Nat.and_le_right ?_; omega) | (refine Nat.lt_of_le_of_lt Nat.and_le_left ?_; omega) | (refine Nat.xor_lt_two_pow (n := 63) ?_ ?_ <;> omega)))
        | (apply POp.shr; rfl; rfl; (first | with_reducible exact cst _ | with_reducible exact lit _ | exact rfl); (first | with_reducible exact cst _ | with_reducible exact lit _ | exact rfl); omega)
        | (apply POp.shl; rfl; rfl; (first | with_reducible exact cst _ | with_reducible exact lit _ | exact rfl); (first | with_reducible exact cst _ | with_reducible exact lit _ | exact rfl); omega; (first | omega | assumption | decide | (refine Nat.lt_of_le_of_lt (Nat.shiftRight_le _ _) ?_; omega) | (refine Nat.lt_of_le_of_lt Nat.and_le_right ?_; omega) | (refine Nat.lt_of_le_of_lt Nat.and_le_left ?_; omega) | (refine Nat.xor_lt_two_pow (n := 63) ?_ ?_ <;> omega)))
        | (apply POp.quo; rfl; rfl; omega; omega; omega)
        | (apply POp.rem; rfl; rfl; omega; omega)
        | (apply POp.min_int; rfl; rfl)
        | (apply POp.max_int; rfl; rfl)
        | (apply POp.conv_i64; rfl; omega; omega)
        | (apply POp.index_slice; rfl; rfl; omega; omega; (first | (simp only [Nat.zero_add, Nat.add_zero, Nat.mul_one, Int.toNat_natCast, Int.reduceToNat, Nat.reduceMul, Nat.reduceAdd]; done) | (simp only [Nat.zero_add, Nat.add_zero, Nat.mul_one, Int.toNat_natCast, Int.reduceToNat, Nat.reduceMul, Nat.reduceAdd]; rfl) | rfl))
        | (apply POp.index_array; rfl; rfl; omega; omega; (first | (simp only [Nat.zero_add, Nat.add_zero, Nat.mul_one, Int.toNat_natCast, Int.reduceToNat, Nat.reduceMul, Nat.reduceAdd]; done) | (simp only [Nat.zero_add, Nat.add_zero, Nat.mul_one, Int.toNat_natCast, Int.reduceToNat, Nat.reduceMul, Nat.reduceAdd]; rfl) | rfl))
        | (apply POp.makeFunc; rfl; rfl)
        | (apply POp.index_string; rfl; rfl; (first | with_reducible exact cst _ | with_reducible exact lit _ | exact rfl); omega)
        | (apply POp.sub_lh; rfl; rfl; rfl; omega; omega; omega)
        | (apply POp.sub_h; rfl; rfl; omega; omega)
        | (apply POp.sub_l; rfl; rfl; omega; omega)
        | (apply POp.seql; rfl; rfl)
        | (apply POp.sneq; rfl; rfl)
        | (apply POp.conv_u8; rfl; omega; omega)
        | (apply POp.mul; rfl; rfl; omega; omega)
        | (refine POp.pick_t rfl ?_ rfl; (first | with_reducible rfl | assumption | (simp only [Bool.not_true, Bool.not_false]; done) | (simp only [decide_eq_true_eq, decide_eq_false_iff_not, Bool.not_true, Bool.not_false, not_true_eq_false, not_false_eq_true, reduceCtorEq]; first | done | assumption | omega)))
        | (refine POp.pick_f rfl ?_ rfl; (first | with_reducible rfl | assumption | (simp only [Bool.not_true, Bool.not_false]; done) | (simp only [decide_eq_true_eq, decide_eq_false_iff_not, Bool.not_true, Bool.not_false, not_true_eq_false, not_false_eq_true, reduceCtorEq]; first | done | assumption | omega)))
        | (apply POp.neg; rfl; omega; omega)
        | (apply POp.cat; rfl; rfl; omega)
        | (apply POp.beql; rfl; rfl)
        | (apply POp.bneq; rfl; rfl)
        | (apply POp.field; rfl; rfl)
        | (refine POp.fieldAddr rfl rfl)
        | (apply POp.cut_h; rfl; rfl; omega; omega)
        | (apply POp.xor32; rfl; rfl)
        | (apply POp.and32; rfl; rfl)
        | (apply POp.or32; rfl; rfl)
        | (apply POp.add32; rfl; rfl)
        | (apply POp.not32; rfl)
        | (apply POp.shl32; rfl; rfl; (first | with_reducible exact cst _ | with_reducible exact lit _ | exact rfl); omega)
        | (apply POp.shr32; rfl; rfl; (first | with_reducible exact cst _ | with_reducible exact lit _ | exact rfl); omega)
        | (apply POp.conv832; rfl)
        | (apply POp.conv328; rfl)
        | (apply POp.conv648; rfl))
    (hs : (Region.noSelect ol.toArray && Region.free .any ol.toArray listed i && (Region.ready .any ol.toArray listed).contains i) = true := by kernel_rfl)
    (hi : callsB op = false := by exact rfl)
    (hd : Nat.blt d N = true := by exact rfl) : WA P N ds ol (fuel + 1) listed Q E w := WA.take i ho hs hi hp hd h
theorem WL.ga {d : Option Nat} {j : Nat} {want b : Bool} (hj : guardE ol E j = some b) (h : WL P r N ds ol (⟨d, op, ty, pos, af, none⟩ :: rest) Q E w)
    (hb : b = want := by
      first | with_reducible rfl | assumption | (simp only [Bool.not_true, Bool.not_false]; done) | (simp only [decide_eq_true_eq, decide_eq_false_iff_not, Bool.not_true, Bool.not_false, not_true_eq_false, not_false_eq_true, reduceCtorEq]; first | done | assumption | omega)) : WL P r N ds ol (⟨d, op, ty, pos, af, some (j, want)⟩ :: rest) Q E w := WL.gy hj hb h
theorem WL.na {d : Option Nat} {j : Nat} {want b : Bool} (hj : guardE ol E j = some b) (h : WL P r N ds ol rest Q (putE d undef E) w)
    (hb : b = !want := by
      first | with_reducible rfl | assumption | (simp only [Bool.not_true, Bool.not_false]; done) | (simp only [decide_eq_true_eq, decide_eq_false_iff_not, Bool.not_true, Bool.not_false, not_true_eq_false, not_false_eq_true, reduceCtorEq]; first | done | assumption | omega)) (hd : dOk d N = true := by exact rfl) :
    WL P r N ds ol (⟨d, op, ty, pos, af, some (j, want)⟩ :: rest) Q E w := WL.gn hj hb hd h
theorem WC.cond_yes {c : Operand} {x y : Code} {b : Bool} (hc : Env.ev E c = some (.bool b)) (h : WC P r N ds x Q E w)
    (hb : b = true := by
      first | with_reducible rfl | assumption | (simp only [Bool.not_true, Bool.not_false]; done) | (simp only [decide_eq_true_eq, decide_eq_false_iff_not, Bool.not_true, Bool.not_false, not_true_eq_false, not_false_eq_true, reduceCtorEq]; first | done | assumption | omega)) : WC P r N ds (.cond c x y) Q E w := WC.cond_b hc (fun _ => h) (fun e => by rw [hb] at e; cases e)
theorem WC.cond_no {c : Operand} {x y : Code} {b : Bool} (hc : Env.ev E c = some (.bool b)) (h : WC P r N ds y Q E w)
    (hb : b = false := by
      first | with_reducible rfl | assumption | (simp only [Bool.not_true, Bool.not_false]; done) | (simp only [decide_eq_true_eq, decide_eq_false_iff_not, Bool.not_true, Bool.not_false, not_true_eq_false, not_false_eq_true, reduceCtorEq]; first | done | assumption | omega)) : WC P r N ds (.cond c x y) Q E w := WC.cond_b hc (fun e => by rw [hb] at e; cases e) (fun _ => h)
/-- A cut behind a statement that is being walked. -/
theorem WC.cutT {α : Type} {x y : Code} (Ex : α → Env) (M : α → World → Prop)
    (h : WC P r N ds x (Again (fun a' w' => ∃ z, M z w' ∧ Rep N ds (Ex z) a') Q) E w) (h2 : ∀ z w, M z w → WC P r N ds y Q (Ex z) w) : WC P r N ds x (Then P r y Q) E w := by
  intro a ha
  refine wpIn_mono (h a ha) ?_
  intro e a' w' hq
  cases e with
  | normal => obtain ⟨z, h3, h4⟩ := hq; exact h2 z w' h3 a' h4
  | exit id => exact hq
  | goto l => exact hq
  | ret => exact hq
  | panic ch => exact hq
  | outgrown => exact hq
end
end Go.Sx
/- Plain: a row of values by a function; slices that can be read. -/
namespace Go.Sx
open Go Go.RowKit
def row (n : Nat) (f : Nat → Value) : List Value := (List.range n).map f
theorem row_len (n : Nat) (f : Nat → Value) : (row n f).length = n := by simp [row]
theorem row_get {n i : Nat} (f : Nat → Value) (h : i < n) : (row n f)[i]? = some (f i) := by simp [row, h]
theorem row_set (n i : Nat) (f : Nat → Value) (v : Value) : (row n f).set i v = row n (fun j => if j = i then v else f j) := by
  apply List.ext_getElem
  · simp [row]
  · intro j h1 h2
    simp only [row, List.getElem_set, List.getElem_map, List.getElem_range]
    by_cases e : i = j
    · subst e; simp
    · have : ¬ j = i := fun e' => e e'.symm
      simp [e, this]
theorem row_congr {n : Nat} {f g : Nat → Value} (h : ∀ i, i < n → f i = g i) : row n f = row n g := by
  unfold row
  apply List.map_congr_left
  intro i hi
  exact h i (List.mem_range.1 hi)

/-- A slice of one-cell elements that reads as vs. -/
def Rd (w : World) (v : Value) (vs : List Value) : Prop :=
  ∃ a c, v = .slice a vs.length c ∧ vs.length ≤ c ∧ (vs = [] ∨ ∃ b off, a = some ⟨b, off, none⟩ ∧ b < w.heap.size ∧ ∀ i u, vs[i]? = some u → w.cell? ⟨b, off + i, none⟩ = some u)
theorem Rd.ext {w w' : World} {v : Value} {vs : List Value} (h : Rd w v vs) (k : Ext w w') : Rd w' v vs := by
  obtain ⟨a, c, h1, h2, h3⟩ := h
  refine ⟨a, c, h1, h2, ?_⟩
  rcases h3 with h3 | ⟨b, off, h3, h4, h5⟩
  · exact .inl h3
  · exact .inr ⟨b, off, h3, Nat.lt_of_lt_of_le h4 k.size, fun i u hu => cell_ext k (h5 i u hu)⟩
/-- A slice that is not empty: where it lies. -/
theorem Rd.at {w : World} {v : Value} {vs : List Value} (h : Rd w v vs) (hne : vs ≠ []) : ∃ b off c, v = .slice (some ⟨b, off, none⟩) vs.length c ∧ vs.length ≤ c ∧ b < w.heap.size ∧ ∀ i u, vs[i]? = some u → w.cell? ⟨b, off + i, none⟩ = some u := by
  obtain ⟨a, c, h1, h2, h3⟩ := h
  rcases h3 with h3 | ⟨b, off, rfl, h4, h5⟩
  · exact absurd h3 hne
  · exact ⟨b, off, c, h1, h2, h4, h5⟩
theorem Rd.cell {w : World} {b off n c : Nat} {vs : List Value} (h : Rd w (.slice (some ⟨b, off, none⟩) n c) vs) {i : Nat} {u : Value} (hu : vs[i]? = some u) : w.cell? ⟨b, off + i, none⟩ = some u := by
  obtain ⟨a, c', h1, h2, h3⟩ := h
  cases h1
  rcases h3 with rfl | ⟨b', off', h3, h4, h5⟩
  · simp at hu
  · cases h3; exact h5 i u hu
theorem Rd.of_owns {w : World} {base : Nat} {e : TypeId} {v : Value} {n : Nat} {xs : List Value} (h : w.ownsRow base e 1 v n xs) : Rd w v xs := by
  obtain ⟨h1, h2⟩ := h
  rw [Nat.mul_one] at h1
  subst h1
  rcases h2 with ⟨rfl, h2⟩ | ⟨g, cap, cur, rfl, h3, h4, h5, h6, h7, h8⟩
  · have : xs = [] := List.eq_nil_of_length_eq_zero h2
    subst this
    exact ⟨none, 0, rfl, Nat.le_refl _, .inl rfl⟩
  · refine ⟨_, cap, rfl, h5, .inr ⟨g, 0, rfl, (Array.getElem?_eq_some_iff.1 h4).1, fun i u hu => ?_⟩⟩
    have hb : Blk w g cur.toList e := by unfold Blk; simpa using h4
    rw [Nat.zero_add]
    refine hb.cell ?_
    rw [Nat.mul_one] at h8
    rw [← h8, List.getElem?_take] at hu
    split at hu
    · exact hu
    · cases hu




section
variable {P : Program} {r : Option Nat} {N : Nat} {ds : List Deferred} {Q : Post} {E : Env} {w : World} {next : Act → World → Prop} {g : Option (Nat × Bool)}
variable {d : Nat} {t ty : TypeId} {pos : String} {af : Array Edge} {x y : Operand}
/-- A store into a block that is known whole. -/
theorem W1.store' {b i : Nat} {cs : List Value} {e : TypeId} {v : Value} {z : Value} {bb : Nat} [hi : ITy P t z 1 bb] (hx : Env.ev E x = some (.pointer (some ⟨b, i, none⟩))) (hy : Env.ev E y = some v)
    (ha : ∀ vs, v ≠ .agg vs) (ht : ∀ vs, v ≠ .tuple vs) (hb : Blk w b cs e) (hlt : i < cs.length)
    (h : ∀ w1, Upd1 b w w1 → Blk w1 b (cs.set i v) e → NX N ds next E w1) : W1 P r N ds next ⟨none, .store t x y, ty, pos, af, g⟩ Q E w :=
  W1.store hx hy ha ht (hb.cell (v := cs[i]) (by simp [hlt])) (hb.free i)
    (h _ ⟨rfl, rfl, rfl, by simp, fun k hk => Below.heap_setCell _ _ _ _ hk⟩ (hb.set i v))
/-- A struct or an array stored over the whole of its block. -/
theorem W1.storeAgg' {b : Nat} {cs vs : List Value} {e : TypeId} {z : Value} {n bb : Nat} [hi : ITy P t z n bb] (hx : Env.ev E x = some (.pointer (some ⟨b, 0, none⟩))) (hy : Env.ev E y = some (.agg vs.toArray))
    (hn : vs.length = n) (h1 : ∀ v ∈ vs, v.oneCell' = true) (hb : Blk w b cs e) (hl : vs.length = cs.length)
    (h : ∀ w1, Upd1 b w w1 → Blk w1 b vs e → NX N ds next E w1) : W1 P r N ds next ⟨none, .store t x y, ty, pos, af, g⟩ Q E w := by
  have hs := run_storeCells_at P b 0 e vs 0 cs.toArray w hb (by simp [hl]) h1
  refine W1.skip (w' := w.setRow b ((cs.toArray.toList.take (0 + 0) ++ vs ++ cs.toArray.toList.drop (0 + 0 + vs.length)).toArray)) (fun a ha => ?_) rfl rfl (h _ ?_ ?_)
  · simp only [execOp, ha.ev hx, ha.ev hy, Instr.storeAt, Instr.sureAddr, storeVar, Sem.run_bind, Sem.run_pure, Result.andThen]
    subst hn
    simp only [run_sizeOf, Value.cells, List.size_toArray, ne_eq, not_true, if_false]
    simp only [hs]
  · exact ⟨rfl, rfl, rfl, by simp [World.setRow], fun k hk => setRow_other _ _ _ _ hk⟩
  · unfold Blk
    rw [setRow_heap w b _ _ e _ hb]
    simp [hl]
end
end Go.Sx
namespace Go.Sx
open Go Go.RowKit
section
variable {P : Program} {r : Option Nat} {N : Nat} {ds : List Deferred} {ol rest : List Oper} {Q : Post} {E : Env} {w : World} {fuel : Nat} {listed : Array Bool} {next : Act → World → Prop}
variable {op : Op} {ty : TypeId} {pos : String} {af : Array Edge} {v : Value}
theorem QL.nu {d : Option Nat} {j : Nat} {want : Bool} (hj : guardU ol E j = true) (h : QL P r N ds w ol rest Q (putE d undef E)) (hd : dOk d N = true := by exact rfl) :
    QL P r N ds w ol (⟨d, op, ty, pos, af, some (j, want)⟩ :: rest) Q E := by
  intro a ha
  have hy := guardU_spec hj ha
  have hne : ((none : Option Bool) == some want) = false := by cases want <;> rfl
  simp only [wpQuietIn, Region.wanted, hy, hne, Bool.false_eq_true, if_false]
  exact ⟨fun _ _ _ _ => trivial, h _ (ha.putO hd _)⟩
end
end Go.Sx
