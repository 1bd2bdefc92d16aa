/-
  The layer's laws for statements whose order Go leaves open.
-/
import Derived.Test.YtlihcenahjgnmaaGreatDoorSx
import Derived.Sort.QuietThIn
namespace Go.Sx
open Go Go.RowKit

/- ONE WALK FOR EVERY ORDER, where each operation yields one value in every world that extends the first. -/
section quiet
variable {F : Fence} {n : Nat} {P : Program} {ops : Array Oper} {C : World → Prop}
theorem quiet_not_defer {o : Oper} {a : Act} {w : World} {v : Value} (h : o.quietAtIn F n P a C w v) : isDefer o.op = false := by
  unfold Oper.quietAtIn at h
  cases ho : o.op with
  | defer c =>
    simp only [execOp, ho, Sem.run_bind] at h
    cases hr : (resolve a.eval c o.type).run P w <;> simp [hr, Result.andThen, Oper.quietUponIn] at h
  | _ => rfl
theorem wpIn_of_quiet_any {o : Oper} {a : Act} {K : Act → Prop} {K' : Act → World → Prop} {Q' : Post} {w : World} (hC : C w) (h : ∀ a w', C w' → K a → K' a w')
    (ha : o.askedIn F P a C) (hh : o.quietIn F n P a C K) : o.wpIn F n P a w K' Q' := by
  obtain ⟨v, h1, h2⟩ := hh
  have h3 := h1 w hC
  refine ⟨ha w hC, ?_⟩
  rw [semAt_of (quiet_not_defer h3)]
  unfold Oper.quietAtIn at h3
  cases hr : (execOp a.eval o).run P w with
  | halt x w' => rw [hr] at h3; exact h3.elim
  | ok nx w' =>
    rw [hr] at h3
    cases nx with
    | value u => obtain ⟨rfl, rfl⟩ := h3; exact h _ _ hC h2
    | skip => obtain ⟨rfl, rfl⟩ := h3; exact h _ _ hC h2
    | enter f args =>
      obtain ⟨rfl, hn, hc⟩ := h3
      refine ⟨hn, hc.mono ?_⟩
      rintro e w'' ⟨rfl, hw⟩
      exact h _ _ hw h2
    | _ => exact h3.elim
theorem wpOpIn_of_quiet_any {i : Nat} {a : Act} {K : Act → Prop} {K' : Act → World → Prop} {Q' : Post} {w : World} (hC : C w) (h : ∀ a w', C w' → K a → K' a w')
    (hh : qOpIn F n P ops C i K a) : wpOpIn F n P ops Q' i K' a w := by
  unfold qOpIn at hh
  unfold wpOpIn
  cases ho : ops[i]? with
  | none => rw [ho] at hh; exact h _ _ hC hh
  | some o =>
    rw [ho] at hh
    obtain ⟨hq, hh⟩ := hh
    dsimp only
    by_cases hw : Region.wanted o (yielded ops a.tmps) = true
    · rw [if_pos hw] at hh ⊢; exact wpIn_of_quiet_any hC h hq hh
    · rw [if_neg hw] at hh ⊢; exact ⟨hq w hC, h _ _ hC hh⟩
theorem wpAnyIn_of_quiet_any {md : Region.Mode} {Q : Act → Prop} {Q' : Post} (hQ : ∀ a w, C w → Q a → Q' .normal a w) : ∀ (fuel : Nat) (listed : Array Bool) (a : Act) (w : World), C w →
    wpAnyQIn F n P md ops C Q fuel listed a → wpAnyIn F n P md ops Q' fuel listed a w
  | 0, _, _, _, hC, h => ⟨h.1, hQ _ _ hC h.2⟩
  | fuel + 1, _, _, _, hC, h => ⟨fun h0 => hQ _ _ hC (h.1 h0), fun i hi => wpOpIn_of_quiet_any hC (fun a' w' hw' => wpAnyIn_of_quiet_any hQ fuel _ a' w' hw') (h.2 i hi)⟩
theorem wpIn_region_quiet_any {id : Nat} {Q : Post} {a : Act} {w : World} (hm : P.follows .mixedOrders = true) (hB : Region.lexB .any ops = true) (hC : C { w with drawn := w.drawn + 1 })
    (h : wpQuietIn F n P ops C (fun a' => ∀ w', C w' → Q .normal a' w') ops.toList a) : (Code.region id ops true).wpIn F n P Q a w := by
  simp only [Region.lexB, Bool.and_eq_true] at hB
  refine wpIn_region_any hm (wpAnyIn_of_quiet_any (Q := fun a' => ∀ w', C w' → Q .normal a' w') (fun _ w' hw' h => h w' hw') _ _ _ _ hC ?_)
  have := wpAnyQIn_lex (F := F) (n := n) (C := C) (md := .any) hB.1 ops.toList 0 (Array.replicate ops.size false) a (by simp) (by simpa using hB.2) h
  simpa using this
end quiet

def QL (P : Program) (r : Option Nat) (N : Nat) (ds : List Deferred) (w : World) (ol l : List Oper) (Q : Post) (E : Env) : Prop :=
  ∀ a, Rep N ds E a → wpQuietIn (FW r) 0 P ol.toArray (Ext w) (fun a' => ∀ w', Ext w w' → Q .normal a' w') l a
class Mixed (P : Program) : Prop where
  is : P.follows .mixedOrders = true
section
variable {P : Program} {r : Option Nat} {N : Nat} {ds : List Deferred} {ol rest : List Oper} {Q : Post} {E : Env} {w : World}
theorem WC.quiet [hm : Mixed P] {id : Nat} {l : List Oper} (hB : Region.lexB .any l.toArray = true) (h : QL P r N ds w l l Q E) : WC P r N ds (.region id l.toArray true) Q E w := fun a ha =>
  wpIn_region_quiet_any (C := Ext w) hm.is hB (Ext.drew w) (by simpa using h a ha)
theorem QL.nil (h : ∀ w', Ext w w' → WX N ds .normal Q E w') : QL P r N ds w ol [] Q E := fun a ha w' hw' => h w' hw' a ha
theorem QL.step {d : Option Nat} {op : Op} {ty : TypeId} {pos : String} {af : Array Edge} {v : Value} (hd : dOk d N = true)
    (hq : ∀ a, Rep N ds E a → ∀ w', Ext w w' → Oper.quietAtIn (FW r) 0 P ⟨d, op, ty, pos, af, none⟩ a (Ext w) w' v)
    (h : QL P r N ds w ol rest Q (putE d v E)) : QL P r N ds w ol (⟨d, op, ty, pos, af, none⟩ :: rest) Q E := by
  intro a ha
  refine ⟨fun _ _ _ _ => trivial, ?_⟩
  simp only [Region.wanted, if_true]
  exact ⟨v, fun w' hw' => hq a ha w' hw', h _ (ha.putO hd v)⟩
theorem QL.p {d : Nat} {op : Op} {ty : TypeId} {pos : String} {af : Array Edge} {v : Value} (hp : POp P N ds E op ty v) (hd : Nat.blt d N = true)
    (h : QL P r N ds w ol rest Q ((d, v) :: E)) : QL P r N ds w ol (⟨some d, op, ty, pos, af, none⟩ :: rest) Q E :=
  QL.step hd (fun a ha w' _ => by unfold Oper.quietAtIn; rw [hp a ha]; exact ⟨rfl, rfl⟩) h
theorem QL.load {d : Nat} {t ty : TypeId} {x : Operand} {pos : String} {af : Array Edge} {a : Addr} {v : Value} [ht : ATy P t false] (hx : Env.ev E x = some (.pointer (some a)))
    (hc : w.cell? a = some v) (hd : Nat.blt d N = true) (h : QL P r N ds w ol rest Q ((d, v) :: E)) : QL P r N ds w ol (⟨some d, .load t x, ty, pos, af, none⟩ :: rest) Q E :=
  QL.step hd (fun b hb w' hw' => by
    have hc' := cell_ext hw' hc
    have : (execOp b.eval ⟨some d, .load t x, ty, pos, af, none⟩).run P w' = .ok (.value v) w' := by
      simp only [execOp, hb.ev hx, Instr.loadAt, Instr.sureAddr, loadVar, Sem.run_bind, Sem.run_pure]
      simp [run_isAgg, Go.load, Sem.run, hc', Result.andThen]
    unfold Oper.quietAtIn; rw [this]; exact ⟨rfl, rfl⟩) h
theorem QL.call {d : Option Nat} {f : FuncId} {args : List Operand} {ats : Array TypeId} {ty : TypeId} {pos : String} {af : Array Edge} {vs : List Value} {v : Value}
    [hf : CallOk P f] (ha : Env.evs E args = some vs) (hd : dOk d N = true) (hc : ∀ w', Ext w w' → Fn P f vs.toArray w' fun u w'' => u = v ∧ Ext w' w'')
    (h : QL P r N ds w ol rest Q (putE d v E)) : QL P r N ds w ol (⟨d, .call ⟨.value (.func f), args.toArray, ats⟩, ty, pos, af, none⟩ :: rest) Q E :=
  QL.step hd (fun a hr w' hw' => by
    have hrun : (execOp a.eval ⟨d, .call ⟨.value (.func f), args.toArray, ats⟩, ty, pos, af, none⟩).run P w' = .ok (.enter f vs.toArray) w' := by
      have hm : Array.map a.eval args.toArray = vs.toArray := by simp [hr.evs ha]
      simp [execOp, resolve, hm, Act.eval, Deferred.ofValue, invoke, hf.run]
    unfold Oper.quietAtIn; rw [hrun]
    refine ⟨rfl, fun h => by simp [FW] at h, trivial, fun cs _ => ?_⟩
    obtain ⟨e, w'', fr, ⟨u, he, rfl, hx⟩, hs, hfr⟩ := hc w' hw' cs
    subst he
    exact ⟨_, w'', fr, ⟨rfl, hw'.trans hx⟩, comesIn_wide.2 hs, hfr⟩) h
theorem QL.gy {d : Option Nat} {op : Op} {ty : TypeId} {pos : String} {af : Array Edge} {j : Nat} {want b : Bool} (hj : guardE ol E j = some b) (hb : b = want)
    (h : QL P r N ds w ol (⟨d, op, ty, pos, af, none⟩ :: rest) Q E) : QL P r N ds w ol (⟨d, op, ty, pos, af, some (j, want)⟩ :: rest) Q E := by
  intro a ha
  have h1 := h a ha
  have hy := guardE_spec hj ha
  simp only [wpQuietIn, Region.wanted, if_true] at h1
  simp only [wpQuietIn, Region.wanted, hy, hb, beq_self_eq_true, if_true]
  exact h1
theorem QL.gn {d : Option Nat} {op : Op} {ty : TypeId} {pos : String} {af : Array Edge} {j : Nat} {want b : Bool} (hj : guardE ol E j = some b) (hb : b = !want) (hd : dOk d N = true)
    (h : QL P r N ds w ol rest Q (putE d undef E)) : QL P r N ds w ol (⟨d, op, ty, pos, af, some (j, want)⟩ :: rest) Q E := by
  intro a ha
  have hy := guardE_spec hj ha
  have hne : ((some (!want) : Option Bool) == some want) = false := by cases want <;> rfl
  simp only [wpQuietIn, Region.wanted, hy, hb, hne, Bool.false_eq_true, if_false]
  exact ⟨fun _ _ _ _ => trivial, h _ (ha.putO hd _)⟩
end

/- EVERY ORDER, one after another: an operation that asks nothing of the world may be taken first. -/
class QPanic (Q : Post) : Prop where
  is : ∀ c (a : Act) d v w, Q (.panic c) (a.put d v) w → Q (.panic c) a w
theorem put_defers (a : Act) (d : Option Nat) (v : Value) : (a.put d v).defers = a.defers := by cases d <;> rfl
instance {P : Program} {r : Option Nat} {y : Code} {Q : Post} [h : QPanic Q] : QPanic (Then P r y Q) := ⟨fun c a d v w hq => h.is c a d v w hq⟩
instance {I : Act → World → Prop} {Q : Post} [h : QPanic Q] : QPanic (Again I Q) := ⟨fun c a d v w hq => h.is c a d v w hq⟩
instance {id : Nat} {Q : Post} [h : QPanic Q] : QPanic (Exit.inBlock id Q) := ⟨fun c a d v w hq => h.is c a d v w hq⟩
instance {P : Program} {fn : Func} {R : Ending → World → Prop} : QPanic (bodyPost P fn R) := ⟨fun c a d v w hq => by
  simp only [bodyPost, put_defers] at hq ⊢; exact hq⟩

def callsB (op : Op) : Bool := match op with | .call ⟨.value _, _, _⟩ | .call ⟨.invoke _ _, _, _⟩ => true | _ => false
def WA (P : Program) (N : Nat) (ds : List Deferred) (ol : List Oper) (fuel : Nat) (listed : Array Bool) (Q : Post) (E : Env) (w : World) : Prop :=
  ∀ a, Rep N ds E a → wpAnyIn (FW none) 0 P .any ol.toArray Q fuel listed a w
/-- Operation i comes next. -/
def WO (P : Program) (N : Nat) (ds : List Deferred) (ol : List Oper) (fuel : Nat) (listed : Array Bool) (i : Nat) (o : Oper) (Q : Post) (E : Env) (w : World) : Prop :=
  ∀ a, Rep N ds E a → if Region.wanted o (yielded ol.toArray a.tmps) then o.wpIn (FW none) 0 P a w (wpAnyIn (FW none) 0 P .any ol.toArray Q fuel (listed.setIfInBounds i true)) Q
    else wpAnyIn (FW none) 0 P .any ol.toArray Q fuel (listed.setIfInBounds i true) (a.put o.dst undef) w
section
variable {P : Program} {N : Nat} {ds : List Deferred} {ol rest : List Oper} {Q : Post} {E : Env} {w : World} {fuel : Nat} {listed : Array Bool} {i : Nat}
variable {d : Option Nat} {op : Op} {ty : TypeId} {pos : String} {af : Array Edge}
theorem WC.any [hm : Mixed P] {id : Nat} {l : List Oper} {fuel : Nat} (hf : l.length = fuel) (h : ∀ w', Ext w w' → w'.heap = w.heap → WA P N ds l fuel (Array.replicate l.length false) Q E w') :
    WC P none N ds (.region id l.toArray true) Q E w := fun a ha =>
  wpIn_region_any hm.is (by subst hf; simpa using h w.drew (Ext.drew w) rfl a ha)
theorem WA.take {d : Nat} {v : Value} [hq : QPanic Q] (i : Nat) (ho : ol[i]? = some ⟨some d, op, ty, pos, af, none⟩) (hs : (Region.noSelect ol.toArray && Region.free .any ol.toArray listed i && (Region.ready .any ol.toArray listed).contains i) = true)
    (hi : callsB op = false)
    (hp : POp P N ds E op ty v) (hd : Nat.blt d N = true) (h : WA P N ds ol fuel (listed.setIfInBounds i true) Q ((d, v) :: E) w) : WA P N ds ol (fuel + 1) listed Q E w := by
  intro a ha
  simp only [Bool.and_eq_true] at hs
  have ho' : ol.toArray[i]? = some ⟨some d, op, ty, pos, af, none⟩ := by simpa using ho
  refine wpAnyIn_take (F := FW none) rfl ho' hs.1.1 hs.1.2 hs.2 (fun c a w => hq.is c a _ _ w) ⟨.inl ⟨rfl, fun w => hp a ha _ _ _ _ _⟩, fun w => ?_⟩ (h _ (ha.put hd v))
  unfold Oper.about
  cases op with
  | call c =>
    obtain ⟨cal, args, ats⟩ := c
    cases cal with
    | builtin b => simp [resolve, Target.leads]
    | value f => cases hi
    | invoke f m => cases hi
  | _ => rfl
/-- A guarded operation that is not wanted. -/
theorem WA.drop {j : Nat} {want b : Bool} [hq : QPanic Q] (i : Nat) (ho : ol[i]? = some ⟨d, op, ty, pos, af, some (j, want)⟩) (hs : (Region.noSelect ol.toArray && Region.free .any ol.toArray listed i && (Region.ready .any ol.toArray listed).contains i) = true)
    (hi : callsB op = false)
    (hj : guardE ol E j = some b) (hb : b = !want) (hd : dOk d N = true) (h : WA P N ds ol fuel (listed.setIfInBounds i true) Q (putE d undef E) w) : WA P N ds ol (fuel + 1) listed Q E w := by
  intro a ha
  simp only [Bool.and_eq_true] at hs
  have ho' : ol.toArray[i]? = some ⟨d, op, ty, pos, af, some (j, want)⟩ := by simpa using ho
  have hy := guardE_spec hj ha
  have hne : ((some (!want) : Option Bool) == some want) = false := by cases want <;> rfl
  refine wpAnyIn_take (F := FW none) rfl ho' hs.1.1 hs.1.2 hs.2 (fun c a w => hq.is c a _ _ w) ⟨.inr ⟨by simp only [Region.wanted, hy, hb, hne], rfl⟩, fun w => ?_⟩ (h _ (ha.putO hd undef))
  unfold Oper.about
  cases op with
  | call c =>
    obtain ⟨cal, args, ats⟩ := c
    cases cal with
    | builtin b => simp [resolve, Target.leads]
    | value f => cases hi
    | invoke f m => cases hi
  | _ => rfl
theorem WA.take_g {d : Nat} {v : Value} {j : Nat} {want b : Bool} [hq : QPanic Q] (i : Nat) (ho : ol[i]? = some ⟨some d, op, ty, pos, af, some (j, want)⟩) (hs : (Region.noSelect ol.toArray && Region.free .any ol.toArray listed i && (Region.ready .any ol.toArray listed).contains i) = true)
    (hi : callsB op = false)
    (hj : guardE ol E j = some b) (hb : b = want) (hp : POp P N ds E op ty v) (hd : Nat.blt d N = true) (h : WA P N ds ol fuel (listed.setIfInBounds i true) Q ((d, v) :: E) w) : WA P N ds ol (fuel + 1) listed Q E w := by
  intro a ha
  simp only [Bool.and_eq_true] at hs
  have ho' : ol.toArray[i]? = some ⟨some d, op, ty, pos, af, some (j, want)⟩ := by simpa using ho
  have hy := guardE_spec hj ha
  refine wpAnyIn_take (F := FW none) rfl ho' hs.1.1 hs.1.2 hs.2 (fun c a w => hq.is c a _ _ w) ⟨.inl ⟨by simp only [Region.wanted, hy, hb, beq_self_eq_true], fun w => hp a ha _ _ _ _ _⟩, fun w => ?_⟩ (h _ (ha.put hd v))
  unfold Oper.about
  cases op with
  | call c =>
    obtain ⟨cal, args, ats⟩ := c
    cases cal with
    | builtin b => simp [resolve, Target.leads]
    | value f => cases hi
    | invoke f m => cases hi
  | _ => rfl
theorem WA.done (hr : Region.ready .any ol.toArray listed = []) (h : WX N ds .normal Q E w) : WA P N ds ol fuel listed Q E w := fun a ha => wpAnyIn_done hr (h a ha) _
def AllO (P : Program) (N : Nat) (ds : List Deferred) (ol : List Oper) (fuel : Nat) (listed : Array Bool) (Q : Post) (E : Env) (w : World) : List Nat → Prop
  | [] => True
  | i :: l => (∃ o, ol[i]? = some o ∧ WO P N ds ol fuel listed i o Q E w) ∧ AllO P N ds ol fuel listed Q E w l
theorem WA.all (rs : List Nat) (hr : Region.ready .any ol.toArray listed = rs) (hne : rs.isEmpty = false) (h : AllO P N ds ol fuel listed Q E w rs) : WA P N ds ol (fuel + 1) listed Q E w := by
  intro a ha
  refine wpAnyIn_all hr (by intro e; rw [e] at hne; cases hne) ?_
  clear hr hne
  induction rs with
  | nil => intro i hi; cases hi
  | cons i l ih =>
    intro j hj
    rcases List.mem_cons.1 hj with rfl | hj
    · obtain ⟨o, ho, h1⟩ := h.1
      have ho' : ol.toArray[j]? = some o := by simpa using ho
      unfold wpOpIn
      rw [ho']
      have h2 := h1 a ha
      dsimp only
      split
      · rename_i hw; rw [if_pos hw] at h2; exact h2
      · rename_i hw; rw [if_neg hw] at h2; exact ⟨fun _ _ => trivial, h2⟩
    · exact ih h.2 j hj
theorem WA.fold (h : WA P N ds ol fuel listed Q E w) : NX N ds (wpAnyIn (FW none) 0 P .any ol.toArray Q fuel listed) E w := h
theorem WO.one (h : W1 P none N ds (wpAnyIn (FW none) 0 P .any ol.toArray Q fuel (listed.setIfInBounds i true)) ⟨d, op, ty, pos, af, none⟩ Q E w) :
    WO P N ds ol fuel listed i ⟨d, op, ty, pos, af, none⟩ Q E w := fun a ha => by
  simp only [Region.wanted, if_true]
  exact h a ha
theorem WO.one_g {j : Nat} {want b : Bool} (hj : guardE ol E j = some b) (hb : b = want)
    (h : W1 P none N ds (wpAnyIn (FW none) 0 P .any ol.toArray Q fuel (listed.setIfInBounds i true)) ⟨d, op, ty, pos, af, some (j, want)⟩ Q E w) :
    WO P N ds ol fuel listed i ⟨d, op, ty, pos, af, some (j, want)⟩ Q E w := fun a ha => by
  have hy := guardE_spec hj ha
  simp only [Region.wanted, hy, hb, beq_self_eq_true, if_true]
  exact h a ha
end
end Go.Sx

